/- Each function of the program that is reached computes the datum printed here: no condition beyond the arguments that its contract names. -/
import Derived.Test.YteadknjgpmnigaaNxp
import Derived.Test.YteadknjgpmnigaaChecked
import Derived.KernelRfl
namespace Go.Proofs.Yteadknjgpmnigaa.C
open Go Go.Proofs.Yteadknjgpmnigaa.Nx Go.RowKit
set_option maxRecDepth 100000
set_option linter.unusedVariables false
abbrev I : Ty := .i .i64
abbrev tItem : Ty := (.st (.pr .tx .bl))
abbrev tShelf : Ty := (.st (.pr I (.sl tItem)))
abbrev tPeer : Ty := (.st (.pr I (.pr .bl (.pr I (.pr (.sl I) (.pr (.sl I) (.sl tShelf)))))))
abbrev tRing : Ty := (.st (.sl tPeer))
theorem mixed : Try.prog.follows .mixedOrders = true := by kernel_rfl

/-- loop.example/g00474/laws.szIntS -/
def x_laws_szIntS (N : Nat) (a0 : (List Int)) (a1 : Int) : Option Int :=
  (bif (decide ((wrap64 (a1 - (a0.length : Int))) < (0 : Int))) then some (-1 : Int) else some (wrap64 (a1 - (a0.length : Int))))
abbrev ct_laws_szIntS (N : Nat) : CT := ⟨166, (.pr (.d (.sl I)) (.d I)), (.t I), fun a => x_laws_szIntS N a.1 a.2⟩
theorem c_laws_szIntS (N : Nat) : CTok Try.prog (ct_laws_szIntS N) :=
  CT_ok (Γ := []) (Θ := []) (Λ := ([] : List (LC (DenR (.t I))))) (by kernel_rfl) mixed trivial (by kernel_rfl)
    trivial (by kernel_rfl) (fun a => by kernel_rfl)

/-- loop.example/g00474/laws.szItem -/
def x_laws_szItem (N : Nat) (a0 : (Den tItem)) (a1 : Int) : Option Int :=
  (bif (decide ((wrap64 (a1 - (a0.1.size : Int))) < (0 : Int))) then some (-1 : Int) else some (wrap64 (a1 - (a0.1.size : Int))))
abbrev ct_laws_szItem (N : Nat) : CT := ⟨225, (.pr (.d tItem) (.d I)), (.t I), fun a => x_laws_szItem N a.1 a.2⟩
theorem c_laws_szItem (N : Nat) : CTok Try.prog (ct_laws_szItem N) :=
  CT_ok (Γ := []) (Θ := []) (Λ := ([] : List (LC (DenR (.t I))))) (by kernel_rfl) mixed trivial (by kernel_rfl)
    trivial (by kernel_rfl) (fun a => by kernel_rfl)

/-- a round -/
def B_laws_szItemS_L0 (N : Nat) {Ω : Type} (kx : DenS (.d 1 I) → Option Ω) (kr : Int → Option Ω) (rec_ : DenS (.pr (.d 0 (.sl tItem)) (.pr (.d 1 I) (.d 5 I))) → Option Ω) : DenS (.pr (.d 0 (.sl tItem)) (.pr (.d 1 I) (.d 5 I))) → Option Ω := fun (s0, s1, s5) =>
  (bif (decide (s5 < (s0.length : Int))) then (bif (decide (0 ≤ s5) && decide (s5 < s0.length)) then (x_laws_szItem N (s0.getD s5.toNat (dft tItem)) s1).bind fun r1 => (bif (decide (r1 < (0 : Int))) then kr (-1 : Int) else rec_ (s0, r1, (wrap64 (s5 + (1 : Int))))) else none) else kx s1)
/-- loop.example/g00474/laws.szItemS -/
def x_laws_szItemS (N : Nat) (a0 : (List (Den tItem))) (a1 : Int) : Option Int :=
  (bif (decide ((wrap64 (a1 - (a0.length : Int))) < (0 : Int))) then some (-1 : Int) else iter (B_laws_szItemS_L0 N (fun x2 => some x2) (fun ρ3 => some (ρ3))) N (a0, (wrap64 (a1 - (a0.length : Int))), (0 : Int)))
abbrev ct_laws_szItemS (N : Nat) : CT := ⟨222, (.pr (.d (.sl tItem)) (.d I)), (.t I), fun a => x_laws_szItemS N a.1 a.2⟩
theorem c_laws_szItemS (N : Nat) : CTok Try.prog (ct_laws_szItemS N) :=
  CT_ok (Γ := [ct_laws_szItem N]) (Θ := []) (Λ := ([⟨0, (.pr (.d 0 (.sl tItem)) (.pr (.d 1 I) (.d 5 I))), (.d 1 I), fun {Ω} kx kr => iter (B_laws_szItemS_L0 N kx kr) N⟩] : List (LC (DenR (.t I))))) (by kernel_rfl) mixed ⟨c_laws_szItem N, trivial⟩ (by kernel_rfl)
    ⟨LoopEq.mk N (fun Ω kx kr => B_laws_szItemS_L0 N kx kr) (fun Ω g kx kr s => by kernel_rfl), trivial⟩ (by kernel_rfl) (fun a => by kernel_rfl)

/-- loop.example/g00474/laws.szShelf -/
def x_laws_szShelf (N : Nat) (a0 : (Den tShelf)) (a1 : Int) : Option Int :=
  (x_laws_szItemS N a0.2 a1).bind fun r1 => (bif (decide (r1 < (0 : Int))) then some (-1 : Int) else some r1)
abbrev ct_laws_szShelf (N : Nat) : CT := ⟨218, (.pr (.d tShelf) (.d I)), (.t I), fun a => x_laws_szShelf N a.1 a.2⟩
theorem c_laws_szShelf (N : Nat) : CTok Try.prog (ct_laws_szShelf N) :=
  CT_ok (Γ := [ct_laws_szItemS N]) (Θ := []) (Λ := ([] : List (LC (DenR (.t I))))) (by kernel_rfl) mixed ⟨c_laws_szItemS N, trivial⟩ (by kernel_rfl)
    trivial (by kernel_rfl) (fun a => by kernel_rfl)

/-- a round -/
def B_laws_szShelfS_L0 (N : Nat) {Ω : Type} (kx : DenS (.d 1 I) → Option Ω) (kr : Int → Option Ω) (rec_ : DenS (.pr (.d 0 (.sl tShelf)) (.pr (.d 1 I) (.d 5 I))) → Option Ω) : DenS (.pr (.d 0 (.sl tShelf)) (.pr (.d 1 I) (.d 5 I))) → Option Ω := fun (s0, s1, s5) =>
  (bif (decide (s5 < (s0.length : Int))) then (bif (decide (0 ≤ s5) && decide (s5 < s0.length)) then (x_laws_szShelf N (s0.getD s5.toNat (dft tShelf)) s1).bind fun r1 => (bif (decide (r1 < (0 : Int))) then kr (-1 : Int) else rec_ (s0, r1, (wrap64 (s5 + (1 : Int))))) else none) else kx s1)
/-- loop.example/g00474/laws.szShelfS -/
def x_laws_szShelfS (N : Nat) (a0 : (List (Den tShelf))) (a1 : Int) : Option Int :=
  (bif (decide ((wrap64 (a1 - (a0.length : Int))) < (0 : Int))) then some (-1 : Int) else iter (B_laws_szShelfS_L0 N (fun x2 => some x2) (fun ρ3 => some (ρ3))) N (a0, (wrap64 (a1 - (a0.length : Int))), (0 : Int)))
abbrev ct_laws_szShelfS (N : Nat) : CT := ⟨209, (.pr (.d (.sl tShelf)) (.d I)), (.t I), fun a => x_laws_szShelfS N a.1 a.2⟩
theorem c_laws_szShelfS (N : Nat) : CTok Try.prog (ct_laws_szShelfS N) :=
  CT_ok (Γ := [ct_laws_szShelf N]) (Θ := []) (Λ := ([⟨0, (.pr (.d 0 (.sl tShelf)) (.pr (.d 1 I) (.d 5 I))), (.d 1 I), fun {Ω} kx kr => iter (B_laws_szShelfS_L0 N kx kr) N⟩] : List (LC (DenR (.t I))))) (by kernel_rfl) mixed ⟨c_laws_szShelf N, trivial⟩ (by kernel_rfl)
    ⟨LoopEq.mk N (fun Ω kx kr => B_laws_szShelfS_L0 N kx kr) (fun Ω g kx kr s => by kernel_rfl), trivial⟩ (by kernel_rfl) (fun a => by kernel_rfl)

/-- loop.example/g00474/laws.szPeer -/
def x_laws_szPeer (N : Nat) (a0 : (Den tPeer)) (a1 : Int) : Option Int :=
  (x_laws_szIntS N a0.2.2.2.1 a1).bind fun r1 => (bif (decide (r1 < (0 : Int))) then some (-1 : Int) else (x_laws_szIntS N a0.2.2.2.2.1 r1).bind fun r2 => (bif (decide (r2 < (0 : Int))) then some (-1 : Int) else (x_laws_szShelfS N a0.2.2.2.2.2 r2).bind fun r3 => (bif (decide (r3 < (0 : Int))) then some (-1 : Int) else some r3)))
abbrev ct_laws_szPeer (N : Nat) : CT := ⟨179, (.pr (.d tPeer) (.d I)), (.t I), fun a => x_laws_szPeer N a.1 a.2⟩
theorem c_laws_szPeer (N : Nat) : CTok Try.prog (ct_laws_szPeer N) :=
  CT_ok (Γ := [ct_laws_szIntS N, ct_laws_szShelfS N]) (Θ := []) (Λ := ([] : List (LC (DenR (.t I))))) (by kernel_rfl) mixed ⟨c_laws_szIntS N, ⟨c_laws_szShelfS N, trivial⟩⟩ (by kernel_rfl)
    trivial (by kernel_rfl) (fun a => by kernel_rfl)

/-- a round -/
def B_laws_szPeerS_L0 (N : Nat) {Ω : Type} (kx : DenS (.d 1 I) → Option Ω) (kr : Int → Option Ω) (rec_ : DenS (.pr (.d 0 (.sl tPeer)) (.pr (.d 1 I) (.d 5 I))) → Option Ω) : DenS (.pr (.d 0 (.sl tPeer)) (.pr (.d 1 I) (.d 5 I))) → Option Ω := fun (s0, s1, s5) =>
  (bif (decide (s5 < (s0.length : Int))) then (bif (decide (0 ≤ s5) && decide (s5 < s0.length)) then (x_laws_szPeer N (s0.getD s5.toNat (dft tPeer)) s1).bind fun r1 => (bif (decide (r1 < (0 : Int))) then kr (-1 : Int) else rec_ (s0, r1, (wrap64 (s5 + (1 : Int))))) else none) else kx s1)
/-- loop.example/g00474/laws.szPeerS -/
def x_laws_szPeerS (N : Nat) (a0 : (List (Den tPeer))) (a1 : Int) : Option Int :=
  (bif (decide ((wrap64 (a1 - (a0.length : Int))) < (0 : Int))) then some (-1 : Int) else iter (B_laws_szPeerS_L0 N (fun x2 => some x2) (fun ρ3 => some (ρ3))) N (a0, (wrap64 (a1 - (a0.length : Int))), (0 : Int)))
abbrev ct_laws_szPeerS (N : Nat) : CT := ⟨121, (.pr (.d (.sl tPeer)) (.d I)), (.t I), fun a => x_laws_szPeerS N a.1 a.2⟩
theorem c_laws_szPeerS (N : Nat) : CTok Try.prog (ct_laws_szPeerS N) :=
  CT_ok (Γ := [ct_laws_szPeer N]) (Θ := []) (Λ := ([⟨0, (.pr (.d 0 (.sl tPeer)) (.pr (.d 1 I) (.d 5 I))), (.d 1 I), fun {Ω} kx kr => iter (B_laws_szPeerS_L0 N kx kr) N⟩] : List (LC (DenR (.t I))))) (by kernel_rfl) mixed ⟨c_laws_szPeer N, trivial⟩ (by kernel_rfl)
    ⟨LoopEq.mk N (fun Ω kx kr => B_laws_szPeerS_L0 N kx kr) (fun Ω g kx kr s => by kernel_rfl), trivial⟩ (by kernel_rfl) (fun a => by kernel_rfl)

/-- loop.example/g00474/laws.szRing -/
def x_laws_szRing (N : Nat) (a0 : (Den tRing)) (a1 : Int) : Option Int :=
  (x_laws_szPeerS N a0 a1).bind fun r1 => (bif (decide (r1 < (0 : Int))) then some (-1 : Int) else some r1)
abbrev ct_laws_szRing (N : Nat) : CT := ⟨52, (.pr (.d tRing) (.d I)), (.t I), fun a => x_laws_szRing N a.1 a.2⟩
theorem c_laws_szRing (N : Nat) : CTok Try.prog (ct_laws_szRing N) :=
  CT_ok (Γ := [ct_laws_szPeerS N]) (Θ := []) (Λ := ([] : List (LC (DenR (.t I))))) (by kernel_rfl) mixed ⟨c_laws_szPeerS N, trivial⟩ (by kernel_rfl)
    trivial (by kernel_rfl) (fun a => by kernel_rfl)

/-- a round -/
def B_laws_toIntS_L0 (N : Nat) {Ω : Type} (kx : DenS (.o 3 I) → Option Ω) (kr : (List Int) → Option Ω) (rec_ : DenS (.pr (.d 0 (.sl I)) (.pr (.o 3 I) (.d 4 I))) → Option Ω) : DenS (.pr (.d 0 (.sl I)) (.pr (.o 3 I) (.d 4 I))) → Option Ω := fun (s0, s3, s4) =>
  (bif (decide (s4 < (s0.length : Int))) then (bif (decide (0 ≤ s4) && decide (s4 < s0.length)) then (bif (decide (0 ≤ s4) && decide (s4 < s3.length)) then rec_ (s0, (s3.set s4.toNat (s0.getD s4.toNat (0 : Int))), (wrap64 (s4 + (1 : Int)))) else none) else none) else kx s3)
/-- loop.example/g00474/laws.toIntS -/
def x_laws_toIntS (N : Nat) (a0 : (List Int)) : Option (List Int) :=
  (bif (decide ((a0.length : Int) = (a0.length : Int)) && (decide (0 ≤ (a0.length : Int)) && (decide ((a0.length : Int) * (8 : Nat) ≤ 140737488355328) && decide ((a0.length : Int) ≤ 9223372036854775807)))) then iter (B_laws_toIntS_L0 N (fun x1 => some x1) (fun ρ2 => some (ρ2))) N (a0, (List.replicate (a0.length : Int).toNat (0 : Int)), (0 : Int)) else none)
abbrev ct_laws_toIntS (N : Nat) : CT := ⟨80, (.d (.sl I)), (.t (.sl I)), fun a => x_laws_toIntS N a⟩
theorem c_laws_toIntS (N : Nat) : CTok Try.prog (ct_laws_toIntS N) :=
  CT_ok (Γ := []) (Θ := [(7, I)]) (Λ := ([⟨0, (.pr (.d 0 (.sl I)) (.pr (.o 3 I) (.d 4 I))), (.o 3 I), fun {Ω} kx kr => iter (B_laws_toIntS_L0 N kx kr) N⟩] : List (LC (DenR (.t (.sl I)))))) (by kernel_rfl) mixed trivial (by kernel_rfl)
    ⟨LoopEq.mk N (fun Ω kx kr => B_laws_toIntS_L0 N kx kr) (fun Ω g kx kr s => by kernel_rfl), trivial⟩ (by kernel_rfl) (fun a => by kernel_rfl)

/-- loop.example/g00474/laws.toItem -/
def x_laws_toItem (N : Nat) (a0 : (Den tItem)) : Option (Den tItem) :=
  some a0
abbrev ct_laws_toItem (N : Nat) : CT := ⟨226, (.d tItem), (.t tItem), fun a => x_laws_toItem N a⟩
theorem c_laws_toItem (N : Nat) : CTok Try.prog (ct_laws_toItem N) :=
  CT_ok (Γ := []) (Θ := []) (Λ := ([] : List (LC (DenR (.t tItem))))) (by kernel_rfl) mixed trivial (by kernel_rfl)
    trivial (by kernel_rfl) (fun a => by kernel_rfl)

/-- a round -/
def B_laws_toItemS_L0 (N : Nat) {Ω : Type} (kx : DenS (.o 3 tItem) → Option Ω) (kr : (List (Den tItem)) → Option Ω) (rec_ : DenS (.pr (.d 0 (.sl tItem)) (.pr (.o 3 tItem) (.d 4 I))) → Option Ω) : DenS (.pr (.d 0 (.sl tItem)) (.pr (.o 3 tItem) (.d 4 I))) → Option Ω := fun (s0, s3, s4) =>
  (bif (decide (s4 < (s0.length : Int))) then (bif (decide (0 ≤ s4) && decide (s4 < s0.length)) then (x_laws_toItem N (s0.getD s4.toNat (dft tItem))).bind fun r1 => (bif (decide (0 ≤ s4) && decide (s4 < s3.length)) then rec_ (s0, (s3.set s4.toNat r1), (wrap64 (s4 + (1 : Int)))) else none) else none) else kx s3)
/-- loop.example/g00474/laws.toItemS -/
def x_laws_toItemS (N : Nat) (a0 : (List (Den tItem))) : Option (List (Den tItem)) :=
  (bif (decide ((a0.length : Int) = (a0.length : Int)) && (decide (0 ≤ (a0.length : Int)) && (decide ((a0.length : Int) * (24 : Nat) ≤ 140737488355328) && decide ((a0.length : Int) ≤ 9223372036854775807)))) then iter (B_laws_toItemS_L0 N (fun x2 => some x2) (fun ρ3 => some (ρ3))) N (a0, (List.replicate (a0.length : Int).toNat (dft tItem)), (0 : Int)) else none)
abbrev ct_laws_toItemS (N : Nat) : CT := ⟨223, (.d (.sl tItem)), (.t (.sl tItem)), fun a => x_laws_toItemS N a⟩
theorem c_laws_toItemS (N : Nat) : CTok Try.prog (ct_laws_toItemS N) :=
  CT_ok (Γ := [ct_laws_toItem N]) (Θ := [(7, tItem)]) (Λ := ([⟨0, (.pr (.d 0 (.sl tItem)) (.pr (.o 3 tItem) (.d 4 I))), (.o 3 tItem), fun {Ω} kx kr => iter (B_laws_toItemS_L0 N kx kr) N⟩] : List (LC (DenR (.t (.sl tItem)))))) (by kernel_rfl) mixed ⟨c_laws_toItem N, trivial⟩ (by kernel_rfl)
    ⟨LoopEq.mk N (fun Ω kx kr => B_laws_toItemS_L0 N kx kr) (fun Ω g kx kr s => by kernel_rfl), trivial⟩ (by kernel_rfl) (fun a => by kernel_rfl)

/-- loop.example/g00474/laws.toShelf -/
def x_laws_toShelf (N : Nat) (a0 : (Den tShelf)) : Option (Den tShelf) :=
  (x_laws_toItemS N a0.2).bind fun r1 => some (a0.1, r1)
abbrev ct_laws_toShelf (N : Nat) : CT := ⟨219, (.d tShelf), (.t tShelf), fun a => x_laws_toShelf N a⟩
theorem c_laws_toShelf (N : Nat) : CTok Try.prog (ct_laws_toShelf N) :=
  CT_ok (Γ := [ct_laws_toItemS N]) (Θ := []) (Λ := ([] : List (LC (DenR (.t tShelf))))) (by kernel_rfl) mixed ⟨c_laws_toItemS N, trivial⟩ (by kernel_rfl)
    trivial (by kernel_rfl) (fun a => by kernel_rfl)

/-- a round -/
def B_laws_toShelfS_L0 (N : Nat) {Ω : Type} (kx : DenS (.o 3 tShelf) → Option Ω) (kr : (List (Den tShelf)) → Option Ω) (rec_ : DenS (.pr (.d 0 (.sl tShelf)) (.pr (.o 3 tShelf) (.d 4 I))) → Option Ω) : DenS (.pr (.d 0 (.sl tShelf)) (.pr (.o 3 tShelf) (.d 4 I))) → Option Ω := fun (s0, s3, s4) =>
  (bif (decide (s4 < (s0.length : Int))) then (bif (decide (0 ≤ s4) && decide (s4 < s0.length)) then (x_laws_toShelf N (s0.getD s4.toNat (dft tShelf))).bind fun r1 => (bif (decide (0 ≤ s4) && decide (s4 < s3.length)) then rec_ (s0, (s3.set s4.toNat r1), (wrap64 (s4 + (1 : Int)))) else none) else none) else kx s3)
/-- loop.example/g00474/laws.toShelfS -/
def x_laws_toShelfS (N : Nat) (a0 : (List (Den tShelf))) : Option (List (Den tShelf)) :=
  (bif (decide ((a0.length : Int) = (a0.length : Int)) && (decide (0 ≤ (a0.length : Int)) && (decide ((a0.length : Int) * (32 : Nat) ≤ 140737488355328) && decide ((a0.length : Int) ≤ 9223372036854775807)))) then iter (B_laws_toShelfS_L0 N (fun x2 => some x2) (fun ρ3 => some (ρ3))) N (a0, (List.replicate (a0.length : Int).toNat (dft tShelf)), (0 : Int)) else none)
abbrev ct_laws_toShelfS (N : Nat) : CT := ⟨210, (.d (.sl tShelf)), (.t (.sl tShelf)), fun a => x_laws_toShelfS N a⟩
theorem c_laws_toShelfS (N : Nat) : CTok Try.prog (ct_laws_toShelfS N) :=
  CT_ok (Γ := [ct_laws_toShelf N]) (Θ := [(7, tShelf)]) (Λ := ([⟨0, (.pr (.d 0 (.sl tShelf)) (.pr (.o 3 tShelf) (.d 4 I))), (.o 3 tShelf), fun {Ω} kx kr => iter (B_laws_toShelfS_L0 N kx kr) N⟩] : List (LC (DenR (.t (.sl tShelf)))))) (by kernel_rfl) mixed ⟨c_laws_toShelf N, trivial⟩ (by kernel_rfl)
    ⟨LoopEq.mk N (fun Ω kx kr => B_laws_toShelfS_L0 N kx kr) (fun Ω g kx kr s => by kernel_rfl), trivial⟩ (by kernel_rfl) (fun a => by kernel_rfl)

/-- loop.example/g00474/laws.toPeer -/
def x_laws_toPeer (N : Nat) (a0 : (Den tPeer)) : Option (Den tPeer) :=
  (x_laws_toIntS N a0.2.2.2.1).bind fun r1 => (x_laws_toIntS N a0.2.2.2.2.1).bind fun r2 => (x_laws_toShelfS N a0.2.2.2.2.2).bind fun r3 => some (a0.1, a0.2.1, a0.2.2.1, r1, r2, r3)
abbrev ct_laws_toPeer (N : Nat) : CT := ⟨180, (.d tPeer), (.t tPeer), fun a => x_laws_toPeer N a⟩
theorem c_laws_toPeer (N : Nat) : CTok Try.prog (ct_laws_toPeer N) :=
  CT_ok (Γ := [ct_laws_toIntS N, ct_laws_toShelfS N]) (Θ := []) (Λ := ([] : List (LC (DenR (.t tPeer))))) (by kernel_rfl) mixed ⟨c_laws_toIntS N, ⟨c_laws_toShelfS N, trivial⟩⟩ (by kernel_rfl)
    trivial (by kernel_rfl) (fun a => by kernel_rfl)

/-- a round -/
def B_laws_toPeerS_L0 (N : Nat) {Ω : Type} (kx : DenS (.o 3 tPeer) → Option Ω) (kr : (List (Den tPeer)) → Option Ω) (rec_ : DenS (.pr (.d 0 (.sl tPeer)) (.pr (.o 3 tPeer) (.d 4 I))) → Option Ω) : DenS (.pr (.d 0 (.sl tPeer)) (.pr (.o 3 tPeer) (.d 4 I))) → Option Ω := fun (s0, s3, s4) =>
  (bif (decide (s4 < (s0.length : Int))) then (bif (decide (0 ≤ s4) && decide (s4 < s0.length)) then (x_laws_toPeer N (s0.getD s4.toNat (dft tPeer))).bind fun r1 => (bif (decide (0 ≤ s4) && decide (s4 < s3.length)) then rec_ (s0, (s3.set s4.toNat r1), (wrap64 (s4 + (1 : Int)))) else none) else none) else kx s3)
/-- loop.example/g00474/laws.toPeerS -/
def x_laws_toPeerS (N : Nat) (a0 : (List (Den tPeer))) : Option (List (Den tPeer)) :=
  (bif (decide ((a0.length : Int) = (a0.length : Int)) && (decide (0 ≤ (a0.length : Int)) && (decide ((a0.length : Int) * (96 : Nat) ≤ 140737488355328) && decide ((a0.length : Int) ≤ 9223372036854775807)))) then iter (B_laws_toPeerS_L0 N (fun x2 => some x2) (fun ρ3 => some (ρ3))) N (a0, (List.replicate (a0.length : Int).toNat (dft tPeer)), (0 : Int)) else none)
abbrev ct_laws_toPeerS (N : Nat) : CT := ⟨123, (.d (.sl tPeer)), (.t (.sl tPeer)), fun a => x_laws_toPeerS N a⟩
theorem c_laws_toPeerS (N : Nat) : CTok Try.prog (ct_laws_toPeerS N) :=
  CT_ok (Γ := [ct_laws_toPeer N]) (Θ := [(7, tPeer)]) (Λ := ([⟨0, (.pr (.d 0 (.sl tPeer)) (.pr (.o 3 tPeer) (.d 4 I))), (.o 3 tPeer), fun {Ω} kx kr => iter (B_laws_toPeerS_L0 N kx kr) N⟩] : List (LC (DenR (.t (.sl tPeer)))))) (by kernel_rfl) mixed ⟨c_laws_toPeer N, trivial⟩ (by kernel_rfl)
    ⟨LoopEq.mk N (fun Ω kx kr => B_laws_toPeerS_L0 N kx kr) (fun Ω g kx kr s => by kernel_rfl), trivial⟩ (by kernel_rfl) (fun a => by kernel_rfl)

/-- loop.example/g00474/laws.toRing -/
def x_laws_toRing (N : Nat) (a0 : (Den tRing)) : Option (Den tRing) :=
  (x_laws_toPeerS N a0).bind fun r1 => some r1
abbrev ct_laws_toRing (N : Nat) : CT := ⟨54, (.d tRing), (.t tRing), fun a => x_laws_toRing N a⟩
theorem c_laws_toRing (N : Nat) : CTok Try.prog (ct_laws_toRing N) :=
  CT_ok (Γ := [ct_laws_toPeerS N]) (Θ := []) (Λ := ([] : List (LC (DenR (.t tRing))))) (by kernel_rfl) mixed ⟨c_laws_toPeerS N, trivial⟩ (by kernel_rfl)
    trivial (by kernel_rfl) (fun a => by kernel_rfl)

/-- loop.example/g00474/spec.l01In -/
def x_spec_l01In (N : Nat) (a0 : Int) (a1 : Int) (a2 : Int) : Option Bool :=
  (bif (decide (a1 ≤ a0)) then some (decide (a0 ≤ a2)) else some false)
abbrev ct_spec_l01In (N : Nat) : CT := ⟨96, (.pr (.d I) (.pr (.d I) (.d I))), (.t .bl), fun a => x_spec_l01In N a.1 a.2.1 a.2.2⟩
theorem c_spec_l01In (N : Nat) : CTok Try.prog (ct_spec_l01In N) :=
  CT_ok (Γ := []) (Θ := []) (Λ := ([] : List (LC (DenR (.t .bl))))) (by kernel_rfl) mixed trivial (by kernel_rfl)
    trivial (by kernel_rfl) (fun a => by kernel_rfl)

/-- a round -/
def B_spec_l09Items_L0 (N : Nat) {Ω : Type} (kx : DenS (.d 0 (.sl tItem)) → Option Ω) (kr : Bool → Option Ω) (rec_ : DenS (.pr (.d 0 (.sl tItem)) (.d 3 I)) → Option Ω) : DenS (.pr (.d 0 (.sl tItem)) (.d 3 I)) → Option Ω := fun (s0, s3) =>
  (bif (decide (s3 < (s0.length : Int))) then (bif (decide (0 ≤ s3) && decide (s3 < s0.length)) then (bif (decide ((600 : Int) < (((s0.getD s3.toNat (dft tItem)).1).size : Int))) then kr false else (bif (decide ((0 : Int) < s3)) then (bif (decide (0 ≤ (wrap64 (s3 - (1 : Int)))) && decide ((wrap64 (s3 - (1 : Int))) < s0.length)) then (bif (decide (0 ≤ s3) && decide (s3 < s0.length)) then (bif (!(Op.bytesLess ((s0.getD (wrap64 (s3 - (1 : Int))).toNat (dft tItem)).1).toList ((s0.getD s3.toNat (dft tItem)).1).toList)) then kr false else rec_ (s0, (wrap64 (s3 + (1 : Int))))) else none) else none) else rec_ (s0, (wrap64 (s3 + (1 : Int)))))) else none) else kx s0)
/-- loop.example/g00474/spec.l09Items -/
def x_spec_l09Items (N : Nat) (a0 : (List (Den tItem))) : Option Bool :=
  iter (B_spec_l09Items_L0 N (fun x1 => some (decide ((x1.length : Int) ≤ (300 : Int)))) (fun ρ2 => some (ρ2))) N (a0, (0 : Int))
abbrev ct_spec_l09Items (N : Nat) : CT := ⟨185, (.d (.sl tItem)), (.t .bl), fun a => x_spec_l09Items N a⟩
theorem c_spec_l09Items (N : Nat) : CTok Try.prog (ct_spec_l09Items N) :=
  CT_ok (Γ := []) (Θ := []) (Λ := ([⟨0, (.pr (.d 0 (.sl tItem)) (.d 3 I)), (.d 0 (.sl tItem)), fun {Ω} kx kr => iter (B_spec_l09Items_L0 N kx kr) N⟩] : List (LC (DenR (.t .bl))))) (by kernel_rfl) mixed trivial (by kernel_rfl)
    ⟨LoopEq.mk N (fun Ω kx kr => B_spec_l09Items_L0 N kx kr) (fun Ω g kx kr s => by kernel_rfl), trivial⟩ (by kernel_rfl) (fun a => by kernel_rfl)

/-- a round -/
def B_spec_PeerOk_L0 (N : Nat) {Ω : Type} (kx : DenS (.ip 1 tPeer) → Option Ω) (kr : Bool → Option Ω) (rec_ : DenS (.pr (.ip 1 tPeer) (.d 3 I)) → Option Ω) : DenS (.pr (.ip 1 tPeer) (.d 3 I)) → Option Ω := fun (s1, s3) =>
  (bif (decide (s3 < (s1.2.2.2.1.length : Int))) then (bif (decide (0 ≤ s3) && decide (s3 < s1.2.2.2.1.length)) then (x_spec_l01In N (s1.2.2.2.1.getD s3.toNat (0 : Int)) (0 : Int) (255 : Int)).bind fun r3 => (bif (!r3) then kr false else (bif (decide (0 ≤ s3) && decide (s3 < s1.2.2.2.1.length)) then (bif (decide ((s1.2.2.2.1.getD s3.toNat (0 : Int)) = s1.1)) then kr false else rec_ (s1, (wrap64 (s3 + (1 : Int))))) else none)) else none) else kx s1)
/-- a round -/
def B_spec_PeerOk_L2 (N : Nat) {Ω : Type} (kx : DenS (.ip 1 tPeer) → Option Ω) (kr : Bool → Option Ω) (rec_ : DenS (.pr (.ip 1 tPeer) (.d 4 I)) → Option Ω) : DenS (.pr (.ip 1 tPeer) (.d 4 I)) → Option Ω := fun (s1, s4) =>
  (bif (decide (s4 < (s1.2.2.2.2.1.length : Int))) then (bif (decide (0 ≤ s4) && decide (s4 < s1.2.2.2.2.1.length)) then (x_spec_l01In N (s1.2.2.2.2.1.getD s4.toNat (0 : Int)) (-1 : Int) (255 : Int)).bind fun r5 => (bif (!r5) then kr false else rec_ (s1, (wrap64 (s4 + (1 : Int))))) else none) else kx s1)
/-- a round -/
def B_spec_PeerOk_L4 (N : Nat) {Ω : Type} (kx : DenS .un → Option Ω) (kr : Bool → Option Ω) (rec_ : DenS (.pr (.ip 1 tPeer) (.d 5 I)) → Option Ω) : DenS (.pr (.ip 1 tPeer) (.d 5 I)) → Option Ω := fun (s1, s5) =>
  (bif (decide (s5 < (s1.2.2.2.2.2.length : Int))) then (bif (decide (0 ≤ s5) && decide (s5 < s1.2.2.2.2.2.length)) then (x_spec_l01In N ((s1.2.2.2.2.2.getD s5.toNat (dft tShelf)).1) (0 : Int) (255 : Int)).bind fun r7 => (bif (!r7) then kr false else (bif (decide ((0 : Int) < s5)) then (bif (decide (0 ≤ (wrap64 (s5 - (1 : Int)))) && decide ((wrap64 (s5 - (1 : Int))) < s1.2.2.2.2.2.length)) then (bif (decide (((s1.2.2.2.2.2.getD s5.toNat (dft tShelf)).1) ≤ ((s1.2.2.2.2.2.getD (wrap64 (s5 - (1 : Int))).toNat (dft tShelf)).1))) then kr false else (x_spec_l09Items N ((s1.2.2.2.2.2.getD s5.toNat (dft tShelf)).2)).bind fun r8 => (bif (!r8) then kr false else rec_ (s1, (wrap64 (s5 + (1 : Int)))))) else none) else (x_spec_l09Items N ((s1.2.2.2.2.2.getD s5.toNat (dft tShelf)).2)).bind fun r9 => (bif (!r9) then kr false else rec_ (s1, (wrap64 (s5 + (1 : Int))))))) else none) else kx ())
/-- loop.example/g00474/spec.PeerOk -/
def x_spec_PeerOk (N : Nat) (a0 : (Den tPeer)) : Option Bool :=
  (x_spec_l01In N a0.1 (0 : Int) (255 : Int)).bind fun r1 => (bif (!r1) then some false else (bif (!a0.2.1) then (bif (decide (a0.2.2.1 = (0 : Int))) then (bif (decide ((a0.2.2.2.1.length : Int) = (0 : Int))) then (bif (decide ((a0.2.2.2.2.1.length : Int) = (0 : Int))) then some (decide ((a0.2.2.2.2.2.length : Int) = (0 : Int))) else some false) else some false) else some false) else (x_spec_l01In N a0.2.2.1 (-1 : Int) (255 : Int)).bind fun r2 => (bif (!r2) then some false else (bif (decide ((3 : Int) < (a0.2.2.2.1.length : Int))) then some false else (bif (!decide ((a0.2.2.2.2.1.length : Int) = (8 : Int))) then some false else (bif (decide ((80 : Int) < (a0.2.2.2.2.2.length : Int))) then some false else iter (B_spec_PeerOk_L0 N (fun x4 => iter (B_spec_PeerOk_L2 N (fun x6 => iter (B_spec_PeerOk_L4 N (fun _ => some true) (fun ρ10 => some (ρ10))) N (x6, (0 : Int))) (fun ρ11 => some (ρ11))) N (x4, (0 : Int))) (fun ρ12 => some (ρ12))) N (a0, (0 : Int))))))))
abbrev ct_spec_PeerOk (N : Nat) : CT := ⟨127, (.d tPeer), (.t .bl), fun a => x_spec_PeerOk N a⟩
theorem c_spec_PeerOk (N : Nat) : CTok Try.prog (ct_spec_PeerOk N) :=
  CT_ok (Γ := [ct_spec_l01In N, ct_spec_l09Items N]) (Θ := []) (Λ := ([⟨0, (.pr (.ip 1 tPeer) (.d 3 I)), (.ip 1 tPeer), fun {Ω} kx kr => iter (B_spec_PeerOk_L0 N kx kr) N⟩, ⟨2, (.pr (.ip 1 tPeer) (.d 4 I)), (.ip 1 tPeer), fun {Ω} kx kr => iter (B_spec_PeerOk_L2 N kx kr) N⟩, ⟨4, (.pr (.ip 1 tPeer) (.d 5 I)), .un, fun {Ω} kx kr => iter (B_spec_PeerOk_L4 N kx kr) N⟩] : List (LC (DenR (.t .bl))))) (by kernel_rfl) mixed ⟨c_spec_l01In N, ⟨c_spec_l09Items N, trivial⟩⟩ (by kernel_rfl)
    ⟨LoopEq.mk N (fun Ω kx kr => B_spec_PeerOk_L0 N kx kr) (fun Ω g kx kr s => by kernel_rfl), ⟨LoopEq.mk N (fun Ω kx kr => B_spec_PeerOk_L2 N kx kr) (fun Ω g kx kr s => by kernel_rfl), ⟨LoopEq.mk N (fun Ω kx kr => B_spec_PeerOk_L4 N kx kr) (fun Ω g kx kr s => by kernel_rfl), trivial⟩⟩⟩ (by kernel_rfl) (fun a => by kernel_rfl)

/-- a round -/
def B_spec_PeerAt_L0 (N : Nat) {Ω : Type} (kx : DenS .un → Option Ω) (kr : Int → Option Ω) (rec_ : DenS (.pr (.d 1 I) (.pr (.ip 2 tRing) (.d 5 I))) → Option Ω) : DenS (.pr (.d 1 I) (.pr (.ip 2 tRing) (.d 5 I))) → Option Ω := fun (s1, s2, s5) =>
  (bif (decide (s5 < (s2.length : Int))) then (bif (decide (0 ≤ s5) && decide (s5 < s2.length)) then (bif ((s2.getD s5.toNat (dft tPeer)).2).1 then (bif (decide (0 ≤ s5) && decide (s5 < s2.length)) then (bif (decide (((s2.getD s5.toNat (dft tPeer)).1) = s1)) then kr s5 else rec_ (s1, s2, (wrap64 (s5 + (1 : Int))))) else none) else rec_ (s1, s2, (wrap64 (s5 + (1 : Int))))) else none) else kx ())
/-- loop.example/g00474/spec.PeerAt -/
def x_spec_PeerAt (N : Nat) (a0 : (Den tRing)) (a1 : Int) : Option Int :=
  iter (B_spec_PeerAt_L0 N (fun _ => some (-1 : Int)) (fun ρ1 => some (ρ1))) N (a1, a0, (0 : Int))
abbrev ct_spec_PeerAt (N : Nat) : CT := ⟨122, (.pr (.d tRing) (.d I)), (.t I), fun a => x_spec_PeerAt N a.1 a.2⟩
theorem c_spec_PeerAt (N : Nat) : CTok Try.prog (ct_spec_PeerAt N) :=
  CT_ok (Γ := []) (Θ := []) (Λ := ([⟨0, (.pr (.d 1 I) (.pr (.ip 2 tRing) (.d 5 I))), .un, fun {Ω} kx kr => iter (B_spec_PeerAt_L0 N kx kr) N⟩] : List (LC (DenR (.t I))))) (by kernel_rfl) mixed trivial (by kernel_rfl)
    ⟨LoopEq.mk N (fun Ω kx kr => B_spec_PeerAt_L0 N kx kr) (fun Ω g kx kr s => by kernel_rfl), trivial⟩ (by kernel_rfl) (fun a => by kernel_rfl)

/-- a round -/
def B_spec_NextOf_L0 (N : Nat) {Ω : Type} (kx : DenS .un → Option Ω) (kr : Int → Option Ω) (rec_ : DenS (.pr (.ip 2 tRing) (.pr (.d 5 I) (.d 6 I))) → Option Ω) : DenS (.pr (.ip 2 tRing) (.pr (.d 5 I) (.d 6 I))) → Option Ω := fun (s2, s5, s6) =>
  (bif (decide ((0 : Int) ≤ s5)) then (bif (decide (0 ≤ s5) && decide (s5 < s2.length)) then (bif (decide (s6 < ((((((s2.getD s5.toNat (dft tPeer)).2).2).2).1).length : Int))) then (bif (decide (0 ≤ s5) && decide (s5 < s2.length)) then (bif (decide (0 ≤ s6) && decide (s6 < (((((s2.getD s5.toNat (dft tPeer)).2).2).2).1).length)) then (x_spec_PeerAt N s2 ((((((s2.getD s5.toNat (dft tPeer)).2).2).2).1).getD s6.toNat (0 : Int))).bind fun r2 => (bif (decide ((0 : Int) ≤ r2)) then (bif (decide (0 ≤ s5) && decide (s5 < s2.length)) then (bif (decide (0 ≤ s6) && decide (s6 < (((((s2.getD s5.toNat (dft tPeer)).2).2).2).1).length)) then kr ((((((s2.getD s5.toNat (dft tPeer)).2).2).2).1).getD s6.toNat (0 : Int)) else none) else none) else rec_ (s2, s5, (wrap64 (s6 + (1 : Int))))) else none) else none) else kx ()) else none) else kx ())
/-- loop.example/g00474/spec.NextOf -/
def x_spec_NextOf (N : Nat) (a0 : (Den tRing)) (a1 : Int) : Option Int :=
  (x_spec_PeerAt N a0 a1).bind fun r1 => iter (B_spec_NextOf_L0 N (fun _ => some (-1 : Int)) (fun ρ3 => some (ρ3))) N (a0, r1, (0 : Int))
abbrev ct_spec_NextOf (N : Nat) : CT := ⟨128, (.pr (.d tRing) (.d I)), (.t I), fun a => x_spec_NextOf N a.1 a.2⟩
theorem c_spec_NextOf (N : Nat) : CTok Try.prog (ct_spec_NextOf N) :=
  CT_ok (Γ := [ct_spec_PeerAt N]) (Θ := []) (Λ := ([⟨0, (.pr (.ip 2 tRing) (.pr (.d 5 I) (.d 6 I))), .un, fun {Ω} kx kr => iter (B_spec_NextOf_L0 N kx kr) N⟩] : List (LC (DenR (.t I))))) (by kernel_rfl) mixed ⟨c_spec_PeerAt N, trivial⟩ (by kernel_rfl)
    ⟨LoopEq.mk N (fun Ω kx kr => B_spec_NextOf_L0 N kx kr) (fun Ω g kx kr s => by kernel_rfl), trivial⟩ (by kernel_rfl) (fun a => by kernel_rfl)

/-- a round -/
def B_spec_RingOk_L2 (N : Nat) {Ω : Type} (kx : DenS (.pr (.ip 1 tRing) (.d 3 I)) → Option Ω) (kr : Bool → Option Ω) (rec_ : DenS (.pr (.ip 1 tRing) (.pr (.d 3 I) (.pr (.ip 4 tPeer) (.d 5 I)))) → Option Ω) : DenS (.pr (.ip 1 tRing) (.pr (.d 3 I) (.pr (.ip 4 tPeer) (.d 5 I)))) → Option Ω := fun (s1, s3, s4, s5) =>
  (bif (decide (s5 < s3)) then (bif (decide (0 ≤ s5) && decide (s5 < s1.length)) then (bif (decide (((s1.getD s5.toNat (dft tPeer)).1) = s4.1)) then kr false else rec_ (s1, s3, s4, (wrap64 (s5 + (1 : Int))))) else none) else kx (s1, s3))
/-- a round -/
def B_spec_RingOk_L0 (N : Nat) {Ω : Type} (kx : DenS .un → Option Ω) (kr : Bool → Option Ω) (rec_ : DenS (.pr (.ip 1 tRing) (.d 3 I)) → Option Ω) : DenS (.pr (.ip 1 tRing) (.d 3 I)) → Option Ω := fun (s1, s3) =>
  (bif (decide (s3 < (s1.length : Int))) then (bif (decide (0 ≤ s3) && decide (s3 < s1.length)) then (x_spec_PeerOk N ((s1.getD s3.toNat (dft tPeer)).1, ((s1.getD s3.toNat (dft tPeer)).2).1, (((s1.getD s3.toNat (dft tPeer)).2).2).1, ((((s1.getD s3.toNat (dft tPeer)).2).2).2).1, (((((s1.getD s3.toNat (dft tPeer)).2).2).2).2).1, (((((s1.getD s3.toNat (dft tPeer)).2).2).2).2).2)).bind fun r2 => (bif (!r2) then kr false else (bif (decide (s3 < (4 : Int))) then (bif (!(((s1.getD s3.toNat (dft tPeer)).2).1)) then kr false else (bif ((s1.getD s3.toNat (dft tPeer)).2).1 then (x_spec_NextOf N s1 ((s1.getD s3.toNat (dft tPeer)).1)).bind fun r3 => (bif (decide (r3 < (0 : Int))) then kr false else iter (B_spec_RingOk_L2 N (fun (x4, x5) => rec_ (x4, (wrap64 (x5 + (1 : Int))))) (fun ρ6 => kr (ρ6))) N (s1, s3, ((s1.getD s3.toNat (dft tPeer)).1, ((s1.getD s3.toNat (dft tPeer)).2).1, (((s1.getD s3.toNat (dft tPeer)).2).2).1, ((((s1.getD s3.toNat (dft tPeer)).2).2).2).1, (((((s1.getD s3.toNat (dft tPeer)).2).2).2).2).1, (((((s1.getD s3.toNat (dft tPeer)).2).2).2).2).2), (0 : Int))) else iter (B_spec_RingOk_L2 N (fun (x7, x8) => rec_ (x7, (wrap64 (x8 + (1 : Int))))) (fun ρ9 => kr (ρ9))) N (s1, s3, ((s1.getD s3.toNat (dft tPeer)).1, ((s1.getD s3.toNat (dft tPeer)).2).1, (((s1.getD s3.toNat (dft tPeer)).2).2).1, ((((s1.getD s3.toNat (dft tPeer)).2).2).2).1, (((((s1.getD s3.toNat (dft tPeer)).2).2).2).2).1, (((((s1.getD s3.toNat (dft tPeer)).2).2).2).2).2), (0 : Int)))) else (bif ((s1.getD s3.toNat (dft tPeer)).2).1 then (x_spec_NextOf N s1 ((s1.getD s3.toNat (dft tPeer)).1)).bind fun r10 => (bif (decide (r10 < (0 : Int))) then kr false else iter (B_spec_RingOk_L2 N (fun (x11, x12) => rec_ (x11, (wrap64 (x12 + (1 : Int))))) (fun ρ13 => kr (ρ13))) N (s1, s3, ((s1.getD s3.toNat (dft tPeer)).1, ((s1.getD s3.toNat (dft tPeer)).2).1, (((s1.getD s3.toNat (dft tPeer)).2).2).1, ((((s1.getD s3.toNat (dft tPeer)).2).2).2).1, (((((s1.getD s3.toNat (dft tPeer)).2).2).2).2).1, (((((s1.getD s3.toNat (dft tPeer)).2).2).2).2).2), (0 : Int))) else iter (B_spec_RingOk_L2 N (fun (x14, x15) => rec_ (x14, (wrap64 (x15 + (1 : Int))))) (fun ρ16 => kr (ρ16))) N (s1, s3, ((s1.getD s3.toNat (dft tPeer)).1, ((s1.getD s3.toNat (dft tPeer)).2).1, (((s1.getD s3.toNat (dft tPeer)).2).2).1, ((((s1.getD s3.toNat (dft tPeer)).2).2).2).1, (((((s1.getD s3.toNat (dft tPeer)).2).2).2).2).1, (((((s1.getD s3.toNat (dft tPeer)).2).2).2).2).2), (0 : Int))))) else none) else kx ())
/-- loop.example/g00474/spec.RingOk -/
def x_spec_RingOk (N : Nat) (a0 : (Den tRing)) : Option Bool :=
  (x_spec_l01In N (a0.length : Int) (4 : Int) (8 : Int)).bind fun r1 => (bif (!r1) then some false else iter (B_spec_RingOk_L0 N (fun _ => some true) (fun ρ17 => some (ρ17))) N (a0, (0 : Int)))
abbrev ct_spec_RingOk (N : Nat) : CT := ⟨61, (.d tRing), (.t .bl), fun a => x_spec_RingOk N a⟩
theorem c_spec_RingOk (N : Nat) : CTok Try.prog (ct_spec_RingOk N) :=
  CT_ok (Γ := [ct_spec_l01In N, ct_spec_PeerOk N, ct_spec_NextOf N]) (Θ := []) (Λ := ([⟨0, (.pr (.ip 1 tRing) (.d 3 I)), .un, fun {Ω} kx kr => iter (B_spec_RingOk_L0 N kx kr) N⟩, ⟨2, (.pr (.ip 1 tRing) (.pr (.d 3 I) (.pr (.ip 4 tPeer) (.d 5 I)))), (.pr (.ip 1 tRing) (.d 3 I)), fun {Ω} kx kr => iter (B_spec_RingOk_L2 N kx kr) N⟩] : List (LC (DenR (.t .bl))))) (by kernel_rfl) mixed ⟨c_spec_l01In N, ⟨c_spec_PeerOk N, ⟨c_spec_NextOf N, trivial⟩⟩⟩ (by kernel_rfl)
    ⟨LoopEq.mk N (fun Ω kx kr => B_spec_RingOk_L0 N kx kr) (fun Ω g kx kr s => by kernel_rfl), ⟨LoopEq.mk N (fun Ω kx kr => B_spec_RingOk_L2 N kx kr) (fun Ω g kx kr s => by kernel_rfl), trivial⟩⟩ (by kernel_rfl) (fun a => by kernel_rfl)

/-- loop.example/g00474/impl.in -/
def x_impl_in (N : Nat) (a0 : Int) (a1 : Int) (a2 : Int) : Option Bool :=
  (bif (decide (a1 ≤ a0)) then some (decide (a0 ≤ a2)) else some false)
abbrev ct_impl_in (N : Nat) : CT := ⟨99, (.pr (.d I) (.pr (.d I) (.d I))), (.t .bl), fun a => x_impl_in N a.1 a.2.1 a.2.2⟩
theorem c_impl_in (N : Nat) : CTok Try.prog (ct_impl_in N) :=
  CT_ok (Γ := []) (Θ := []) (Λ := ([] : List (LC (DenR (.t .bl))))) (by kernel_rfl) mixed trivial (by kernel_rfl)
    trivial (by kernel_rfl) (fun a => by kernel_rfl)

/-- loop.example/g00474/impl.isPlace -/
def x_impl_isPlace (N : Nat) (a0 : Int) : Option Bool :=
  (x_impl_in N a0 (0 : Int) (255 : Int)).bind fun r1 => some r1
abbrev ct_impl_isPlace (N : Nat) : CT := ⟨153, (.d I), (.t .bl), fun a => x_impl_isPlace N a⟩
theorem c_impl_isPlace (N : Nat) : CTok Try.prog (ct_impl_isPlace N) :=
  CT_ok (Γ := [ct_impl_in N]) (Θ := []) (Λ := ([] : List (LC (DenR (.t .bl))))) (by kernel_rfl) mixed ⟨c_impl_in N, trivial⟩ (by kernel_rfl)
    trivial (by kernel_rfl) (fun a => by kernel_rfl)

/-- loop.example/g00474/impl.PeerOk$1 -/
def x_impl_PeerOk_1 (N : Nat) (a0 : Int) (a1 : (Den tPeer)) : Option Bool :=
  (x_impl_isPlace N a0).bind fun r1 => (bif (!r1) then some true else some (decide (a0 = a1.1)))
abbrev ct_impl_PeerOk_1 (N : Nat) : CT := ⟨187, (.pr (.d I) (.ip tPeer)), (.t .bl), fun a => x_impl_PeerOk_1 N a.1 a.2⟩
theorem c_impl_PeerOk_1 (N : Nat) : CTok Try.prog (ct_impl_PeerOk_1 N) :=
  CT_ok (Γ := [ct_impl_isPlace N]) (Θ := []) (Λ := ([] : List (LC (DenR (.t .bl))))) (by kernel_rfl) mixed ⟨c_impl_isPlace N, trivial⟩ (by kernel_rfl)
    trivial (by kernel_rfl) (fun a => by kernel_rfl)

/-- a round -/
def B_slices_IndexFunc_int_int__impl_PeerOk_1_L0 (N : Nat) {Ω : Type} (kx : DenS .un → Option Ω) (kr : Int → Option Ω) (rec_ : DenS (.pr (.d 0 (.sl I)) (.pr (.fn 1 187 (.ip tPeer)) (.pr (.d 7 I) (.d 8 I)))) → Option Ω) : DenS (.pr (.d 0 (.sl I)) (.pr (.fn 1 187 (.ip tPeer)) (.pr (.d 7 I) (.d 8 I)))) → Option Ω := fun (s0, s1, s7, s8) =>
  (bif (decide (s8 < s7)) then (bif (decide (0 ≤ s8) && decide (s8 < s0.length)) then (x_impl_PeerOk_1 N (s0.getD s8.toNat (0 : Int)) s1).bind fun r1 => (bif r1 then kr s8 else rec_ (s0, s1, s7, (wrap64 (s8 + (1 : Int))))) else none) else kx ())
/-- slices.IndexFunc[[]int,int] -/
def x_slices_IndexFunc_int_int__impl_PeerOk_1 (N : Nat) (a0 : (List Int)) (a1 : (Den tPeer)) : Option Int :=
  iter (B_slices_IndexFunc_int_int__impl_PeerOk_1_L0 N (fun _ => some (-1 : Int)) (fun ρ2 => some (ρ2))) N (a0, a1, (a0.length : Int), (0 : Int))
abbrev ct_slices_IndexFunc_int_int__impl_PeerOk_1 (N : Nat) : CT := ⟨213, (.pr (.d (.sl I)) (.fn 187 (.ip tPeer))), (.t I), fun a => x_slices_IndexFunc_int_int__impl_PeerOk_1 N a.1 a.2⟩
theorem c_slices_IndexFunc_int_int__impl_PeerOk_1 (N : Nat) : CTok Try.prog (ct_slices_IndexFunc_int_int__impl_PeerOk_1 N) :=
  CT_ok (Γ := [ct_impl_PeerOk_1 N]) (Θ := []) (Λ := ([⟨0, (.pr (.d 0 (.sl I)) (.pr (.fn 1 187 (.ip tPeer)) (.pr (.d 7 I) (.d 8 I)))), .un, fun {Ω} kx kr => iter (B_slices_IndexFunc_int_int__impl_PeerOk_1_L0 N kx kr) N⟩] : List (LC (DenR (.t I))))) (by kernel_rfl) mixed ⟨c_impl_PeerOk_1 N, trivial⟩ (by kernel_rfl)
    ⟨LoopEq.mk N (fun Ω kx kr => B_slices_IndexFunc_int_int__impl_PeerOk_1_L0 N kx kr) (fun Ω g kx kr s => by kernel_rfl), trivial⟩ (by kernel_rfl) (fun a => by kernel_rfl)

/-- slices.ContainsFunc[[]int,int] -/
def x_slices_ContainsFunc_int_int__impl_PeerOk_1 (N : Nat) (a0 : (List Int)) (a1 : (Den tPeer)) : Option Bool :=
  (x_slices_IndexFunc_int_int__impl_PeerOk_1 N a0 a1).bind fun r1 => some (decide ((0 : Int) ≤ r1))
abbrev ct_slices_ContainsFunc_int_int__impl_PeerOk_1 (N : Nat) : CT := ⟨186, (.pr (.d (.sl I)) (.fn 187 (.ip tPeer))), (.t .bl), fun a => x_slices_ContainsFunc_int_int__impl_PeerOk_1 N a.1 a.2⟩
theorem c_slices_ContainsFunc_int_int__impl_PeerOk_1 (N : Nat) : CTok Try.prog (ct_slices_ContainsFunc_int_int__impl_PeerOk_1 N) :=
  CT_ok (Γ := [ct_slices_IndexFunc_int_int__impl_PeerOk_1 N]) (Θ := []) (Λ := ([] : List (LC (DenR (.t .bl))))) (by kernel_rfl) mixed ⟨c_slices_IndexFunc_int_int__impl_PeerOk_1 N, trivial⟩ (by kernel_rfl)
    trivial (by kernel_rfl) (fun a => by kernel_rfl)

/-- loop.example/g00474/impl.PeerOk$2 -/
def x_impl_PeerOk_2 (N : Nat) (a0 : Int) : Option Bool :=
  (bif (!decide (a0 = (-1 : Int))) then (x_impl_isPlace N a0).bind fun r1 => some (!r1) else some false)
abbrev ct_impl_PeerOk_2 (N : Nat) : CT := ⟨188, (.d I), (.t .bl), fun a => x_impl_PeerOk_2 N a⟩
theorem c_impl_PeerOk_2 (N : Nat) : CTok Try.prog (ct_impl_PeerOk_2 N) :=
  CT_ok (Γ := [ct_impl_isPlace N]) (Θ := []) (Λ := ([] : List (LC (DenR (.t .bl))))) (by kernel_rfl) mixed ⟨c_impl_isPlace N, trivial⟩ (by kernel_rfl)
    trivial (by kernel_rfl) (fun a => by kernel_rfl)

/-- a round -/
def B_slices_IndexFunc_int_int__impl_PeerOk_2_L0 (N : Nat) {Ω : Type} (kx : DenS .un → Option Ω) (kr : Int → Option Ω) (rec_ : DenS (.pr (.d 0 (.sl I)) (.pr (.fn 1 188 .un) (.pr (.d 7 I) (.d 8 I)))) → Option Ω) : DenS (.pr (.d 0 (.sl I)) (.pr (.fn 1 188 .un) (.pr (.d 7 I) (.d 8 I)))) → Option Ω := fun (s0, s1, s7, s8) =>
  (bif (decide (s8 < s7)) then (bif (decide (0 ≤ s8) && decide (s8 < s0.length)) then (x_impl_PeerOk_2 N (s0.getD s8.toNat (0 : Int))).bind fun r1 => (bif r1 then kr s8 else rec_ (s0, (), s7, (wrap64 (s8 + (1 : Int))))) else none) else kx ())
/-- slices.IndexFunc[[]int,int] -/
def x_slices_IndexFunc_int_int__impl_PeerOk_2 (N : Nat) (a0 : (List Int)) : Option Int :=
  iter (B_slices_IndexFunc_int_int__impl_PeerOk_2_L0 N (fun _ => some (-1 : Int)) (fun ρ2 => some (ρ2))) N (a0, (), (a0.length : Int), (0 : Int))
abbrev ct_slices_IndexFunc_int_int__impl_PeerOk_2 (N : Nat) : CT := ⟨213, (.pr (.d (.sl I)) (.fn 188 .un)), (.t I), fun a => x_slices_IndexFunc_int_int__impl_PeerOk_2 N a.1⟩
theorem c_slices_IndexFunc_int_int__impl_PeerOk_2 (N : Nat) : CTok Try.prog (ct_slices_IndexFunc_int_int__impl_PeerOk_2 N) :=
  CT_ok (Γ := [ct_impl_PeerOk_2 N]) (Θ := []) (Λ := ([⟨0, (.pr (.d 0 (.sl I)) (.pr (.fn 1 188 .un) (.pr (.d 7 I) (.d 8 I)))), .un, fun {Ω} kx kr => iter (B_slices_IndexFunc_int_int__impl_PeerOk_2_L0 N kx kr) N⟩] : List (LC (DenR (.t I))))) (by kernel_rfl) mixed ⟨c_impl_PeerOk_2 N, trivial⟩ (by kernel_rfl)
    ⟨LoopEq.mk N (fun Ω kx kr => B_slices_IndexFunc_int_int__impl_PeerOk_2_L0 N kx kr) (fun Ω g kx kr s => by kernel_rfl), trivial⟩ (by kernel_rfl) (fun a => by kernel_rfl)

/-- slices.ContainsFunc[[]int,int] -/
def x_slices_ContainsFunc_int_int__impl_PeerOk_2 (N : Nat) (a0 : (List Int)) : Option Bool :=
  (x_slices_IndexFunc_int_int__impl_PeerOk_2 N a0).bind fun r1 => some (decide ((0 : Int) ≤ r1))
abbrev ct_slices_ContainsFunc_int_int__impl_PeerOk_2 (N : Nat) : CT := ⟨186, (.pr (.d (.sl I)) (.fn 188 .un)), (.t .bl), fun a => x_slices_ContainsFunc_int_int__impl_PeerOk_2 N a.1⟩
theorem c_slices_ContainsFunc_int_int__impl_PeerOk_2 (N : Nat) : CTok Try.prog (ct_slices_ContainsFunc_int_int__impl_PeerOk_2 N) :=
  CT_ok (Γ := [ct_slices_IndexFunc_int_int__impl_PeerOk_2 N]) (Θ := []) (Λ := ([] : List (LC (DenR (.t .bl))))) (by kernel_rfl) mixed ⟨c_slices_IndexFunc_int_int__impl_PeerOk_2 N, trivial⟩ (by kernel_rfl)
    trivial (by kernel_rfl) (fun a => by kernel_rfl)

/-- a round -/
def B_impl_shelvesOk_L2 (N : Nat) {Ω : Type} (kx : DenS (.pr (.d 0 (.sl tShelf)) (.pr (.d 10 (.sl tShelf)) (.pr (.d 11 I) (.d 12 I)))) → Option Ω) (kr : Bool → Option Ω) (rec_ : DenS (.pr (.d 0 (.sl tShelf)) (.pr (.ip 4 tShelf) (.pr (.d 10 (.sl tShelf)) (.pr (.d 11 I) (.pr (.d 12 I) (.pr (.d 43 (.sl tItem)) (.pr (.d 44 I) (.d 45 I)))))))) → Option Ω) : DenS (.pr (.d 0 (.sl tShelf)) (.pr (.ip 4 tShelf) (.pr (.d 10 (.sl tShelf)) (.pr (.d 11 I) (.pr (.d 12 I) (.pr (.d 43 (.sl tItem)) (.pr (.d 44 I) (.d 45 I)))))))) → Option Ω := fun (s0, s4, s10, s11, s12, s43, s44, s45) =>
  (bif (decide (s45 < s44)) then (bif (decide (0 ≤ s45) && decide (s45 < s43.length)) then (bif (decide ((600 : Int) < (((s43.getD s45.toNat (dft tItem)).1).size : Int))) then kr false else (bif (decide ((0 : Int) < s45)) then (bif (decide (0 ≤ (wrap64 (s45 - (1 : Int)))) && decide ((wrap64 (s45 - (1 : Int))) < s4.2.length)) then (bif (!(Op.bytesLess ((s4.2.getD (wrap64 (s45 - (1 : Int))).toNat (dft tItem)).1).toList ((s43.getD s45.toNat (dft tItem)).1).toList)) then kr false else rec_ (s0, s4, s10, s11, s12, s43, s44, (wrap64 (s45 + (1 : Int))))) else none) else rec_ (s0, s4, s10, s11, s12, s43, s44, (wrap64 (s45 + (1 : Int)))))) else none) else kx (s0, s10, s11, s12))
/-- a round -/
def B_impl_shelvesOk_L0 (N : Nat) {Ω : Type} (kx : DenS .un → Option Ω) (kr : Bool → Option Ω) (rec_ : DenS (.pr (.d 0 (.sl tShelf)) (.pr (.d 10 (.sl tShelf)) (.pr (.d 11 I) (.d 12 I)))) → Option Ω) : DenS (.pr (.d 0 (.sl tShelf)) (.pr (.d 10 (.sl tShelf)) (.pr (.d 11 I) (.d 12 I)))) → Option Ω := fun (s0, s10, s11, s12) =>
  (bif (decide (s12 < s11)) then (bif (decide (0 ≤ s12) && decide (s12 < s10.length)) then (x_impl_isPlace N ((s10.getD s12.toNat (dft tShelf)).1)).bind fun r1 => (bif (!r1) then kr false else (bif (decide ((0 : Int) < s12)) then (bif (decide (0 ≤ (wrap64 (s12 - (1 : Int)))) && decide ((wrap64 (s12 - (1 : Int))) < s0.length)) then (bif (decide (((s10.getD s12.toNat (dft tShelf)).1) ≤ ((s0.getD (wrap64 (s12 - (1 : Int))).toNat (dft tShelf)).1))) then kr false else (bif (decide ((300 : Int) < (((s10.getD s12.toNat (dft tShelf)).2).length : Int))) then kr false else iter (B_impl_shelvesOk_L2 N (fun (x2, x3, x4, x5) => rec_ (x2, x3, x4, (wrap64 (x5 + (1 : Int))))) (fun ρ6 => kr (ρ6))) N (s0, ((s10.getD s12.toNat (dft tShelf)).1, (s10.getD s12.toNat (dft tShelf)).2), s10, s11, s12, (s10.getD s12.toNat (dft tShelf)).2, (((s10.getD s12.toNat (dft tShelf)).2).length : Int), (0 : Int)))) else none) else (bif (decide ((300 : Int) < (((s10.getD s12.toNat (dft tShelf)).2).length : Int))) then kr false else iter (B_impl_shelvesOk_L2 N (fun (x7, x8, x9, x10) => rec_ (x7, x8, x9, (wrap64 (x10 + (1 : Int))))) (fun ρ11 => kr (ρ11))) N (s0, ((s10.getD s12.toNat (dft tShelf)).1, (s10.getD s12.toNat (dft tShelf)).2), s10, s11, s12, (s10.getD s12.toNat (dft tShelf)).2, (((s10.getD s12.toNat (dft tShelf)).2).length : Int), (0 : Int))))) else none) else kx ())
/-- loop.example/g00474/impl.shelvesOk -/
def x_impl_shelvesOk (N : Nat) (a0 : (List (Den tShelf))) : Option Bool :=
  (bif (decide ((80 : Int) < (a0.length : Int))) then some false else iter (B_impl_shelvesOk_L0 N (fun _ => some true) (fun ρ12 => some (ρ12))) N (a0, a0, (a0.length : Int), (0 : Int)))
abbrev ct_impl_shelvesOk (N : Nat) : CT := ⟨189, (.d (.sl tShelf)), (.t .bl), fun a => x_impl_shelvesOk N a⟩
theorem c_impl_shelvesOk (N : Nat) : CTok Try.prog (ct_impl_shelvesOk N) :=
  CT_ok (Γ := [ct_impl_isPlace N]) (Θ := []) (Λ := ([⟨0, (.pr (.d 0 (.sl tShelf)) (.pr (.d 10 (.sl tShelf)) (.pr (.d 11 I) (.d 12 I)))), .un, fun {Ω} kx kr => iter (B_impl_shelvesOk_L0 N kx kr) N⟩, ⟨2, (.pr (.d 0 (.sl tShelf)) (.pr (.ip 4 tShelf) (.pr (.d 10 (.sl tShelf)) (.pr (.d 11 I) (.pr (.d 12 I) (.pr (.d 43 (.sl tItem)) (.pr (.d 44 I) (.d 45 I)))))))), (.pr (.d 0 (.sl tShelf)) (.pr (.d 10 (.sl tShelf)) (.pr (.d 11 I) (.d 12 I)))), fun {Ω} kx kr => iter (B_impl_shelvesOk_L2 N kx kr) N⟩] : List (LC (DenR (.t .bl))))) (by kernel_rfl) mixed ⟨c_impl_isPlace N, trivial⟩ (by kernel_rfl)
    ⟨LoopEq.mk N (fun Ω kx kr => B_impl_shelvesOk_L0 N kx kr) (fun Ω g kx kr s => by kernel_rfl), ⟨LoopEq.mk N (fun Ω kx kr => B_impl_shelvesOk_L2 N kx kr) (fun Ω g kx kr s => by kernel_rfl), trivial⟩⟩ (by kernel_rfl) (fun a => by kernel_rfl)

/-- loop.example/g00474/impl.PeerOk -/
def x_impl_PeerOk (N : Nat) (a0 : (Den tPeer)) : Option Bool :=
  (x_impl_isPlace N a0.1).bind fun r1 => (bif (!r1) then some false else (bif (!a0.2.1) then (bif (decide (a0.2.2.1 = (0 : Int))) then (bif (decide ((a0.2.2.2.1.length : Int) = (0 : Int))) then (bif (decide ((a0.2.2.2.2.1.length : Int) = (0 : Int))) then some (decide ((a0.2.2.2.2.2.length : Int) = (0 : Int))) else some false) else some false) else some false) else (bif (!decide (a0.2.2.1 = (-1 : Int))) then (x_impl_isPlace N a0.2.2.1).bind fun r2 => (bif (!r2) then some false else (bif (decide ((3 : Int) < (a0.2.2.2.1.length : Int))) then some false else (bif (!decide ((a0.2.2.2.2.1.length : Int) = (8 : Int))) then some false else (x_slices_ContainsFunc_int_int__impl_PeerOk_1 N a0.2.2.2.1 a0).bind fun r3 => (bif r3 then some false else (x_slices_ContainsFunc_int_int__impl_PeerOk_2 N a0.2.2.2.2.1).bind fun r4 => (bif (!r4) then (x_impl_shelvesOk N a0.2.2.2.2.2).bind fun r5 => some r5 else some false))))) else (bif (decide ((3 : Int) < (a0.2.2.2.1.length : Int))) then some false else (bif (!decide ((a0.2.2.2.2.1.length : Int) = (8 : Int))) then some false else (x_slices_ContainsFunc_int_int__impl_PeerOk_1 N a0.2.2.2.1 a0).bind fun r6 => (bif r6 then some false else (x_slices_ContainsFunc_int_int__impl_PeerOk_2 N a0.2.2.2.2.1).bind fun r7 => (bif (!r7) then (x_impl_shelvesOk N a0.2.2.2.2.2).bind fun r8 => some r8 else some false)))))))
abbrev ct_impl_PeerOk (N : Nat) : CT := ⟨129, (.d tPeer), (.t .bl), fun a => x_impl_PeerOk N a⟩
theorem c_impl_PeerOk (N : Nat) : CTok Try.prog (ct_impl_PeerOk N) :=
  CT_ok (Γ := [ct_impl_isPlace N, ct_slices_ContainsFunc_int_int__impl_PeerOk_1 N, ct_slices_ContainsFunc_int_int__impl_PeerOk_2 N, ct_impl_shelvesOk N]) (Θ := []) (Λ := ([] : List (LC (DenR (.t .bl))))) (by kernel_rfl) mixed ⟨c_impl_isPlace N, ⟨c_slices_ContainsFunc_int_int__impl_PeerOk_1 N, ⟨c_slices_ContainsFunc_int_int__impl_PeerOk_2 N, ⟨c_impl_shelvesOk N, trivial⟩⟩⟩⟩ (by kernel_rfl)
    trivial (by kernel_rfl) (fun a => by kernel_rfl)

/-- loop.example/g00474/impl.peerHere$1 -/
def x_impl_peerHere_1 (N : Nat) (a0 : (Den tPeer)) (a1 : Int) : Option Bool :=
  (bif a0.2.1 then some (decide (a0.1 = a1)) else some false)
abbrev ct_impl_peerHere_1 (N : Nat) : CT := ⟨182, (.pr (.d tPeer) (.ip I)), (.t .bl), fun a => x_impl_peerHere_1 N a.1 a.2⟩
theorem c_impl_peerHere_1 (N : Nat) : CTok Try.prog (ct_impl_peerHere_1 N) :=
  CT_ok (Γ := []) (Θ := []) (Λ := ([] : List (LC (DenR (.t .bl))))) (by kernel_rfl) mixed trivial (by kernel_rfl)
    trivial (by kernel_rfl) (fun a => by kernel_rfl)

/-- a round -/
def B_slices_IndexFunc_impl_Peer_impl_Peer__impl_peerHere_1_L0 (N : Nat) {Ω : Type} (kx : DenS .un → Option Ω) (kr : Int → Option Ω) (rec_ : DenS (.pr (.d 0 (.sl tPeer)) (.pr (.fn 1 182 (.ip I)) (.pr (.d 7 I) (.d 8 I)))) → Option Ω) : DenS (.pr (.d 0 (.sl tPeer)) (.pr (.fn 1 182 (.ip I)) (.pr (.d 7 I) (.d 8 I)))) → Option Ω := fun (s0, s1, s7, s8) =>
  (bif (decide (s8 < s7)) then (bif (decide (0 ≤ s8) && decide (s8 < s0.length)) then (x_impl_peerHere_1 N (s0.getD s8.toNat (dft tPeer)) s1).bind fun r1 => (bif r1 then kr s8 else rec_ (s0, s1, s7, (wrap64 (s8 + (1 : Int))))) else none) else kx ())
/-- slices.IndexFunc[[]loop.example/g00474/impl.Peer,loop.example/g00474/impl.Peer] -/
def x_slices_IndexFunc_impl_Peer_impl_Peer__impl_peerHere_1 (N : Nat) (a0 : (List (Den tPeer))) (a1 : Int) : Option Int :=
  iter (B_slices_IndexFunc_impl_Peer_impl_Peer__impl_peerHere_1_L0 N (fun _ => some (-1 : Int)) (fun ρ2 => some (ρ2))) N (a0, a1, (a0.length : Int), (0 : Int))
abbrev ct_slices_IndexFunc_impl_Peer_impl_Peer__impl_peerHere_1 (N : Nat) : CT := ⟨181, (.pr (.d (.sl tPeer)) (.fn 182 (.ip I))), (.t I), fun a => x_slices_IndexFunc_impl_Peer_impl_Peer__impl_peerHere_1 N a.1 a.2⟩
theorem c_slices_IndexFunc_impl_Peer_impl_Peer__impl_peerHere_1 (N : Nat) : CTok Try.prog (ct_slices_IndexFunc_impl_Peer_impl_Peer__impl_peerHere_1 N) :=
  CT_ok (Γ := [ct_impl_peerHere_1 N]) (Θ := []) (Λ := ([⟨0, (.pr (.d 0 (.sl tPeer)) (.pr (.fn 1 182 (.ip I)) (.pr (.d 7 I) (.d 8 I)))), .un, fun {Ω} kx kr => iter (B_slices_IndexFunc_impl_Peer_impl_Peer__impl_peerHere_1_L0 N kx kr) N⟩] : List (LC (DenR (.t I))))) (by kernel_rfl) mixed ⟨c_impl_peerHere_1 N, trivial⟩ (by kernel_rfl)
    ⟨LoopEq.mk N (fun Ω kx kr => B_slices_IndexFunc_impl_Peer_impl_Peer__impl_peerHere_1_L0 N kx kr) (fun Ω g kx kr s => by kernel_rfl), trivial⟩ (by kernel_rfl) (fun a => by kernel_rfl)

/-- loop.example/g00474/impl.peerHere -/
def x_impl_peerHere (N : Nat) (a0 : (Den tRing)) (a1 : Int) : Option Int :=
  (x_slices_IndexFunc_impl_Peer_impl_Peer__impl_peerHere_1 N a0 a1).bind fun r1 => some r1
abbrev ct_impl_peerHere (N : Nat) : CT := ⟨124, (.pr (.d tRing) (.d I)), (.t I), fun a => x_impl_peerHere N a.1 a.2⟩
theorem c_impl_peerHere (N : Nat) : CTok Try.prog (ct_impl_peerHere N) :=
  CT_ok (Γ := [ct_slices_IndexFunc_impl_Peer_impl_Peer__impl_peerHere_1 N]) (Θ := []) (Λ := ([] : List (LC (DenR (.t I))))) (by kernel_rfl) mixed ⟨c_slices_IndexFunc_impl_Peer_impl_Peer__impl_peerHere_1 N, trivial⟩ (by kernel_rfl)
    trivial (by kernel_rfl) (fun a => by kernel_rfl)

/-- loop.example/g00474/impl.knowsOne$1 -/
def x_impl_knowsOne_1 (N : Nat) (a0 : Int) (a1 : (Den tRing)) : Option Bool :=
  (x_impl_peerHere N a1 a0).bind fun r1 => some (decide ((0 : Int) ≤ r1))
abbrev ct_impl_knowsOne_1 (N : Nat) : CT := ⟨190, (.pr (.d I) (.ip tRing)), (.t .bl), fun a => x_impl_knowsOne_1 N a.1 a.2⟩
theorem c_impl_knowsOne_1 (N : Nat) : CTok Try.prog (ct_impl_knowsOne_1 N) :=
  CT_ok (Γ := [ct_impl_peerHere N]) (Θ := []) (Λ := ([] : List (LC (DenR (.t .bl))))) (by kernel_rfl) mixed ⟨c_impl_peerHere N, trivial⟩ (by kernel_rfl)
    trivial (by kernel_rfl) (fun a => by kernel_rfl)

/-- a round -/
def B_slices_IndexFunc_int_int__impl_knowsOne_1_L0 (N : Nat) {Ω : Type} (kx : DenS .un → Option Ω) (kr : Int → Option Ω) (rec_ : DenS (.pr (.d 0 (.sl I)) (.pr (.fn 1 190 (.ip tRing)) (.pr (.d 7 I) (.d 8 I)))) → Option Ω) : DenS (.pr (.d 0 (.sl I)) (.pr (.fn 1 190 (.ip tRing)) (.pr (.d 7 I) (.d 8 I)))) → Option Ω := fun (s0, s1, s7, s8) =>
  (bif (decide (s8 < s7)) then (bif (decide (0 ≤ s8) && decide (s8 < s0.length)) then (x_impl_knowsOne_1 N (s0.getD s8.toNat (0 : Int)) s1).bind fun r1 => (bif r1 then kr s8 else rec_ (s0, s1, s7, (wrap64 (s8 + (1 : Int))))) else none) else kx ())
/-- slices.IndexFunc[[]int,int] -/
def x_slices_IndexFunc_int_int__impl_knowsOne_1 (N : Nat) (a0 : (List Int)) (a1 : (Den tRing)) : Option Int :=
  iter (B_slices_IndexFunc_int_int__impl_knowsOne_1_L0 N (fun _ => some (-1 : Int)) (fun ρ2 => some (ρ2))) N (a0, a1, (a0.length : Int), (0 : Int))
abbrev ct_slices_IndexFunc_int_int__impl_knowsOne_1 (N : Nat) : CT := ⟨213, (.pr (.d (.sl I)) (.fn 190 (.ip tRing))), (.t I), fun a => x_slices_IndexFunc_int_int__impl_knowsOne_1 N a.1 a.2⟩
theorem c_slices_IndexFunc_int_int__impl_knowsOne_1 (N : Nat) : CTok Try.prog (ct_slices_IndexFunc_int_int__impl_knowsOne_1 N) :=
  CT_ok (Γ := [ct_impl_knowsOne_1 N]) (Θ := []) (Λ := ([⟨0, (.pr (.d 0 (.sl I)) (.pr (.fn 1 190 (.ip tRing)) (.pr (.d 7 I) (.d 8 I)))), .un, fun {Ω} kx kr => iter (B_slices_IndexFunc_int_int__impl_knowsOne_1_L0 N kx kr) N⟩] : List (LC (DenR (.t I))))) (by kernel_rfl) mixed ⟨c_impl_knowsOne_1 N, trivial⟩ (by kernel_rfl)
    ⟨LoopEq.mk N (fun Ω kx kr => B_slices_IndexFunc_int_int__impl_knowsOne_1_L0 N kx kr) (fun Ω g kx kr s => by kernel_rfl), trivial⟩ (by kernel_rfl) (fun a => by kernel_rfl)

/-- slices.ContainsFunc[[]int,int] -/
def x_slices_ContainsFunc_int_int__impl_knowsOne_1 (N : Nat) (a0 : (List Int)) (a1 : (Den tRing)) : Option Bool :=
  (x_slices_IndexFunc_int_int__impl_knowsOne_1 N a0 a1).bind fun r1 => some (decide ((0 : Int) ≤ r1))
abbrev ct_slices_ContainsFunc_int_int__impl_knowsOne_1 (N : Nat) : CT := ⟨186, (.pr (.d (.sl I)) (.fn 190 (.ip tRing))), (.t .bl), fun a => x_slices_ContainsFunc_int_int__impl_knowsOne_1 N a.1 a.2⟩
theorem c_slices_ContainsFunc_int_int__impl_knowsOne_1 (N : Nat) : CTok Try.prog (ct_slices_ContainsFunc_int_int__impl_knowsOne_1 N) :=
  CT_ok (Γ := [ct_slices_IndexFunc_int_int__impl_knowsOne_1 N]) (Θ := []) (Λ := ([] : List (LC (DenR (.t .bl))))) (by kernel_rfl) mixed ⟨c_slices_IndexFunc_int_int__impl_knowsOne_1 N, trivial⟩ (by kernel_rfl)
    trivial (by kernel_rfl) (fun a => by kernel_rfl)

/-- loop.example/g00474/impl.knowsOne -/
def x_impl_knowsOne (N : Nat) (a0 : (Den tRing)) (a1 : (Den tPeer)) : Option Bool :=
  (x_slices_ContainsFunc_int_int__impl_knowsOne_1 N a1.2.2.2.1 a0).bind fun r1 => some r1
abbrev ct_impl_knowsOne (N : Nat) : CT := ⟨130, (.pr (.d tRing) (.d tPeer)), (.t .bl), fun a => x_impl_knowsOne N a.1 a.2⟩
theorem c_impl_knowsOne (N : Nat) : CTok Try.prog (ct_impl_knowsOne N) :=
  CT_ok (Γ := [ct_slices_ContainsFunc_int_int__impl_knowsOne_1 N]) (Θ := []) (Λ := ([] : List (LC (DenR (.t .bl))))) (by kernel_rfl) mixed ⟨c_slices_ContainsFunc_int_int__impl_knowsOne_1 N, trivial⟩ (by kernel_rfl)
    trivial (by kernel_rfl) (fun a => by kernel_rfl)

/-- loop.example/g00474/impl.RingOk$1 -/
def x_impl_RingOk_1 (N : Nat) (a0 : (Den tPeer)) (a1 : (Den tPeer)) : Option Bool :=
  some (decide (a0.1 = a1.1))
abbrev ct_impl_RingOk_1 (N : Nat) : CT := ⟨132, (.pr (.d tPeer) (.ip tPeer)), (.t .bl), fun a => x_impl_RingOk_1 N a.1 a.2⟩
theorem c_impl_RingOk_1 (N : Nat) : CTok Try.prog (ct_impl_RingOk_1 N) :=
  CT_ok (Γ := []) (Θ := []) (Λ := ([] : List (LC (DenR (.t .bl))))) (by kernel_rfl) mixed trivial (by kernel_rfl)
    trivial (by kernel_rfl) (fun a => by kernel_rfl)

/-- a round -/
def B_slices_IndexFunc_impl_Peer_impl_Peer__impl_RingOk_1_L0 (N : Nat) {Ω : Type} (kx : DenS .un → Option Ω) (kr : Int → Option Ω) (rec_ : DenS (.pr (.d 0 (.sl tPeer)) (.pr (.fn 1 132 (.ip tPeer)) (.pr (.d 7 I) (.d 8 I)))) → Option Ω) : DenS (.pr (.d 0 (.sl tPeer)) (.pr (.fn 1 132 (.ip tPeer)) (.pr (.d 7 I) (.d 8 I)))) → Option Ω := fun (s0, s1, s7, s8) =>
  (bif (decide (s8 < s7)) then (bif (decide (0 ≤ s8) && decide (s8 < s0.length)) then (x_impl_RingOk_1 N (s0.getD s8.toNat (dft tPeer)) s1).bind fun r1 => (bif r1 then kr s8 else rec_ (s0, s1, s7, (wrap64 (s8 + (1 : Int))))) else none) else kx ())
/-- slices.IndexFunc[[]loop.example/g00474/impl.Peer,loop.example/g00474/impl.Peer] -/
def x_slices_IndexFunc_impl_Peer_impl_Peer__impl_RingOk_1 (N : Nat) (a0 : (List (Den tPeer))) (a1 : (Den tPeer)) : Option Int :=
  iter (B_slices_IndexFunc_impl_Peer_impl_Peer__impl_RingOk_1_L0 N (fun _ => some (-1 : Int)) (fun ρ2 => some (ρ2))) N (a0, a1, (a0.length : Int), (0 : Int))
abbrev ct_slices_IndexFunc_impl_Peer_impl_Peer__impl_RingOk_1 (N : Nat) : CT := ⟨181, (.pr (.d (.sl tPeer)) (.fn 132 (.ip tPeer))), (.t I), fun a => x_slices_IndexFunc_impl_Peer_impl_Peer__impl_RingOk_1 N a.1 a.2⟩
theorem c_slices_IndexFunc_impl_Peer_impl_Peer__impl_RingOk_1 (N : Nat) : CTok Try.prog (ct_slices_IndexFunc_impl_Peer_impl_Peer__impl_RingOk_1 N) :=
  CT_ok (Γ := [ct_impl_RingOk_1 N]) (Θ := []) (Λ := ([⟨0, (.pr (.d 0 (.sl tPeer)) (.pr (.fn 1 132 (.ip tPeer)) (.pr (.d 7 I) (.d 8 I)))), .un, fun {Ω} kx kr => iter (B_slices_IndexFunc_impl_Peer_impl_Peer__impl_RingOk_1_L0 N kx kr) N⟩] : List (LC (DenR (.t I))))) (by kernel_rfl) mixed ⟨c_impl_RingOk_1 N, trivial⟩ (by kernel_rfl)
    ⟨LoopEq.mk N (fun Ω kx kr => B_slices_IndexFunc_impl_Peer_impl_Peer__impl_RingOk_1_L0 N kx kr) (fun Ω g kx kr s => by kernel_rfl), trivial⟩ (by kernel_rfl) (fun a => by kernel_rfl)

/-- slices.ContainsFunc[[]loop.example/g00474/impl.Peer,loop.example/g00474/impl.Peer] -/
def x_slices_ContainsFunc_impl_Peer_impl_Peer__impl_RingOk_1 (N : Nat) (a0 : (List (Den tPeer))) (a1 : (Den tPeer)) : Option Bool :=
  (x_slices_IndexFunc_impl_Peer_impl_Peer__impl_RingOk_1 N a0 a1).bind fun r1 => some (decide ((0 : Int) ≤ r1))
abbrev ct_slices_ContainsFunc_impl_Peer_impl_Peer__impl_RingOk_1 (N : Nat) : CT := ⟨131, (.pr (.d (.sl tPeer)) (.fn 132 (.ip tPeer))), (.t .bl), fun a => x_slices_ContainsFunc_impl_Peer_impl_Peer__impl_RingOk_1 N a.1 a.2⟩
theorem c_slices_ContainsFunc_impl_Peer_impl_Peer__impl_RingOk_1 (N : Nat) : CTok Try.prog (ct_slices_ContainsFunc_impl_Peer_impl_Peer__impl_RingOk_1 N) :=
  CT_ok (Γ := [ct_slices_IndexFunc_impl_Peer_impl_Peer__impl_RingOk_1 N]) (Θ := []) (Λ := ([] : List (LC (DenR (.t .bl))))) (by kernel_rfl) mixed ⟨c_slices_IndexFunc_impl_Peer_impl_Peer__impl_RingOk_1 N, trivial⟩ (by kernel_rfl)
    trivial (by kernel_rfl) (fun a => by kernel_rfl)

/-- a round -/
def B_impl_RingOk_L0 (N : Nat) {Ω : Type} (kx : DenS .un → Option Ω) (kr : Bool → Option Ω) (rec_ : DenS (.pr (.ip 1 tRing) (.pr (.d 11 (.sl tPeer)) (.pr (.d 12 I) (.d 13 I)))) → Option Ω) : DenS (.pr (.ip 1 tRing) (.pr (.d 11 (.sl tPeer)) (.pr (.d 12 I) (.d 13 I)))) → Option Ω := fun (s1, s11, s12, s13) =>
  (bif (decide (s13 < s12)) then (bif (decide (0 ≤ s13) && decide (s13 < s11.length)) then (x_impl_PeerOk N ((s11.getD s13.toNat (dft tPeer)).1, ((s11.getD s13.toNat (dft tPeer)).2).1, (((s11.getD s13.toNat (dft tPeer)).2).2).1, ((((s11.getD s13.toNat (dft tPeer)).2).2).2).1, (((((s11.getD s13.toNat (dft tPeer)).2).2).2).2).1, (((((s11.getD s13.toNat (dft tPeer)).2).2).2).2).2)).bind fun r2 => (bif (!r2) then kr false else (bif (decide (s13 < (4 : Int))) then (bif (!(((s11.getD s13.toNat (dft tPeer)).2).1)) then kr false else (bif ((s11.getD s13.toNat (dft tPeer)).2).1 then (x_impl_knowsOne N s1 ((s11.getD s13.toNat (dft tPeer)).1, ((s11.getD s13.toNat (dft tPeer)).2).1, (((s11.getD s13.toNat (dft tPeer)).2).2).1, ((((s11.getD s13.toNat (dft tPeer)).2).2).2).1, (((((s11.getD s13.toNat (dft tPeer)).2).2).2).2).1, (((((s11.getD s13.toNat (dft tPeer)).2).2).2).2).2)).bind fun r3 => (bif (!r3) then kr false else (bif (inB (0 : Int) s13 (s1.length : Int)) then (x_slices_ContainsFunc_impl_Peer_impl_Peer__impl_RingOk_1 N ((s1.drop (0 : Int).toNat).take (s13.toNat - (0 : Int).toNat)) ((s11.getD s13.toNat (dft tPeer)).1, ((s11.getD s13.toNat (dft tPeer)).2).1, (((s11.getD s13.toNat (dft tPeer)).2).2).1, ((((s11.getD s13.toNat (dft tPeer)).2).2).2).1, (((((s11.getD s13.toNat (dft tPeer)).2).2).2).2).1, (((((s11.getD s13.toNat (dft tPeer)).2).2).2).2).2)).bind fun r4 => (bif r4 then kr false else rec_ (s1, s11, s12, (wrap64 (s13 + (1 : Int))))) else none)) else (bif (inB (0 : Int) s13 (s1.length : Int)) then (x_slices_ContainsFunc_impl_Peer_impl_Peer__impl_RingOk_1 N ((s1.drop (0 : Int).toNat).take (s13.toNat - (0 : Int).toNat)) ((s11.getD s13.toNat (dft tPeer)).1, ((s11.getD s13.toNat (dft tPeer)).2).1, (((s11.getD s13.toNat (dft tPeer)).2).2).1, ((((s11.getD s13.toNat (dft tPeer)).2).2).2).1, (((((s11.getD s13.toNat (dft tPeer)).2).2).2).2).1, (((((s11.getD s13.toNat (dft tPeer)).2).2).2).2).2)).bind fun r5 => (bif r5 then kr false else rec_ (s1, s11, s12, (wrap64 (s13 + (1 : Int))))) else none))) else (bif ((s11.getD s13.toNat (dft tPeer)).2).1 then (x_impl_knowsOne N s1 ((s11.getD s13.toNat (dft tPeer)).1, ((s11.getD s13.toNat (dft tPeer)).2).1, (((s11.getD s13.toNat (dft tPeer)).2).2).1, ((((s11.getD s13.toNat (dft tPeer)).2).2).2).1, (((((s11.getD s13.toNat (dft tPeer)).2).2).2).2).1, (((((s11.getD s13.toNat (dft tPeer)).2).2).2).2).2)).bind fun r6 => (bif (!r6) then kr false else (bif (inB (0 : Int) s13 (s1.length : Int)) then (x_slices_ContainsFunc_impl_Peer_impl_Peer__impl_RingOk_1 N ((s1.drop (0 : Int).toNat).take (s13.toNat - (0 : Int).toNat)) ((s11.getD s13.toNat (dft tPeer)).1, ((s11.getD s13.toNat (dft tPeer)).2).1, (((s11.getD s13.toNat (dft tPeer)).2).2).1, ((((s11.getD s13.toNat (dft tPeer)).2).2).2).1, (((((s11.getD s13.toNat (dft tPeer)).2).2).2).2).1, (((((s11.getD s13.toNat (dft tPeer)).2).2).2).2).2)).bind fun r7 => (bif r7 then kr false else rec_ (s1, s11, s12, (wrap64 (s13 + (1 : Int))))) else none)) else (bif (inB (0 : Int) s13 (s1.length : Int)) then (x_slices_ContainsFunc_impl_Peer_impl_Peer__impl_RingOk_1 N ((s1.drop (0 : Int).toNat).take (s13.toNat - (0 : Int).toNat)) ((s11.getD s13.toNat (dft tPeer)).1, ((s11.getD s13.toNat (dft tPeer)).2).1, (((s11.getD s13.toNat (dft tPeer)).2).2).1, ((((s11.getD s13.toNat (dft tPeer)).2).2).2).1, (((((s11.getD s13.toNat (dft tPeer)).2).2).2).2).1, (((((s11.getD s13.toNat (dft tPeer)).2).2).2).2).2)).bind fun r8 => (bif r8 then kr false else rec_ (s1, s11, s12, (wrap64 (s13 + (1 : Int))))) else none)))) else none) else kx ())
/-- loop.example/g00474/impl.RingOk -/
def x_impl_RingOk (N : Nat) (a0 : (Den tRing)) : Option Bool :=
  (x_impl_in N (a0.length : Int) (4 : Int) (8 : Int)).bind fun r1 => (bif (!r1) then some false else iter (B_impl_RingOk_L0 N (fun _ => some true) (fun ρ9 => some (ρ9))) N (a0, a0, (a0.length : Int), (0 : Int)))
abbrev ct_impl_RingOk (N : Nat) : CT := ⟨62, (.d tRing), (.t .bl), fun a => x_impl_RingOk N a⟩
theorem c_impl_RingOk (N : Nat) : CTok Try.prog (ct_impl_RingOk N) :=
  CT_ok (Γ := [ct_impl_in N, ct_impl_PeerOk N, ct_impl_knowsOne N, ct_slices_ContainsFunc_impl_Peer_impl_Peer__impl_RingOk_1 N]) (Θ := []) (Λ := ([⟨0, (.pr (.ip 1 tRing) (.pr (.d 11 (.sl tPeer)) (.pr (.d 12 I) (.d 13 I)))), .un, fun {Ω} kx kr => iter (B_impl_RingOk_L0 N kx kr) N⟩] : List (LC (DenR (.t .bl))))) (by kernel_rfl) mixed ⟨c_impl_in N, ⟨c_impl_PeerOk N, ⟨c_impl_knowsOne N, ⟨c_slices_ContainsFunc_impl_Peer_impl_Peer__impl_RingOk_1 N, trivial⟩⟩⟩⟩ (by kernel_rfl)
    ⟨LoopEq.mk N (fun Ω kx kr => B_impl_RingOk_L0 N kx kr) (fun Ω g kx kr s => by kernel_rfl), trivial⟩ (by kernel_rfl) (fun a => by kernel_rfl)

/-- a round -/
def B_laws_eqIntS_L0 (N : Nat) {Ω : Type} (kx : DenS .un → Option Ω) (kr : Bool → Option Ω) (rec_ : DenS (.pr (.d 0 (.sl I)) (.pr (.d 1 (.sl I)) (.d 5 I))) → Option Ω) : DenS (.pr (.d 0 (.sl I)) (.pr (.d 1 (.sl I)) (.d 5 I))) → Option Ω := fun (s0, s1, s5) =>
  (bif (decide (s5 < (s0.length : Int))) then (bif (decide (0 ≤ s5) && decide (s5 < s0.length)) then (bif (decide (0 ≤ s5) && decide (s5 < s1.length)) then (bif (!decide ((s0.getD s5.toNat (0 : Int)) = (s1.getD s5.toNat (0 : Int)))) then kr false else rec_ (s0, s1, (wrap64 (s5 + (1 : Int))))) else none) else none) else kx ())
/-- loop.example/g00474/laws.eqIntS -/
def x_laws_eqIntS (N : Nat) (a0 : (List Int)) (a1 : (List Int)) : Option Bool :=
  (bif (!decide ((a0.length : Int) = (a1.length : Int))) then some false else iter (B_laws_eqIntS_L0 N (fun _ => some true) (fun ρ1 => some (ρ1))) N (a0, a1, (0 : Int)))
abbrev ct_laws_eqIntS (N : Nat) : CT := ⟨56, (.pr (.d (.sl I)) (.d (.sl I))), (.t .bl), fun a => x_laws_eqIntS N a.1 a.2⟩
theorem c_laws_eqIntS (N : Nat) : CTok Try.prog (ct_laws_eqIntS N) :=
  CT_ok (Γ := []) (Θ := []) (Λ := ([⟨0, (.pr (.d 0 (.sl I)) (.pr (.d 1 (.sl I)) (.d 5 I))), .un, fun {Ω} kx kr => iter (B_laws_eqIntS_L0 N kx kr) N⟩] : List (LC (DenR (.t .bl))))) (by kernel_rfl) mixed trivial (by kernel_rfl)
    ⟨LoopEq.mk N (fun Ω kx kr => B_laws_eqIntS_L0 N kx kr) (fun Ω g kx kr s => by kernel_rfl), trivial⟩ (by kernel_rfl) (fun a => by kernel_rfl)

/-- loop.example/g00474/laws.eqItem -/
def x_laws_eqItem (N : Nat) (a0 : (Den tItem)) (a1 : (Den tItem)) : Option Bool :=
  (bif (!decide (a0.1 = a1.1)) then some false else (bif (!(a0.2 == a1.2)) then some false else some true))
abbrev ct_laws_eqItem (N : Nat) : CT := ⟨227, (.pr (.d tItem) (.d tItem)), (.t .bl), fun a => x_laws_eqItem N a.1 a.2⟩
theorem c_laws_eqItem (N : Nat) : CTok Try.prog (ct_laws_eqItem N) :=
  CT_ok (Γ := []) (Θ := []) (Λ := ([] : List (LC (DenR (.t .bl))))) (by kernel_rfl) mixed trivial (by kernel_rfl)
    trivial (by kernel_rfl) (fun a => by kernel_rfl)

/-- a round -/
def B_laws_eqItemS_L0 (N : Nat) {Ω : Type} (kx : DenS .un → Option Ω) (kr : Bool → Option Ω) (rec_ : DenS (.pr (.d 0 (.sl tItem)) (.pr (.d 1 (.sl tItem)) (.d 5 I))) → Option Ω) : DenS (.pr (.d 0 (.sl tItem)) (.pr (.d 1 (.sl tItem)) (.d 5 I))) → Option Ω := fun (s0, s1, s5) =>
  (bif (decide (s5 < (s0.length : Int))) then (bif (decide (0 ≤ s5) && decide (s5 < s0.length)) then (bif (decide (0 ≤ s5) && decide (s5 < s1.length)) then (x_laws_eqItem N (s0.getD s5.toNat (dft tItem)) (s1.getD s5.toNat (dft tItem))).bind fun r1 => (bif (!r1) then kr false else rec_ (s0, s1, (wrap64 (s5 + (1 : Int))))) else none) else none) else kx ())
/-- loop.example/g00474/laws.eqItemS -/
def x_laws_eqItemS (N : Nat) (a0 : (List (Den tItem))) (a1 : (List (Den tItem))) : Option Bool :=
  (bif (!decide ((a0.length : Int) = (a1.length : Int))) then some false else iter (B_laws_eqItemS_L0 N (fun _ => some true) (fun ρ2 => some (ρ2))) N (a0, a1, (0 : Int)))
abbrev ct_laws_eqItemS (N : Nat) : CT := ⟨224, (.pr (.d (.sl tItem)) (.d (.sl tItem))), (.t .bl), fun a => x_laws_eqItemS N a.1 a.2⟩
theorem c_laws_eqItemS (N : Nat) : CTok Try.prog (ct_laws_eqItemS N) :=
  CT_ok (Γ := [ct_laws_eqItem N]) (Θ := []) (Λ := ([⟨0, (.pr (.d 0 (.sl tItem)) (.pr (.d 1 (.sl tItem)) (.d 5 I))), .un, fun {Ω} kx kr => iter (B_laws_eqItemS_L0 N kx kr) N⟩] : List (LC (DenR (.t .bl))))) (by kernel_rfl) mixed ⟨c_laws_eqItem N, trivial⟩ (by kernel_rfl)
    ⟨LoopEq.mk N (fun Ω kx kr => B_laws_eqItemS_L0 N kx kr) (fun Ω g kx kr s => by kernel_rfl), trivial⟩ (by kernel_rfl) (fun a => by kernel_rfl)

/-- loop.example/g00474/laws.eqShelf -/
def x_laws_eqShelf (N : Nat) (a0 : (Den tShelf)) (a1 : (Den tShelf)) : Option Bool :=
  (bif (!decide (a0.1 = a1.1)) then some false else (x_laws_eqItemS N a0.2 a1.2).bind fun r1 => (bif (!r1) then some false else some true))
abbrev ct_laws_eqShelf (N : Nat) : CT := ⟨220, (.pr (.d tShelf) (.d tShelf)), (.t .bl), fun a => x_laws_eqShelf N a.1 a.2⟩
theorem c_laws_eqShelf (N : Nat) : CTok Try.prog (ct_laws_eqShelf N) :=
  CT_ok (Γ := [ct_laws_eqItemS N]) (Θ := []) (Λ := ([] : List (LC (DenR (.t .bl))))) (by kernel_rfl) mixed ⟨c_laws_eqItemS N, trivial⟩ (by kernel_rfl)
    trivial (by kernel_rfl) (fun a => by kernel_rfl)

/-- a round -/
def B_laws_eqShelfS_L0 (N : Nat) {Ω : Type} (kx : DenS .un → Option Ω) (kr : Bool → Option Ω) (rec_ : DenS (.pr (.d 0 (.sl tShelf)) (.pr (.d 1 (.sl tShelf)) (.d 5 I))) → Option Ω) : DenS (.pr (.d 0 (.sl tShelf)) (.pr (.d 1 (.sl tShelf)) (.d 5 I))) → Option Ω := fun (s0, s1, s5) =>
  (bif (decide (s5 < (s0.length : Int))) then (bif (decide (0 ≤ s5) && decide (s5 < s0.length)) then (bif (decide (0 ≤ s5) && decide (s5 < s1.length)) then (x_laws_eqShelf N (s0.getD s5.toNat (dft tShelf)) (s1.getD s5.toNat (dft tShelf))).bind fun r1 => (bif (!r1) then kr false else rec_ (s0, s1, (wrap64 (s5 + (1 : Int))))) else none) else none) else kx ())
/-- loop.example/g00474/laws.eqShelfS -/
def x_laws_eqShelfS (N : Nat) (a0 : (List (Den tShelf))) (a1 : (List (Den tShelf))) : Option Bool :=
  (bif (!decide ((a0.length : Int) = (a1.length : Int))) then some false else iter (B_laws_eqShelfS_L0 N (fun _ => some true) (fun ρ2 => some (ρ2))) N (a0, a1, (0 : Int)))
abbrev ct_laws_eqShelfS (N : Nat) : CT := ⟨211, (.pr (.d (.sl tShelf)) (.d (.sl tShelf))), (.t .bl), fun a => x_laws_eqShelfS N a.1 a.2⟩
theorem c_laws_eqShelfS (N : Nat) : CTok Try.prog (ct_laws_eqShelfS N) :=
  CT_ok (Γ := [ct_laws_eqShelf N]) (Θ := []) (Λ := ([⟨0, (.pr (.d 0 (.sl tShelf)) (.pr (.d 1 (.sl tShelf)) (.d 5 I))), .un, fun {Ω} kx kr => iter (B_laws_eqShelfS_L0 N kx kr) N⟩] : List (LC (DenR (.t .bl))))) (by kernel_rfl) mixed ⟨c_laws_eqShelf N, trivial⟩ (by kernel_rfl)
    ⟨LoopEq.mk N (fun Ω kx kr => B_laws_eqShelfS_L0 N kx kr) (fun Ω g kx kr s => by kernel_rfl), trivial⟩ (by kernel_rfl) (fun a => by kernel_rfl)

/-- loop.example/g00474/laws.eqPeer -/
def x_laws_eqPeer (N : Nat) (a0 : (Den tPeer)) (a1 : (Den tPeer)) : Option Bool :=
  (bif (!decide (a0.1 = a1.1)) then some false else (bif (!(a0.2.1 == a1.2.1)) then some false else (bif (!decide (a0.2.2.1 = a1.2.2.1)) then some false else (x_laws_eqIntS N a0.2.2.2.1 a1.2.2.2.1).bind fun r1 => (bif (!r1) then some false else (x_laws_eqIntS N a0.2.2.2.2.1 a1.2.2.2.2.1).bind fun r2 => (bif (!r2) then some false else (x_laws_eqShelfS N a0.2.2.2.2.2 a1.2.2.2.2.2).bind fun r3 => (bif (!r3) then some false else some true))))))
abbrev ct_laws_eqPeer (N : Nat) : CT := ⟨183, (.pr (.d tPeer) (.d tPeer)), (.t .bl), fun a => x_laws_eqPeer N a.1 a.2⟩
theorem c_laws_eqPeer (N : Nat) : CTok Try.prog (ct_laws_eqPeer N) :=
  CT_ok (Γ := [ct_laws_eqIntS N, ct_laws_eqShelfS N]) (Θ := []) (Λ := ([] : List (LC (DenR (.t .bl))))) (by kernel_rfl) mixed ⟨c_laws_eqIntS N, ⟨c_laws_eqShelfS N, trivial⟩⟩ (by kernel_rfl)
    trivial (by kernel_rfl) (fun a => by kernel_rfl)

/-- a round -/
def B_laws_eqPeerS_L0 (N : Nat) {Ω : Type} (kx : DenS .un → Option Ω) (kr : Bool → Option Ω) (rec_ : DenS (.pr (.d 0 (.sl tPeer)) (.pr (.d 1 (.sl tPeer)) (.d 5 I))) → Option Ω) : DenS (.pr (.d 0 (.sl tPeer)) (.pr (.d 1 (.sl tPeer)) (.d 5 I))) → Option Ω := fun (s0, s1, s5) =>
  (bif (decide (s5 < (s0.length : Int))) then (bif (decide (0 ≤ s5) && decide (s5 < s0.length)) then (bif (decide (0 ≤ s5) && decide (s5 < s1.length)) then (x_laws_eqPeer N (s0.getD s5.toNat (dft tPeer)) (s1.getD s5.toNat (dft tPeer))).bind fun r1 => (bif (!r1) then kr false else rec_ (s0, s1, (wrap64 (s5 + (1 : Int))))) else none) else none) else kx ())
/-- loop.example/g00474/laws.eqPeerS -/
def x_laws_eqPeerS (N : Nat) (a0 : (List (Den tPeer))) (a1 : (List (Den tPeer))) : Option Bool :=
  (bif (!decide ((a0.length : Int) = (a1.length : Int))) then some false else iter (B_laws_eqPeerS_L0 N (fun _ => some true) (fun ρ2 => some (ρ2))) N (a0, a1, (0 : Int)))
abbrev ct_laws_eqPeerS (N : Nat) : CT := ⟨125, (.pr (.d (.sl tPeer)) (.d (.sl tPeer))), (.t .bl), fun a => x_laws_eqPeerS N a.1 a.2⟩
theorem c_laws_eqPeerS (N : Nat) : CTok Try.prog (ct_laws_eqPeerS N) :=
  CT_ok (Γ := [ct_laws_eqPeer N]) (Θ := []) (Λ := ([⟨0, (.pr (.d 0 (.sl tPeer)) (.pr (.d 1 (.sl tPeer)) (.d 5 I))), .un, fun {Ω} kx kr => iter (B_laws_eqPeerS_L0 N kx kr) N⟩] : List (LC (DenR (.t .bl))))) (by kernel_rfl) mixed ⟨c_laws_eqPeer N, trivial⟩ (by kernel_rfl)
    ⟨LoopEq.mk N (fun Ω kx kr => B_laws_eqPeerS_L0 N kx kr) (fun Ω g kx kr s => by kernel_rfl), trivial⟩ (by kernel_rfl) (fun a => by kernel_rfl)

/-- loop.example/g00474/laws.eqRing -/
def x_laws_eqRing (N : Nat) (a0 : (Den tRing)) (a1 : (Den tRing)) : Option Bool :=
  (x_laws_eqPeerS N a0 a1).bind fun r1 => (bif (!r1) then some false else some true)
abbrev ct_laws_eqRing (N : Nat) : CT := ⟨57, (.pr (.d tRing) (.d tRing)), (.t .bl), fun a => x_laws_eqRing N a.1 a.2⟩
theorem c_laws_eqRing (N : Nat) : CTok Try.prog (ct_laws_eqRing N) :=
  CT_ok (Γ := [ct_laws_eqPeerS N]) (Θ := []) (Λ := ([] : List (LC (DenR (.t .bl))))) (by kernel_rfl) mixed ⟨c_laws_eqPeerS N, trivial⟩ (by kernel_rfl)
    trivial (by kernel_rfl) (fun a => by kernel_rfl)

/-- loop.example/g00474/laws.FnExactRingOk -/
def x_laws_FnExactRingOk (N : Nat) (a0 : (Den tRing)) : Option Bool :=
  (x_laws_szRing N a0 (1048576 : Int)).bind fun r1 => (bif (decide (r1 < (0 : Int))) then some true else (x_laws_toRing N a0).bind fun r2 => (x_spec_RingOk N r2).bind fun r3 => (x_laws_toRing N a0).bind fun r4 => (x_impl_RingOk N r4).bind fun r5 => (bif (!(r5 == r3)) then some false else (x_laws_toRing N a0).bind fun r6 => (x_laws_eqRing N r4 r6).bind fun r7 => (bif (!r7) then some false else some true)))
abbrev ct_laws_FnExactRingOk (N : Nat) : CT := ⟨9, (.d tRing), (.t .bl), fun a => x_laws_FnExactRingOk N a⟩
theorem c_laws_FnExactRingOk (N : Nat) : CTok Try.prog (ct_laws_FnExactRingOk N) :=
  CT_ok (Γ := [ct_laws_szRing N, ct_laws_toRing N, ct_spec_RingOk N, ct_impl_RingOk N, ct_laws_eqRing N]) (Θ := []) (Λ := ([] : List (LC (DenR (.t .bl))))) (by kernel_rfl) mixed ⟨c_laws_szRing N, ⟨c_laws_toRing N, ⟨c_spec_RingOk N, ⟨c_impl_RingOk N, ⟨c_laws_eqRing N, trivial⟩⟩⟩⟩⟩ (by kernel_rfl)
    trivial (by kernel_rfl) (fun a => by kernel_rfl)

end Go.Proofs.Yteadknjgpmnigaa.C
