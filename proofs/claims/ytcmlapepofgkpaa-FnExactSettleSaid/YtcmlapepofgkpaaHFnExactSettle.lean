/- Each function of the program that is reached computes the datum printed here: no condition beyond the arguments that its contract names. -/
import Derived.Test.YtcmlapepofgkpaaNxq
import Derived.Test.YtcmlapepofgkpaaChecked
import Derived.KernelRfl
namespace Go.Proofs.Ytcmlapepofgkpaa.C
open Go Go.Proofs.Ytcmlapepofgkpaa.Nx Go.RowKit
set_option maxRecDepth 100000
set_option linter.unusedVariables false
noncomputable section
abbrev I : Ty := .i .i64
abbrev tItem : Ty := (.st (.pr .tx .bl))
abbrev tShelf : Ty := (.st (.pr I (.sl tItem)))
abbrev tPeer : Ty := (.st (.pr I (.pr .bl (.pr I (.pr (.sl I) (.pr (.sl I) (.sl tShelf)))))))
abbrev tRing : Ty := (.st (.sl tPeer))
theorem mixed : Try.prog.follows .mixedOrders = true := by kernel_rfl

/-- loop.example/g00474/laws.szIntS -/
def x_laws_szIntS (N : Nat) (a0 : (List Int)) (a1 : Int) : Option Int :=
  (bif (decide ((wrap64 (a1 - (a0.length : Int))) < (0 : Int))) then some (-1 : Int) else some (wrap64 (a1 - (a0.length : Int))))
abbrev ct_laws_szIntS (N : Nat) : CT := ⟨125, (.pr (.d (.sl I)) (.d I)), (.t I), fun a => x_laws_szIntS N a.1 a.2⟩
theorem c_laws_szIntS (N : Nat) : CTok Try.prog (ct_laws_szIntS N) :=
  CT_ok (Γ := []) (Θ := []) (Λ := ([] : List (LC (DenR (.t I))))) (by kernel_rfl) mixed trivial (by kernel_rfl)
    trivial (by kernel_rfl) (fun a => by kernel_rfl)

/-- loop.example/g00474/laws.szItem -/
def x_laws_szItem (N : Nat) (a0 : (Den tItem)) (a1 : Int) : Option Int :=
  (bif (decide ((wrap64 (a1 - (a0.1.size : Int))) < (0 : Int))) then some (-1 : Int) else some (wrap64 (a1 - (a0.1.size : Int))))
abbrev ct_laws_szItem (N : Nat) : CT := ⟨127, (.pr (.d tItem) (.d I)), (.t I), fun a => x_laws_szItem N a.1 a.2⟩
theorem c_laws_szItem (N : Nat) : CTok Try.prog (ct_laws_szItem N) :=
  CT_ok (Γ := []) (Θ := []) (Λ := ([] : List (LC (DenR (.t I))))) (by kernel_rfl) mixed trivial (by kernel_rfl)
    trivial (by kernel_rfl) (fun a => by kernel_rfl)

/-- a round -/
def B_laws_szItemS_L0 (N : Nat) {Ω : Type} (kx : DenS (.d 1 I) → Option Ω) (kr : Int → Option Ω) (rec_ : DenS (.pr (.d 0 (.sl tItem)) (.pr (.d 1 I) (.d 5 I))) → Option Ω) : DenS (.pr (.d 0 (.sl tItem)) (.pr (.d 1 I) (.d 5 I))) → Option Ω := fun (s0, s1, s5) =>
  (bif (decide (s5 < (s0.length : Int))) then (bif (decide (0 ≤ s5) && decide (s5 < s0.length)) then (x_laws_szItem N (s0.getD s5.toNat (dft tItem)) s1).bind fun r1 => (bif (decide (r1 < (0 : Int))) then kr (-1 : Int) else rec_ (s0, r1, (wrap64 (s5 + (1 : Int))))) else none) else kx s1)
/-- loop.example/g00474/laws.szItemS -/
def x_laws_szItemS (N : Nat) (a0 : (List (Den tItem))) (a1 : Int) : Option Int :=
  (bif (decide ((wrap64 (a1 - (a0.length : Int))) < (0 : Int))) then some (-1 : Int) else iter (B_laws_szItemS_L0 N (fun x2 => some x2) (fun ρ3 => some (ρ3))) N (a0, (wrap64 (a1 - (a0.length : Int))), (0 : Int)))
abbrev ct_laws_szItemS (N : Nat) : CT := ⟨55, (.pr (.d (.sl tItem)) (.d I)), (.t I), fun a => x_laws_szItemS N a.1 a.2⟩
theorem c_laws_szItemS (N : Nat) : CTok Try.prog (ct_laws_szItemS N) :=
  CT_ok (Γ := [.c (ct_laws_szItem N)]) (Θ := []) (Λ := ([⟨0, 0, (.pr (.d 0 (.sl tItem)) (.pr (.d 1 I) (.d 5 I))), (.d 1 I), fun {Ω} kx kr => iter (B_laws_szItemS_L0 N kx kr) N⟩] : List (LC (DenR (.t I))))) (by kernel_rfl) mixed ⟨c_laws_szItem N, trivial⟩ (by kernel_rfl)
    ⟨LoopEq.mk N (fun Ω kx kr => B_laws_szItemS_L0 N kx kr) (fun Ω g kx kr s => by kernel_rfl), trivial⟩ (by kernel_rfl) (fun a => by kernel_rfl)

/-- loop.example/g00474/laws.szShelf -/
def x_laws_szShelf (N : Nat) (a0 : (Den tShelf)) (a1 : Int) : Option Int :=
  (x_laws_szItemS N a0.2 a1).bind fun r1 => (bif (decide (r1 < (0 : Int))) then some (-1 : Int) else some r1)
abbrev ct_laws_szShelf (N : Nat) : CT := ⟨184, (.pr (.d tShelf) (.d I)), (.t I), fun a => x_laws_szShelf N a.1 a.2⟩
theorem c_laws_szShelf (N : Nat) : CTok Try.prog (ct_laws_szShelf N) :=
  CT_ok (Γ := [.c (ct_laws_szItemS N)]) (Θ := []) (Λ := ([] : List (LC (DenR (.t I))))) (by kernel_rfl) mixed ⟨c_laws_szItemS N, trivial⟩ (by kernel_rfl)
    trivial (by kernel_rfl) (fun a => by kernel_rfl)

/-- a round -/
def B_laws_szShelfS_L0 (N : Nat) {Ω : Type} (kx : DenS (.d 1 I) → Option Ω) (kr : Int → Option Ω) (rec_ : DenS (.pr (.d 0 (.sl tShelf)) (.pr (.d 1 I) (.d 5 I))) → Option Ω) : DenS (.pr (.d 0 (.sl tShelf)) (.pr (.d 1 I) (.d 5 I))) → Option Ω := fun (s0, s1, s5) =>
  (bif (decide (s5 < (s0.length : Int))) then (bif (decide (0 ≤ s5) && decide (s5 < s0.length)) then (x_laws_szShelf N (s0.getD s5.toNat (dft tShelf)) s1).bind fun r1 => (bif (decide (r1 < (0 : Int))) then kr (-1 : Int) else rec_ (s0, r1, (wrap64 (s5 + (1 : Int))))) else none) else kx s1)
/-- loop.example/g00474/laws.szShelfS -/
def x_laws_szShelfS (N : Nat) (a0 : (List (Den tShelf))) (a1 : Int) : Option Int :=
  (bif (decide ((wrap64 (a1 - (a0.length : Int))) < (0 : Int))) then some (-1 : Int) else iter (B_laws_szShelfS_L0 N (fun x2 => some x2) (fun ρ3 => some (ρ3))) N (a0, (wrap64 (a1 - (a0.length : Int))), (0 : Int)))
abbrev ct_laws_szShelfS (N : Nat) : CT := ⟨126, (.pr (.d (.sl tShelf)) (.d I)), (.t I), fun a => x_laws_szShelfS N a.1 a.2⟩
theorem c_laws_szShelfS (N : Nat) : CTok Try.prog (ct_laws_szShelfS N) :=
  CT_ok (Γ := [.c (ct_laws_szShelf N)]) (Θ := []) (Λ := ([⟨0, 0, (.pr (.d 0 (.sl tShelf)) (.pr (.d 1 I) (.d 5 I))), (.d 1 I), fun {Ω} kx kr => iter (B_laws_szShelfS_L0 N kx kr) N⟩] : List (LC (DenR (.t I))))) (by kernel_rfl) mixed ⟨c_laws_szShelf N, trivial⟩ (by kernel_rfl)
    ⟨LoopEq.mk N (fun Ω kx kr => B_laws_szShelfS_L0 N kx kr) (fun Ω g kx kr s => by kernel_rfl), trivial⟩ (by kernel_rfl) (fun a => by kernel_rfl)

/-- loop.example/g00474/laws.szPeer -/
def x_laws_szPeer (N : Nat) (a0 : (Den tPeer)) (a1 : Int) : Option Int :=
  (x_laws_szIntS N a0.2.2.2.1 a1).bind fun r1 => (bif (decide (r1 < (0 : Int))) then some (-1 : Int) else (x_laws_szIntS N a0.2.2.2.2.1 r1).bind fun r2 => (bif (decide (r2 < (0 : Int))) then some (-1 : Int) else (x_laws_szShelfS N a0.2.2.2.2.2 r2).bind fun r3 => (bif (decide (r3 < (0 : Int))) then some (-1 : Int) else some r3)))
abbrev ct_laws_szPeer (N : Nat) : CT := ⟨54, (.pr (.d tPeer) (.d I)), (.t I), fun a => x_laws_szPeer N a.1 a.2⟩
theorem c_laws_szPeer (N : Nat) : CTok Try.prog (ct_laws_szPeer N) :=
  CT_ok (Γ := [.c (ct_laws_szIntS N), .c (ct_laws_szShelfS N)]) (Θ := []) (Λ := ([] : List (LC (DenR (.t I))))) (by kernel_rfl) mixed ⟨c_laws_szIntS N, ⟨c_laws_szShelfS N, trivial⟩⟩ (by kernel_rfl)
    trivial (by kernel_rfl) (fun a => by kernel_rfl)

/-- a round -/
def B_laws_szPeerS_L0 (N : Nat) {Ω : Type} (kx : DenS (.d 1 I) → Option Ω) (kr : Int → Option Ω) (rec_ : DenS (.pr (.d 0 (.sl tPeer)) (.pr (.d 1 I) (.d 5 I))) → Option Ω) : DenS (.pr (.d 0 (.sl tPeer)) (.pr (.d 1 I) (.d 5 I))) → Option Ω := fun (s0, s1, s5) =>
  (bif (decide (s5 < (s0.length : Int))) then (bif (decide (0 ≤ s5) && decide (s5 < s0.length)) then (x_laws_szPeer N (s0.getD s5.toNat (dft tPeer)) s1).bind fun r1 => (bif (decide (r1 < (0 : Int))) then kr (-1 : Int) else rec_ (s0, r1, (wrap64 (s5 + (1 : Int))))) else none) else kx s1)
/-- loop.example/g00474/laws.szPeerS -/
def x_laws_szPeerS (N : Nat) (a0 : (List (Den tPeer))) (a1 : Int) : Option Int :=
  (bif (decide ((wrap64 (a1 - (a0.length : Int))) < (0 : Int))) then some (-1 : Int) else iter (B_laws_szPeerS_L0 N (fun x2 => some x2) (fun ρ3 => some (ρ3))) N (a0, (wrap64 (a1 - (a0.length : Int))), (0 : Int)))
abbrev ct_laws_szPeerS (N : Nat) : CT := ⟨75, (.pr (.d (.sl tPeer)) (.d I)), (.t I), fun a => x_laws_szPeerS N a.1 a.2⟩
theorem c_laws_szPeerS (N : Nat) : CTok Try.prog (ct_laws_szPeerS N) :=
  CT_ok (Γ := [.c (ct_laws_szPeer N)]) (Θ := []) (Λ := ([⟨0, 0, (.pr (.d 0 (.sl tPeer)) (.pr (.d 1 I) (.d 5 I))), (.d 1 I), fun {Ω} kx kr => iter (B_laws_szPeerS_L0 N kx kr) N⟩] : List (LC (DenR (.t I))))) (by kernel_rfl) mixed ⟨c_laws_szPeer N, trivial⟩ (by kernel_rfl)
    ⟨LoopEq.mk N (fun Ω kx kr => B_laws_szPeerS_L0 N kx kr) (fun Ω g kx kr s => by kernel_rfl), trivial⟩ (by kernel_rfl) (fun a => by kernel_rfl)

/-- loop.example/g00474/laws.szRing -/
def x_laws_szRing (N : Nat) (a0 : (Den tRing)) (a1 : Int) : Option Int :=
  (x_laws_szPeerS N a0 a1).bind fun r1 => (bif (decide (r1 < (0 : Int))) then some (-1 : Int) else some r1)
abbrev ct_laws_szRing (N : Nat) : CT := ⟨22, (.pr (.d tRing) (.d I)), (.t I), fun a => x_laws_szRing N a.1 a.2⟩
theorem c_laws_szRing (N : Nat) : CTok Try.prog (ct_laws_szRing N) :=
  CT_ok (Γ := [.c (ct_laws_szPeerS N)]) (Θ := []) (Λ := ([] : List (LC (DenR (.t I))))) (by kernel_rfl) mixed ⟨c_laws_szPeerS N, trivial⟩ (by kernel_rfl)
    trivial (by kernel_rfl) (fun a => by kernel_rfl)

/-- a round -/
def B_laws_toIntS_L0 (N : Nat) {Ω : Type} (kx : DenS (.o 3 I) → Option Ω) (kr : (List Int) → Option Ω) (rec_ : DenS (.pr (.d 0 (.sl I)) (.pr (.o 3 I) (.d 4 I))) → Option Ω) : DenS (.pr (.d 0 (.sl I)) (.pr (.o 3 I) (.d 4 I))) → Option Ω := fun (s0, s3, s4) =>
  (bif (decide (s4 < (s0.length : Int))) then (bif (decide (0 ≤ s4) && decide (s4 < s0.length)) then (bif (decide (0 ≤ s4) && decide (s4 < s3.length)) then rec_ (s0, (s3.set s4.toNat (s0.getD s4.toNat (0 : Int))), (wrap64 (s4 + (1 : Int)))) else none) else none) else kx s3)
/-- loop.example/g00474/laws.toIntS -/
def x_laws_toIntS (N : Nat) (a0 : (List Int)) : Option (List Int) :=
  (bif (decide ((a0.length : Int) = (a0.length : Int)) && (decide (0 ≤ (a0.length : Int)) && (decide ((a0.length : Int) * (8 : Nat) ≤ 140737488355328) && decide ((a0.length : Int) ≤ 9223372036854775807)))) then iter (B_laws_toIntS_L0 N (fun x1 => some x1) (fun ρ2 => some (ρ2))) N (a0, (List.replicate (a0.length : Int).toNat (0 : Int)), (0 : Int)) else none)
abbrev ct_laws_toIntS (N : Nat) : CT := ⟨50, (.d (.sl I)), (.t (.sl I)), fun a => x_laws_toIntS N a⟩
theorem c_laws_toIntS (N : Nat) : CTok Try.prog (ct_laws_toIntS N) :=
  CT_ok (Γ := []) (Θ := [(7, I)]) (Λ := ([⟨0, 0, (.pr (.d 0 (.sl I)) (.pr (.o 3 I) (.d 4 I))), (.o 3 I), fun {Ω} kx kr => iter (B_laws_toIntS_L0 N kx kr) N⟩] : List (LC (DenR (.t (.sl I)))))) (by kernel_rfl) mixed trivial (by kernel_rfl)
    ⟨LoopEq.mk N (fun Ω kx kr => B_laws_toIntS_L0 N kx kr) (fun Ω g kx kr s => by kernel_rfl), trivial⟩ (by kernel_rfl) (fun a => by kernel_rfl)

/-- loop.example/g00474/laws.toItem -/
def x_laws_toItem (N : Nat) (a0 : (Den tItem)) : Option (Den tItem) :=
  some a0
abbrev ct_laws_toItem (N : Nat) : CT := ⟨133, (.d tItem), (.t tItem), fun a => x_laws_toItem N a⟩
theorem c_laws_toItem (N : Nat) : CTok Try.prog (ct_laws_toItem N) :=
  CT_ok (Γ := []) (Θ := []) (Λ := ([] : List (LC (DenR (.t tItem))))) (by kernel_rfl) mixed trivial (by kernel_rfl)
    trivial (by kernel_rfl) (fun a => by kernel_rfl)

/-- a round -/
def B_laws_toItemS_L0 (N : Nat) {Ω : Type} (kx : DenS (.o 3 tItem) → Option Ω) (kr : (List (Den tItem)) → Option Ω) (rec_ : DenS (.pr (.d 0 (.sl tItem)) (.pr (.o 3 tItem) (.d 4 I))) → Option Ω) : DenS (.pr (.d 0 (.sl tItem)) (.pr (.o 3 tItem) (.d 4 I))) → Option Ω := fun (s0, s3, s4) =>
  (bif (decide (s4 < (s0.length : Int))) then (bif (decide (0 ≤ s4) && decide (s4 < s0.length)) then (x_laws_toItem N (s0.getD s4.toNat (dft tItem))).bind fun r1 => (bif (decide (0 ≤ s4) && decide (s4 < s3.length)) then rec_ (s0, (s3.set s4.toNat r1), (wrap64 (s4 + (1 : Int)))) else none) else none) else kx s3)
/-- loop.example/g00474/laws.toItemS -/
def x_laws_toItemS (N : Nat) (a0 : (List (Den tItem))) : Option (List (Den tItem)) :=
  (bif (decide ((a0.length : Int) = (a0.length : Int)) && (decide (0 ≤ (a0.length : Int)) && (decide ((a0.length : Int) * (24 : Nat) ≤ 140737488355328) && decide ((a0.length : Int) ≤ 9223372036854775807)))) then iter (B_laws_toItemS_L0 N (fun x2 => some x2) (fun ρ3 => some (ρ3))) N (a0, (List.replicate (a0.length : Int).toNat (dft tItem)), (0 : Int)) else none)
abbrev ct_laws_toItemS (N : Nat) : CT := ⟨58, (.d (.sl tItem)), (.t (.sl tItem)), fun a => x_laws_toItemS N a⟩
theorem c_laws_toItemS (N : Nat) : CTok Try.prog (ct_laws_toItemS N) :=
  CT_ok (Γ := [.c (ct_laws_toItem N)]) (Θ := [(7, tItem)]) (Λ := ([⟨0, 0, (.pr (.d 0 (.sl tItem)) (.pr (.o 3 tItem) (.d 4 I))), (.o 3 tItem), fun {Ω} kx kr => iter (B_laws_toItemS_L0 N kx kr) N⟩] : List (LC (DenR (.t (.sl tItem)))))) (by kernel_rfl) mixed ⟨c_laws_toItem N, trivial⟩ (by kernel_rfl)
    ⟨LoopEq.mk N (fun Ω kx kr => B_laws_toItemS_L0 N kx kr) (fun Ω g kx kr s => by kernel_rfl), trivial⟩ (by kernel_rfl) (fun a => by kernel_rfl)

/-- loop.example/g00474/laws.toShelf -/
def x_laws_toShelf (N : Nat) (a0 : (Den tShelf)) : Option (Den tShelf) :=
  (x_laws_toItemS N a0.2).bind fun r1 => some (a0.1, r1)
abbrev ct_laws_toShelf (N : Nat) : CT := ⟨187, (.d tShelf), (.t tShelf), fun a => x_laws_toShelf N a⟩
theorem c_laws_toShelf (N : Nat) : CTok Try.prog (ct_laws_toShelf N) :=
  CT_ok (Γ := [.c (ct_laws_toItemS N)]) (Θ := []) (Λ := ([] : List (LC (DenR (.t tShelf))))) (by kernel_rfl) mixed ⟨c_laws_toItemS N, trivial⟩ (by kernel_rfl)
    trivial (by kernel_rfl) (fun a => by kernel_rfl)

/-- a round -/
def B_laws_toShelfS_L0 (N : Nat) {Ω : Type} (kx : DenS (.o 3 tShelf) → Option Ω) (kr : (List (Den tShelf)) → Option Ω) (rec_ : DenS (.pr (.d 0 (.sl tShelf)) (.pr (.o 3 tShelf) (.d 4 I))) → Option Ω) : DenS (.pr (.d 0 (.sl tShelf)) (.pr (.o 3 tShelf) (.d 4 I))) → Option Ω := fun (s0, s3, s4) =>
  (bif (decide (s4 < (s0.length : Int))) then (bif (decide (0 ≤ s4) && decide (s4 < s0.length)) then (x_laws_toShelf N (s0.getD s4.toNat (dft tShelf))).bind fun r1 => (bif (decide (0 ≤ s4) && decide (s4 < s3.length)) then rec_ (s0, (s3.set s4.toNat r1), (wrap64 (s4 + (1 : Int)))) else none) else none) else kx s3)
/-- loop.example/g00474/laws.toShelfS -/
def x_laws_toShelfS (N : Nat) (a0 : (List (Den tShelf))) : Option (List (Den tShelf)) :=
  (bif (decide ((a0.length : Int) = (a0.length : Int)) && (decide (0 ≤ (a0.length : Int)) && (decide ((a0.length : Int) * (32 : Nat) ≤ 140737488355328) && decide ((a0.length : Int) ≤ 9223372036854775807)))) then iter (B_laws_toShelfS_L0 N (fun x2 => some x2) (fun ρ3 => some (ρ3))) N (a0, (List.replicate (a0.length : Int).toNat (dft tShelf)), (0 : Int)) else none)
abbrev ct_laws_toShelfS (N : Nat) : CT := ⟨132, (.d (.sl tShelf)), (.t (.sl tShelf)), fun a => x_laws_toShelfS N a⟩
theorem c_laws_toShelfS (N : Nat) : CTok Try.prog (ct_laws_toShelfS N) :=
  CT_ok (Γ := [.c (ct_laws_toShelf N)]) (Θ := [(7, tShelf)]) (Λ := ([⟨0, 0, (.pr (.d 0 (.sl tShelf)) (.pr (.o 3 tShelf) (.d 4 I))), (.o 3 tShelf), fun {Ω} kx kr => iter (B_laws_toShelfS_L0 N kx kr) N⟩] : List (LC (DenR (.t (.sl tShelf)))))) (by kernel_rfl) mixed ⟨c_laws_toShelf N, trivial⟩ (by kernel_rfl)
    ⟨LoopEq.mk N (fun Ω kx kr => B_laws_toShelfS_L0 N kx kr) (fun Ω g kx kr s => by kernel_rfl), trivial⟩ (by kernel_rfl) (fun a => by kernel_rfl)

/-- loop.example/g00474/laws.toPeer -/
def x_laws_toPeer (N : Nat) (a0 : (Den tPeer)) : Option (Den tPeer) :=
  (x_laws_toIntS N a0.2.2.2.1).bind fun r1 => (x_laws_toIntS N a0.2.2.2.2.1).bind fun r2 => (x_laws_toShelfS N a0.2.2.2.2.2).bind fun r3 => some (a0.1, a0.2.1, a0.2.2.1, r1, r2, r3)
abbrev ct_laws_toPeer (N : Nat) : CT := ⟨57, (.d tPeer), (.t tPeer), fun a => x_laws_toPeer N a⟩
theorem c_laws_toPeer (N : Nat) : CTok Try.prog (ct_laws_toPeer N) :=
  CT_ok (Γ := [.c (ct_laws_toIntS N), .c (ct_laws_toShelfS N)]) (Θ := []) (Λ := ([] : List (LC (DenR (.t tPeer))))) (by kernel_rfl) mixed ⟨c_laws_toIntS N, ⟨c_laws_toShelfS N, trivial⟩⟩ (by kernel_rfl)
    trivial (by kernel_rfl) (fun a => by kernel_rfl)

/-- a round -/
def B_laws_toPeerS_L0 (N : Nat) {Ω : Type} (kx : DenS (.o 3 tPeer) → Option Ω) (kr : (List (Den tPeer)) → Option Ω) (rec_ : DenS (.pr (.d 0 (.sl tPeer)) (.pr (.o 3 tPeer) (.d 4 I))) → Option Ω) : DenS (.pr (.d 0 (.sl tPeer)) (.pr (.o 3 tPeer) (.d 4 I))) → Option Ω := fun (s0, s3, s4) =>
  (bif (decide (s4 < (s0.length : Int))) then (bif (decide (0 ≤ s4) && decide (s4 < s0.length)) then (x_laws_toPeer N (s0.getD s4.toNat (dft tPeer))).bind fun r1 => (bif (decide (0 ≤ s4) && decide (s4 < s3.length)) then rec_ (s0, (s3.set s4.toNat r1), (wrap64 (s4 + (1 : Int)))) else none) else none) else kx s3)
/-- loop.example/g00474/laws.toPeerS -/
def x_laws_toPeerS (N : Nat) (a0 : (List (Den tPeer))) : Option (List (Den tPeer)) :=
  (bif (decide ((a0.length : Int) = (a0.length : Int)) && (decide (0 ≤ (a0.length : Int)) && (decide ((a0.length : Int) * (96 : Nat) ≤ 140737488355328) && decide ((a0.length : Int) ≤ 9223372036854775807)))) then iter (B_laws_toPeerS_L0 N (fun x2 => some x2) (fun ρ3 => some (ρ3))) N (a0, (List.replicate (a0.length : Int).toNat (dft tPeer)), (0 : Int)) else none)
abbrev ct_laws_toPeerS (N : Nat) : CT := ⟨78, (.d (.sl tPeer)), (.t (.sl tPeer)), fun a => x_laws_toPeerS N a⟩
theorem c_laws_toPeerS (N : Nat) : CTok Try.prog (ct_laws_toPeerS N) :=
  CT_ok (Γ := [.c (ct_laws_toPeer N)]) (Θ := [(7, tPeer)]) (Λ := ([⟨0, 0, (.pr (.d 0 (.sl tPeer)) (.pr (.o 3 tPeer) (.d 4 I))), (.o 3 tPeer), fun {Ω} kx kr => iter (B_laws_toPeerS_L0 N kx kr) N⟩] : List (LC (DenR (.t (.sl tPeer)))))) (by kernel_rfl) mixed ⟨c_laws_toPeer N, trivial⟩ (by kernel_rfl)
    ⟨LoopEq.mk N (fun Ω kx kr => B_laws_toPeerS_L0 N kx kr) (fun Ω g kx kr s => by kernel_rfl), trivial⟩ (by kernel_rfl) (fun a => by kernel_rfl)

/-- loop.example/g00474/laws.toRing -/
def x_laws_toRing (N : Nat) (a0 : (Den tRing)) : Option (Den tRing) :=
  (x_laws_toPeerS N a0).bind fun r1 => some r1
abbrev ct_laws_toRing (N : Nat) : CT := ⟨24, (.d tRing), (.t tRing), fun a => x_laws_toRing N a⟩
theorem c_laws_toRing (N : Nat) : CTok Try.prog (ct_laws_toRing N) :=
  CT_ok (Γ := [.c (ct_laws_toPeerS N)]) (Θ := []) (Λ := ([] : List (LC (DenR (.t tRing))))) (by kernel_rfl) mixed ⟨c_laws_toPeerS N, trivial⟩ (by kernel_rfl)
    trivial (by kernel_rfl) (fun a => by kernel_rfl)

/-- a round -/
def B_spec_l09CopyPeer_L0 (N : Nat) {Ω : Type} (kx : DenS (.pr (.bx 2 tPeer) (.bx 3 tPeer)) → Option Ω) (kr : (Den tPeer) → Option Ω) (rec_ : DenS (.pr (.ip 1 tPeer) (.pr (.bx 2 tPeer) (.pr (.bx 3 tPeer) (.d 4 I)))) → Option Ω) : DenS (.pr (.ip 1 tPeer) (.pr (.bx 2 tPeer) (.pr (.bx 3 tPeer) (.d 4 I)))) → Option Ω := fun (s1, s2, s3, s4) =>
  (bif (decide (s4 < (s1.2.2.2.2.2.length : Int))) then (bif (decide (0 ≤ s4) && decide (s4 < s1.2.2.2.2.2.length)) then agree (agree ((bif (decide (0 ≤ s4) && decide (s4 < s1.2.2.2.2.2.length)) then agree ((bif (decide ((([] : List (Den tItem)).length + ((s1.2.2.2.2.2.getD s4.toNat (dft tShelf)).2).length) * 24 ≤ 140737488355328)) then (bif (decide ((s3.2.2.2.2.2.length + ([((s1.2.2.2.2.2.getD s4.toNat (dft tShelf)).1, (([] : List (Den tItem)) ++ ((s1.2.2.2.2.2.getD s4.toNat (dft tShelf)).2)))]).length) * 32 ≤ 140737488355328)) then rec_ (s1, s2, (s3.1, s3.2.1, s3.2.2.1, s3.2.2.2.1, s3.2.2.2.2.1, (s3.2.2.2.2.2 ++ ([((s1.2.2.2.2.2.getD s4.toNat (dft tShelf)).1, (([] : List (Den tItem)) ++ ((s1.2.2.2.2.2.getD s4.toNat (dft tShelf)).2)))]))), (wrap64 (s4 + (1 : Int)))) else none) else none)) (agree ((bif (decide ((([] : List (Den tItem)).length + ((s1.2.2.2.2.2.getD s4.toNat (dft tShelf)).2).length) * 24 ≤ 140737488355328)) then (bif (decide ((s3.2.2.2.2.2.length + ([((s1.2.2.2.2.2.getD s4.toNat (dft tShelf)).1, (([] : List (Den tItem)) ++ ((s1.2.2.2.2.2.getD s4.toNat (dft tShelf)).2)))]).length) * 32 ≤ 140737488355328)) then rec_ (s1, s2, (s3.1, s3.2.1, s3.2.2.1, s3.2.2.2.1, s3.2.2.2.2.1, (s3.2.2.2.2.2 ++ ([((s1.2.2.2.2.2.getD s4.toNat (dft tShelf)).1, (([] : List (Den tItem)) ++ ((s1.2.2.2.2.2.getD s4.toNat (dft tShelf)).2)))]))), (wrap64 (s4 + (1 : Int)))) else none) else none)) ((bif (decide ((([] : List (Den tItem)).length + ((s1.2.2.2.2.2.getD s4.toNat (dft tShelf)).2).length) * 24 ≤ 140737488355328)) then (bif (decide ((s3.2.2.2.2.2.length + ([((s1.2.2.2.2.2.getD s4.toNat (dft tShelf)).1, (([] : List (Den tItem)) ++ ((s1.2.2.2.2.2.getD s4.toNat (dft tShelf)).2)))]).length) * 32 ≤ 140737488355328)) then rec_ (s1, s2, (s3.1, s3.2.1, s3.2.2.1, s3.2.2.2.1, s3.2.2.2.2.1, (s3.2.2.2.2.2 ++ ([((s1.2.2.2.2.2.getD s4.toNat (dft tShelf)).1, (([] : List (Den tItem)) ++ ((s1.2.2.2.2.2.getD s4.toNat (dft tShelf)).2)))]))), (wrap64 (s4 + (1 : Int)))) else none) else none))) else none)) (agree ((bif (decide (0 ≤ s4) && decide (s4 < s1.2.2.2.2.2.length)) then agree ((bif (decide ((([] : List (Den tItem)).length + ((s1.2.2.2.2.2.getD s4.toNat (dft tShelf)).2).length) * 24 ≤ 140737488355328)) then (bif (decide ((s3.2.2.2.2.2.length + ([((s1.2.2.2.2.2.getD s4.toNat (dft tShelf)).1, (([] : List (Den tItem)) ++ ((s1.2.2.2.2.2.getD s4.toNat (dft tShelf)).2)))]).length) * 32 ≤ 140737488355328)) then rec_ (s1, s2, (s3.1, s3.2.1, s3.2.2.1, s3.2.2.2.1, s3.2.2.2.2.1, (s3.2.2.2.2.2 ++ ([((s1.2.2.2.2.2.getD s4.toNat (dft tShelf)).1, (([] : List (Den tItem)) ++ ((s1.2.2.2.2.2.getD s4.toNat (dft tShelf)).2)))]))), (wrap64 (s4 + (1 : Int)))) else none) else none)) ((bif (decide ((([] : List (Den tItem)).length + ((s1.2.2.2.2.2.getD s4.toNat (dft tShelf)).2).length) * 24 ≤ 140737488355328)) then (bif (decide ((s3.2.2.2.2.2.length + ([((s1.2.2.2.2.2.getD s4.toNat (dft tShelf)).1, (([] : List (Den tItem)) ++ ((s1.2.2.2.2.2.getD s4.toNat (dft tShelf)).2)))]).length) * 32 ≤ 140737488355328)) then rec_ (s1, s2, (s3.1, s3.2.1, s3.2.2.1, s3.2.2.2.1, s3.2.2.2.2.1, (s3.2.2.2.2.2 ++ ([((s1.2.2.2.2.2.getD s4.toNat (dft tShelf)).1, (([] : List (Den tItem)) ++ ((s1.2.2.2.2.2.getD s4.toNat (dft tShelf)).2)))]))), (wrap64 (s4 + (1 : Int)))) else none) else none)) else none)) ((bif (decide ((([] : List (Den tItem)).length + ((s1.2.2.2.2.2.getD s4.toNat (dft tShelf)).2).length) * 24 ≤ 140737488355328)) then (bif (decide (0 ≤ s4) && decide (s4 < s1.2.2.2.2.2.length)) then (bif (decide ((s3.2.2.2.2.2.length + ([((s1.2.2.2.2.2.getD s4.toNat (dft tShelf)).1, (([] : List (Den tItem)) ++ ((s1.2.2.2.2.2.getD s4.toNat (dft tShelf)).2)))]).length) * 32 ≤ 140737488355328)) then rec_ (s1, s2, (s3.1, s3.2.1, s3.2.2.1, s3.2.2.2.1, s3.2.2.2.2.1, (s3.2.2.2.2.2 ++ ([((s1.2.2.2.2.2.getD s4.toNat (dft tShelf)).1, (([] : List (Den tItem)) ++ ((s1.2.2.2.2.2.getD s4.toNat (dft tShelf)).2)))]))), (wrap64 (s4 + (1 : Int)))) else none) else none) else none)))) (agree ((bif (decide (0 ≤ s4) && decide (s4 < s1.2.2.2.2.2.length)) then agree (agree ((bif (decide ((([] : List (Den tItem)).length + ((s1.2.2.2.2.2.getD s4.toNat (dft tShelf)).2).length) * 24 ≤ 140737488355328)) then (bif (decide ((s3.2.2.2.2.2.length + ([((s1.2.2.2.2.2.getD s4.toNat (dft tShelf)).1, (([] : List (Den tItem)) ++ ((s1.2.2.2.2.2.getD s4.toNat (dft tShelf)).2)))]).length) * 32 ≤ 140737488355328)) then rec_ (s1, s2, (s3.1, s3.2.1, s3.2.2.1, s3.2.2.2.1, s3.2.2.2.2.1, (s3.2.2.2.2.2 ++ ([((s1.2.2.2.2.2.getD s4.toNat (dft tShelf)).1, (([] : List (Den tItem)) ++ ((s1.2.2.2.2.2.getD s4.toNat (dft tShelf)).2)))]))), (wrap64 (s4 + (1 : Int)))) else none) else none)) (agree ((bif (decide ((([] : List (Den tItem)).length + ((s1.2.2.2.2.2.getD s4.toNat (dft tShelf)).2).length) * 24 ≤ 140737488355328)) then (bif (decide ((s3.2.2.2.2.2.length + ([((s1.2.2.2.2.2.getD s4.toNat (dft tShelf)).1, (([] : List (Den tItem)) ++ ((s1.2.2.2.2.2.getD s4.toNat (dft tShelf)).2)))]).length) * 32 ≤ 140737488355328)) then rec_ (s1, s2, (s3.1, s3.2.1, s3.2.2.1, s3.2.2.2.1, s3.2.2.2.2.1, (s3.2.2.2.2.2 ++ ([((s1.2.2.2.2.2.getD s4.toNat (dft tShelf)).1, (([] : List (Den tItem)) ++ ((s1.2.2.2.2.2.getD s4.toNat (dft tShelf)).2)))]))), (wrap64 (s4 + (1 : Int)))) else none) else none)) ((bif (decide ((([] : List (Den tItem)).length + ((s1.2.2.2.2.2.getD s4.toNat (dft tShelf)).2).length) * 24 ≤ 140737488355328)) then (bif (decide ((s3.2.2.2.2.2.length + ([((s1.2.2.2.2.2.getD s4.toNat (dft tShelf)).1, (([] : List (Den tItem)) ++ ((s1.2.2.2.2.2.getD s4.toNat (dft tShelf)).2)))]).length) * 32 ≤ 140737488355328)) then rec_ (s1, s2, (s3.1, s3.2.1, s3.2.2.1, s3.2.2.2.1, s3.2.2.2.2.1, (s3.2.2.2.2.2 ++ ([((s1.2.2.2.2.2.getD s4.toNat (dft tShelf)).1, (([] : List (Den tItem)) ++ ((s1.2.2.2.2.2.getD s4.toNat (dft tShelf)).2)))]))), (wrap64 (s4 + (1 : Int)))) else none) else none)))) (agree (agree ((bif (decide ((([] : List (Den tItem)).length + ((s1.2.2.2.2.2.getD s4.toNat (dft tShelf)).2).length) * 24 ≤ 140737488355328)) then (bif (decide ((s3.2.2.2.2.2.length + ([((s1.2.2.2.2.2.getD s4.toNat (dft tShelf)).1, (([] : List (Den tItem)) ++ ((s1.2.2.2.2.2.getD s4.toNat (dft tShelf)).2)))]).length) * 32 ≤ 140737488355328)) then rec_ (s1, s2, (s3.1, s3.2.1, s3.2.2.1, s3.2.2.2.1, s3.2.2.2.2.1, (s3.2.2.2.2.2 ++ ([((s1.2.2.2.2.2.getD s4.toNat (dft tShelf)).1, (([] : List (Den tItem)) ++ ((s1.2.2.2.2.2.getD s4.toNat (dft tShelf)).2)))]))), (wrap64 (s4 + (1 : Int)))) else none) else none)) (agree ((bif (decide ((([] : List (Den tItem)).length + ((s1.2.2.2.2.2.getD s4.toNat (dft tShelf)).2).length) * 24 ≤ 140737488355328)) then (bif (decide ((s3.2.2.2.2.2.length + ([((s1.2.2.2.2.2.getD s4.toNat (dft tShelf)).1, (([] : List (Den tItem)) ++ ((s1.2.2.2.2.2.getD s4.toNat (dft tShelf)).2)))]).length) * 32 ≤ 140737488355328)) then rec_ (s1, s2, (s3.1, s3.2.1, s3.2.2.1, s3.2.2.2.1, s3.2.2.2.2.1, (s3.2.2.2.2.2 ++ ([((s1.2.2.2.2.2.getD s4.toNat (dft tShelf)).1, (([] : List (Den tItem)) ++ ((s1.2.2.2.2.2.getD s4.toNat (dft tShelf)).2)))]))), (wrap64 (s4 + (1 : Int)))) else none) else none)) ((bif (decide ((([] : List (Den tItem)).length + ((s1.2.2.2.2.2.getD s4.toNat (dft tShelf)).2).length) * 24 ≤ 140737488355328)) then (bif (decide ((s3.2.2.2.2.2.length + ([((s1.2.2.2.2.2.getD s4.toNat (dft tShelf)).1, (([] : List (Den tItem)) ++ ((s1.2.2.2.2.2.getD s4.toNat (dft tShelf)).2)))]).length) * 32 ≤ 140737488355328)) then rec_ (s1, s2, (s3.1, s3.2.1, s3.2.2.1, s3.2.2.2.1, s3.2.2.2.2.1, (s3.2.2.2.2.2 ++ ([((s1.2.2.2.2.2.getD s4.toNat (dft tShelf)).1, (([] : List (Den tItem)) ++ ((s1.2.2.2.2.2.getD s4.toNat (dft tShelf)).2)))]))), (wrap64 (s4 + (1 : Int)))) else none) else none)))) (agree (agree ((bif (decide ((([] : List (Den tItem)).length + ((s1.2.2.2.2.2.getD s4.toNat (dft tShelf)).2).length) * 24 ≤ 140737488355328)) then (bif (decide ((s3.2.2.2.2.2.length + ([((s1.2.2.2.2.2.getD s4.toNat (dft tShelf)).1, (([] : List (Den tItem)) ++ ((s1.2.2.2.2.2.getD s4.toNat (dft tShelf)).2)))]).length) * 32 ≤ 140737488355328)) then rec_ (s1, s2, (s3.1, s3.2.1, s3.2.2.1, s3.2.2.2.1, s3.2.2.2.2.1, (s3.2.2.2.2.2 ++ ([((s1.2.2.2.2.2.getD s4.toNat (dft tShelf)).1, (([] : List (Den tItem)) ++ ((s1.2.2.2.2.2.getD s4.toNat (dft tShelf)).2)))]))), (wrap64 (s4 + (1 : Int)))) else none) else none)) ((bif (decide ((([] : List (Den tItem)).length + ((s1.2.2.2.2.2.getD s4.toNat (dft tShelf)).2).length) * 24 ≤ 140737488355328)) then (bif (decide ((s3.2.2.2.2.2.length + ([((s1.2.2.2.2.2.getD s4.toNat (dft tShelf)).1, (([] : List (Den tItem)) ++ ((s1.2.2.2.2.2.getD s4.toNat (dft tShelf)).2)))]).length) * 32 ≤ 140737488355328)) then rec_ (s1, s2, (s3.1, s3.2.1, s3.2.2.1, s3.2.2.2.1, s3.2.2.2.2.1, (s3.2.2.2.2.2 ++ ([((s1.2.2.2.2.2.getD s4.toNat (dft tShelf)).1, (([] : List (Den tItem)) ++ ((s1.2.2.2.2.2.getD s4.toNat (dft tShelf)).2)))]))), (wrap64 (s4 + (1 : Int)))) else none) else none))) (agree (agree ((bif (decide ((([] : List (Den tItem)).length + ((s1.2.2.2.2.2.getD s4.toNat (dft tShelf)).2).length) * 24 ≤ 140737488355328)) then (bif (decide ((s3.2.2.2.2.2.length + ([((s1.2.2.2.2.2.getD s4.toNat (dft tShelf)).1, (([] : List (Den tItem)) ++ ((s1.2.2.2.2.2.getD s4.toNat (dft tShelf)).2)))]).length) * 32 ≤ 140737488355328)) then rec_ (s1, s2, (s3.1, s3.2.1, s3.2.2.1, s3.2.2.2.1, s3.2.2.2.2.1, (s3.2.2.2.2.2 ++ ([((s1.2.2.2.2.2.getD s4.toNat (dft tShelf)).1, (([] : List (Den tItem)) ++ ((s1.2.2.2.2.2.getD s4.toNat (dft tShelf)).2)))]))), (wrap64 (s4 + (1 : Int)))) else none) else none)) ((bif (decide ((([] : List (Den tItem)).length + ((s1.2.2.2.2.2.getD s4.toNat (dft tShelf)).2).length) * 24 ≤ 140737488355328)) then (bif (decide ((s3.2.2.2.2.2.length + ([((s1.2.2.2.2.2.getD s4.toNat (dft tShelf)).1, (([] : List (Den tItem)) ++ ((s1.2.2.2.2.2.getD s4.toNat (dft tShelf)).2)))]).length) * 32 ≤ 140737488355328)) then rec_ (s1, s2, (s3.1, s3.2.1, s3.2.2.1, s3.2.2.2.1, s3.2.2.2.2.1, (s3.2.2.2.2.2 ++ ([((s1.2.2.2.2.2.getD s4.toNat (dft tShelf)).1, (([] : List (Den tItem)) ++ ((s1.2.2.2.2.2.getD s4.toNat (dft tShelf)).2)))]))), (wrap64 (s4 + (1 : Int)))) else none) else none))) ((bif (decide ((([] : List (Den tItem)).length + ((s1.2.2.2.2.2.getD s4.toNat (dft tShelf)).2).length) * 24 ≤ 140737488355328)) then (bif (decide ((s3.2.2.2.2.2.length + ([((s1.2.2.2.2.2.getD s4.toNat (dft tShelf)).1, (([] : List (Den tItem)) ++ ((s1.2.2.2.2.2.getD s4.toNat (dft tShelf)).2)))]).length) * 32 ≤ 140737488355328)) then rec_ (s1, s2, (s3.1, s3.2.1, s3.2.2.1, s3.2.2.2.1, s3.2.2.2.2.1, (s3.2.2.2.2.2 ++ ([((s1.2.2.2.2.2.getD s4.toNat (dft tShelf)).1, (([] : List (Den tItem)) ++ ((s1.2.2.2.2.2.getD s4.toNat (dft tShelf)).2)))]))), (wrap64 (s4 + (1 : Int)))) else none) else none))))) else none)) (agree (agree ((bif (decide (0 ≤ s4) && decide (s4 < s1.2.2.2.2.2.length)) then agree ((bif (decide ((([] : List (Den tItem)).length + ((s1.2.2.2.2.2.getD s4.toNat (dft tShelf)).2).length) * 24 ≤ 140737488355328)) then (bif (decide ((s3.2.2.2.2.2.length + ([((s1.2.2.2.2.2.getD s4.toNat (dft tShelf)).1, (([] : List (Den tItem)) ++ ((s1.2.2.2.2.2.getD s4.toNat (dft tShelf)).2)))]).length) * 32 ≤ 140737488355328)) then rec_ (s1, s2, (s3.1, s3.2.1, s3.2.2.1, s3.2.2.2.1, s3.2.2.2.2.1, (s3.2.2.2.2.2 ++ ([((s1.2.2.2.2.2.getD s4.toNat (dft tShelf)).1, (([] : List (Den tItem)) ++ ((s1.2.2.2.2.2.getD s4.toNat (dft tShelf)).2)))]))), (wrap64 (s4 + (1 : Int)))) else none) else none)) ((bif (decide ((([] : List (Den tItem)).length + ((s1.2.2.2.2.2.getD s4.toNat (dft tShelf)).2).length) * 24 ≤ 140737488355328)) then (bif (decide ((s3.2.2.2.2.2.length + ([((s1.2.2.2.2.2.getD s4.toNat (dft tShelf)).1, (([] : List (Den tItem)) ++ ((s1.2.2.2.2.2.getD s4.toNat (dft tShelf)).2)))]).length) * 32 ≤ 140737488355328)) then rec_ (s1, s2, (s3.1, s3.2.1, s3.2.2.1, s3.2.2.2.1, s3.2.2.2.2.1, (s3.2.2.2.2.2 ++ ([((s1.2.2.2.2.2.getD s4.toNat (dft tShelf)).1, (([] : List (Den tItem)) ++ ((s1.2.2.2.2.2.getD s4.toNat (dft tShelf)).2)))]))), (wrap64 (s4 + (1 : Int)))) else none) else none)) else none)) ((bif (decide ((([] : List (Den tItem)).length + ((s1.2.2.2.2.2.getD s4.toNat (dft tShelf)).2).length) * 24 ≤ 140737488355328)) then (bif (decide (0 ≤ s4) && decide (s4 < s1.2.2.2.2.2.length)) then (bif (decide ((s3.2.2.2.2.2.length + ([((s1.2.2.2.2.2.getD s4.toNat (dft tShelf)).1, (([] : List (Den tItem)) ++ ((s1.2.2.2.2.2.getD s4.toNat (dft tShelf)).2)))]).length) * 32 ≤ 140737488355328)) then rec_ (s1, s2, (s3.1, s3.2.1, s3.2.2.1, s3.2.2.2.1, s3.2.2.2.2.1, (s3.2.2.2.2.2 ++ ([((s1.2.2.2.2.2.getD s4.toNat (dft tShelf)).1, (([] : List (Den tItem)) ++ ((s1.2.2.2.2.2.getD s4.toNat (dft tShelf)).2)))]))), (wrap64 (s4 + (1 : Int)))) else none) else none) else none))) (agree ((bif (decide (0 ≤ s4) && decide (s4 < s1.2.2.2.2.2.length)) then agree (agree ((bif (decide ((([] : List (Den tItem)).length + ((s1.2.2.2.2.2.getD s4.toNat (dft tShelf)).2).length) * 24 ≤ 140737488355328)) then (bif (decide ((s3.2.2.2.2.2.length + ([((s1.2.2.2.2.2.getD s4.toNat (dft tShelf)).1, (([] : List (Den tItem)) ++ ((s1.2.2.2.2.2.getD s4.toNat (dft tShelf)).2)))]).length) * 32 ≤ 140737488355328)) then rec_ (s1, s2, (s3.1, s3.2.1, s3.2.2.1, s3.2.2.2.1, s3.2.2.2.2.1, (s3.2.2.2.2.2 ++ ([((s1.2.2.2.2.2.getD s4.toNat (dft tShelf)).1, (([] : List (Den tItem)) ++ ((s1.2.2.2.2.2.getD s4.toNat (dft tShelf)).2)))]))), (wrap64 (s4 + (1 : Int)))) else none) else none)) ((bif (decide ((([] : List (Den tItem)).length + ((s1.2.2.2.2.2.getD s4.toNat (dft tShelf)).2).length) * 24 ≤ 140737488355328)) then (bif (decide ((s3.2.2.2.2.2.length + ([((s1.2.2.2.2.2.getD s4.toNat (dft tShelf)).1, (([] : List (Den tItem)) ++ ((s1.2.2.2.2.2.getD s4.toNat (dft tShelf)).2)))]).length) * 32 ≤ 140737488355328)) then rec_ (s1, s2, (s3.1, s3.2.1, s3.2.2.1, s3.2.2.2.1, s3.2.2.2.2.1, (s3.2.2.2.2.2 ++ ([((s1.2.2.2.2.2.getD s4.toNat (dft tShelf)).1, (([] : List (Den tItem)) ++ ((s1.2.2.2.2.2.getD s4.toNat (dft tShelf)).2)))]))), (wrap64 (s4 + (1 : Int)))) else none) else none))) (agree (agree ((bif (decide ((([] : List (Den tItem)).length + ((s1.2.2.2.2.2.getD s4.toNat (dft tShelf)).2).length) * 24 ≤ 140737488355328)) then (bif (decide ((s3.2.2.2.2.2.length + ([((s1.2.2.2.2.2.getD s4.toNat (dft tShelf)).1, (([] : List (Den tItem)) ++ ((s1.2.2.2.2.2.getD s4.toNat (dft tShelf)).2)))]).length) * 32 ≤ 140737488355328)) then rec_ (s1, s2, (s3.1, s3.2.1, s3.2.2.1, s3.2.2.2.1, s3.2.2.2.2.1, (s3.2.2.2.2.2 ++ ([((s1.2.2.2.2.2.getD s4.toNat (dft tShelf)).1, (([] : List (Den tItem)) ++ ((s1.2.2.2.2.2.getD s4.toNat (dft tShelf)).2)))]))), (wrap64 (s4 + (1 : Int)))) else none) else none)) ((bif (decide ((([] : List (Den tItem)).length + ((s1.2.2.2.2.2.getD s4.toNat (dft tShelf)).2).length) * 24 ≤ 140737488355328)) then (bif (decide ((s3.2.2.2.2.2.length + ([((s1.2.2.2.2.2.getD s4.toNat (dft tShelf)).1, (([] : List (Den tItem)) ++ ((s1.2.2.2.2.2.getD s4.toNat (dft tShelf)).2)))]).length) * 32 ≤ 140737488355328)) then rec_ (s1, s2, (s3.1, s3.2.1, s3.2.2.1, s3.2.2.2.1, s3.2.2.2.2.1, (s3.2.2.2.2.2 ++ ([((s1.2.2.2.2.2.getD s4.toNat (dft tShelf)).1, (([] : List (Den tItem)) ++ ((s1.2.2.2.2.2.getD s4.toNat (dft tShelf)).2)))]))), (wrap64 (s4 + (1 : Int)))) else none) else none))) ((bif (decide ((([] : List (Den tItem)).length + ((s1.2.2.2.2.2.getD s4.toNat (dft tShelf)).2).length) * 24 ≤ 140737488355328)) then (bif (decide ((s3.2.2.2.2.2.length + ([((s1.2.2.2.2.2.getD s4.toNat (dft tShelf)).1, (([] : List (Den tItem)) ++ ((s1.2.2.2.2.2.getD s4.toNat (dft tShelf)).2)))]).length) * 32 ≤ 140737488355328)) then rec_ (s1, s2, (s3.1, s3.2.1, s3.2.2.1, s3.2.2.2.1, s3.2.2.2.2.1, (s3.2.2.2.2.2 ++ ([((s1.2.2.2.2.2.getD s4.toNat (dft tShelf)).1, (([] : List (Den tItem)) ++ ((s1.2.2.2.2.2.getD s4.toNat (dft tShelf)).2)))]))), (wrap64 (s4 + (1 : Int)))) else none) else none))) else none)) ((bif (decide ((([] : List (Den tItem)).length + ((s1.2.2.2.2.2.getD s4.toNat (dft tShelf)).2).length) * 24 ≤ 140737488355328)) then (bif (decide (0 ≤ s4) && decide (s4 < s1.2.2.2.2.2.length)) then (bif (decide ((s3.2.2.2.2.2.length + ([((s1.2.2.2.2.2.getD s4.toNat (dft tShelf)).1, (([] : List (Den tItem)) ++ ((s1.2.2.2.2.2.getD s4.toNat (dft tShelf)).2)))]).length) * 32 ≤ 140737488355328)) then rec_ (s1, s2, (s3.1, s3.2.1, s3.2.2.1, s3.2.2.2.1, s3.2.2.2.2.1, (s3.2.2.2.2.2 ++ ([((s1.2.2.2.2.2.getD s4.toNat (dft tShelf)).1, (([] : List (Den tItem)) ++ ((s1.2.2.2.2.2.getD s4.toNat (dft tShelf)).2)))]))), (wrap64 (s4 + (1 : Int)))) else none) else none) else none))))) else none) else kx (s2, s3))
/-- loop.example/g00474/spec.l09CopyPeer -/
def x_spec_l09CopyPeer (N : Nat) (a0 : (Den tPeer)) : Option (Den tPeer) :=
  (bif (decide ((([] : List Int).length + a0.2.2.2.1.length) * 8 ≤ 140737488355328)) then (bif (decide ((([] : List Int).length + a0.2.2.2.2.1.length) * 8 ≤ 140737488355328)) then iter (B_spec_l09CopyPeer_L0 N (fun (x1, x2) => some x2) (fun ρ3 => some (ρ3))) N (a0, ((0 : Int), false, (0 : Int), [], [], []), (a0.1, a0.2.1, a0.2.2.1, (([] : List Int) ++ a0.2.2.2.1), (([] : List Int) ++ a0.2.2.2.2.1), []), (0 : Int)) else none) else none)
abbrev ct_spec_l09CopyPeer (N : Nat) : CT := ⟨128, (.d tPeer), (.t tPeer), fun a => x_spec_l09CopyPeer N a⟩
theorem c_spec_l09CopyPeer (N : Nat) : CTok Try.prog (ct_spec_l09CopyPeer N) :=
  CT_ok (Γ := []) (Θ := [(6, I), (11, I), (16, tShelf), (33, tItem), (42, tShelf)]) (Λ := ([⟨0, 0, (.pr (.ip 1 tPeer) (.pr (.bx 2 tPeer) (.pr (.bx 3 tPeer) (.d 4 I)))), (.pr (.bx 2 tPeer) (.bx 3 tPeer)), fun {Ω} kx kr => iter (B_spec_l09CopyPeer_L0 N kx kr) N⟩] : List (LC (DenR (.t tPeer))))) (by kernel_rfl) mixed trivial (by kernel_rfl)
    ⟨LoopEq.mk N (fun Ω kx kr => B_spec_l09CopyPeer_L0 N kx kr) (fun Ω g kx kr s => by kernel_rfl), trivial⟩ (by kernel_rfl) (fun a => by kernel_rfl)

/-- a round -/
def B_spec_l09Copy_L0 (N : Nat) {Ω : Type} (kx : DenS (.pr (.bx 2 tRing) (.bx 3 tRing)) → Option Ω) (kr : (Den tRing) → Option Ω) (rec_ : DenS (.pr (.ip 1 tRing) (.pr (.bx 2 tRing) (.pr (.bx 3 tRing) (.d 4 I)))) → Option Ω) : DenS (.pr (.ip 1 tRing) (.pr (.bx 2 tRing) (.pr (.bx 3 tRing) (.d 4 I)))) → Option Ω := fun (s1, s2, s3, s4) =>
  (bif (decide (s4 < (s1.length : Int))) then (bif (decide (0 ≤ s4) && decide (s4 < s1.length)) then (x_spec_l09CopyPeer N (s1.getD s4.toNat (dft tPeer))).bind fun r1 => (bif (decide ((s3.length + [r1].length) * 96 ≤ 140737488355328)) then rec_ (s1, s2, (s3 ++ [r1]), (wrap64 (s4 + (1 : Int)))) else none) else none) else kx (s2, s3))
/-- loop.example/g00474/spec.l09Copy -/
def x_spec_l09Copy (N : Nat) (a0 : (Den tRing)) : Option (Den tRing) :=
  iter (B_spec_l09Copy_L0 N (fun (x2, x3) => some x3) (fun ρ4 => some (ρ4))) N (a0, [], [], (0 : Int))
abbrev ct_spec_l09Copy (N : Nat) : CT := ⟨108, (.d tRing), (.t tRing), fun a => x_spec_l09Copy N a⟩
theorem c_spec_l09Copy (N : Nat) : CTok Try.prog (ct_spec_l09Copy N) :=
  CT_ok (Γ := [.c (ct_spec_l09CopyPeer N)]) (Θ := [(21, tPeer)]) (Λ := ([⟨0, 0, (.pr (.ip 1 tRing) (.pr (.bx 2 tRing) (.pr (.bx 3 tRing) (.d 4 I)))), (.pr (.bx 2 tRing) (.bx 3 tRing)), fun {Ω} kx kr => iter (B_spec_l09Copy_L0 N kx kr) N⟩] : List (LC (DenR (.t tRing))))) (by kernel_rfl) mixed ⟨c_spec_l09CopyPeer N, trivial⟩ (by kernel_rfl)
    ⟨LoopEq.mk N (fun Ω kx kr => B_spec_l09Copy_L0 N kx kr) (fun Ω g kx kr s => by kernel_rfl), trivial⟩ (by kernel_rfl) (fun a => by kernel_rfl)

/-- a round -/
def B_spec_PeerAt_L0 (N : Nat) {Ω : Type} (kx : DenS .un → Option Ω) (kr : Int → Option Ω) (rec_ : DenS (.pr (.d 1 I) (.pr (.ip 2 tRing) (.d 5 I))) → Option Ω) : DenS (.pr (.d 1 I) (.pr (.ip 2 tRing) (.d 5 I))) → Option Ω := fun (s1, s2, s5) =>
  (bif (decide (s5 < (s2.length : Int))) then (bif (decide (0 ≤ s5) && decide (s5 < s2.length)) then (bif ((s2.getD s5.toNat (dft tPeer)).2).1 then (bif (decide (0 ≤ s5) && decide (s5 < s2.length)) then (bif (decide (((s2.getD s5.toNat (dft tPeer)).1) = s1)) then kr s5 else rec_ (s1, s2, (wrap64 (s5 + (1 : Int))))) else none) else rec_ (s1, s2, (wrap64 (s5 + (1 : Int))))) else none) else kx ())
/-- loop.example/g00474/spec.PeerAt -/
def x_spec_PeerAt (N : Nat) (a0 : (Den tRing)) (a1 : Int) : Option Int :=
  iter (B_spec_PeerAt_L0 N (fun _ => some (-1 : Int)) (fun ρ1 => some (ρ1))) N (a1, a0, (0 : Int))
abbrev ct_spec_PeerAt (N : Nat) : CT := ⟨76, (.pr (.d tRing) (.d I)), (.t I), fun a => x_spec_PeerAt N a.1 a.2⟩
theorem c_spec_PeerAt (N : Nat) : CTok Try.prog (ct_spec_PeerAt N) :=
  CT_ok (Γ := []) (Θ := []) (Λ := ([⟨0, 0, (.pr (.d 1 I) (.pr (.ip 2 tRing) (.d 5 I))), .un, fun {Ω} kx kr => iter (B_spec_PeerAt_L0 N kx kr) N⟩] : List (LC (DenR (.t I))))) (by kernel_rfl) mixed trivial (by kernel_rfl)
    ⟨LoopEq.mk N (fun Ω kx kr => B_spec_PeerAt_L0 N kx kr) (fun Ω g kx kr s => by kernel_rfl), trivial⟩ (by kernel_rfl) (fun a => by kernel_rfl)

/-- a round -/
def B_spec_NextOf_L0 (N : Nat) {Ω : Type} (kx : DenS .un → Option Ω) (kr : Int → Option Ω) (rec_ : DenS (.pr (.ip 2 tRing) (.pr (.d 5 I) (.d 6 I))) → Option Ω) : DenS (.pr (.ip 2 tRing) (.pr (.d 5 I) (.d 6 I))) → Option Ω := fun (s2, s5, s6) =>
  (bif (decide ((0 : Int) ≤ s5)) then (bif (decide (0 ≤ s5) && decide (s5 < s2.length)) then (bif (decide (s6 < ((((((s2.getD s5.toNat (dft tPeer)).2).2).2).1).length : Int))) then (bif (decide (0 ≤ s5) && decide (s5 < s2.length)) then (bif (decide (0 ≤ s6) && decide (s6 < (((((s2.getD s5.toNat (dft tPeer)).2).2).2).1).length)) then (x_spec_PeerAt N s2 ((((((s2.getD s5.toNat (dft tPeer)).2).2).2).1).getD s6.toNat (0 : Int))).bind fun r2 => (bif (decide ((0 : Int) ≤ r2)) then (bif (decide (0 ≤ s5) && decide (s5 < s2.length)) then (bif (decide (0 ≤ s6) && decide (s6 < (((((s2.getD s5.toNat (dft tPeer)).2).2).2).1).length)) then kr ((((((s2.getD s5.toNat (dft tPeer)).2).2).2).1).getD s6.toNat (0 : Int)) else none) else none) else rec_ (s2, s5, (wrap64 (s6 + (1 : Int))))) else none) else none) else kx ()) else none) else kx ())
/-- loop.example/g00474/spec.NextOf -/
def x_spec_NextOf (N : Nat) (a0 : (Den tRing)) (a1 : Int) : Option Int :=
  (x_spec_PeerAt N a0 a1).bind fun r1 => iter (B_spec_NextOf_L0 N (fun _ => some (-1 : Int)) (fun ρ3 => some (ρ3))) N (a0, r1, (0 : Int))
abbrev ct_spec_NextOf (N : Nat) : CT := ⟨109, (.pr (.d tRing) (.d I)), (.t I), fun a => x_spec_NextOf N a.1 a.2⟩
theorem c_spec_NextOf (N : Nat) : CTok Try.prog (ct_spec_NextOf N) :=
  CT_ok (Γ := [.c (ct_spec_PeerAt N)]) (Θ := []) (Λ := ([⟨0, 0, (.pr (.ip 2 tRing) (.pr (.d 5 I) (.d 6 I))), .un, fun {Ω} kx kr => iter (B_spec_NextOf_L0 N kx kr) N⟩] : List (LC (DenR (.t I))))) (by kernel_rfl) mixed ⟨c_spec_PeerAt N, trivial⟩ (by kernel_rfl)
    ⟨LoopEq.mk N (fun Ω kx kr => B_spec_NextOf_L0 N kx kr) (fun Ω g kx kr s => by kernel_rfl), trivial⟩ (by kernel_rfl) (fun a => by kernel_rfl)

/-- loop.example/g00474/spec.l08Mod -/
def x_spec_l08Mod (N : Nat) (a0 : Int) : Option Int :=
  (bif (decide ((a0.tmod (256 : Int)) < (0 : Int))) then some (wrap64 ((a0.tmod (256 : Int)) + (256 : Int))) else some (a0.tmod (256 : Int)))
abbrev ct_spec_l08Mod (N : Nat) : CT := ⟨173, (.d I), (.t I), fun a => x_spec_l08Mod N a⟩
theorem c_spec_l08Mod (N : Nat) : CTok Try.prog (ct_spec_l08Mod N) :=
  CT_ok (Γ := []) (Θ := []) (Λ := ([] : List (LC (DenR (.t I))))) (by kernel_rfl) mixed trivial (by kernel_rfl)
    trivial (by kernel_rfl) (fun a => by kernel_rfl)

/-- loop.example/g00474/spec.Ahead -/
def x_spec_Ahead (N : Nat) (a0 : Int) (a1 : Int) : Option Int :=
  (x_spec_l08Mod N a1).bind fun r1 => (x_spec_l08Mod N a0).bind fun r2 => (x_spec_l08Mod N (wrap64 (r1 - r2))).bind fun r3 => some r3
abbrev ct_spec_Ahead (N : Nat) : CT := ⟨174, (.pr (.d I) (.d I)), (.t I), fun a => x_spec_Ahead N a.1 a.2⟩
theorem c_spec_Ahead (N : Nat) : CTok Try.prog (ct_spec_Ahead N) :=
  CT_ok (Γ := [.c (ct_spec_l08Mod N)]) (Θ := []) (Λ := ([] : List (LC (DenR (.t I))))) (by kernel_rfl) mixed ⟨c_spec_l08Mod N, trivial⟩ (by kernel_rfl)
    trivial (by kernel_rfl) (fun a => by kernel_rfl)

/-- loop.example/g00474/spec.Between -/
def x_spec_Between (N : Nat) (a0 : Int) (a1 : Int) (a2 : Int) : Option Bool :=
  (x_spec_l08Mod N a0).bind fun r1 => (x_spec_l08Mod N a2).bind fun r2 => (bif (decide (r1 = r2)) then (x_spec_Ahead N a0 a1).bind fun r3 => some (!decide (r3 = (0 : Int))) else (x_spec_Ahead N a0 a1).bind fun r4 => (bif (decide ((0 : Int) < r4)) then (x_spec_Ahead N a0 a1).bind fun r5 => (x_spec_Ahead N a0 a2).bind fun r6 => some (decide (r5 ≤ r6)) else some false))
abbrev ct_spec_Between (N : Nat) : CT := ⟨110, (.pr (.d I) (.pr (.d I) (.d I))), (.t .bl), fun a => x_spec_Between N a.1 a.2.1 a.2.2⟩
theorem c_spec_Between (N : Nat) : CTok Try.prog (ct_spec_Between N) :=
  CT_ok (Γ := [.c (ct_spec_l08Mod N), .c (ct_spec_Ahead N)]) (Θ := []) (Λ := ([] : List (LC (DenR (.t .bl))))) (by kernel_rfl) mixed ⟨c_spec_l08Mod N, ⟨c_spec_Ahead N, trivial⟩⟩ (by kernel_rfl)
    trivial (by kernel_rfl) (fun a => by kernel_rfl)

/-- a round -/
def B_spec_l11Not_L0 (N : Nat) {Ω : Type} (kx : DenS (.o 5 I) → Option Ω) (kr : (List Int) → Option Ω) (rec_ : DenS (.pr (.d 0 (.sl I)) (.pr (.d 1 I) (.pr (.o 5 I) (.d 6 I)))) → Option Ω) : DenS (.pr (.d 0 (.sl I)) (.pr (.d 1 I) (.pr (.o 5 I) (.d 6 I)))) → Option Ω := fun (s0, s1, s5, s6) =>
  (bif (decide (s6 < (s0.length : Int))) then (bif (decide (0 ≤ s6) && decide (s6 < s0.length)) then (bif (!decide ((s0.getD s6.toNat (0 : Int)) = s1)) then (bif (decide (0 ≤ s6) && decide (s6 < s0.length)) then (bif (decide ((s5.length + [(s0.getD s6.toNat (0 : Int))].length) * 8 ≤ 140737488355328)) then rec_ (s0, s1, (s5 ++ [(s0.getD s6.toNat (0 : Int))]), (wrap64 (s6 + (1 : Int)))) else none) else none) else rec_ (s0, s1, s5, (wrap64 (s6 + (1 : Int))))) else none) else kx s5)
/-- loop.example/g00474/spec.l11Not -/
def x_spec_l11Not (N : Nat) (a0 : (List Int)) (a1 : Int) : Option (List Int) :=
  iter (B_spec_l11Not_L0 N (fun x1 => some x1) (fun ρ2 => some (ρ2))) N (a0, a1, [], (0 : Int))
abbrev ct_spec_l11Not (N : Nat) : CT := ⟨175, (.pr (.d (.sl I)) (.d I)), (.t (.sl I)), fun a => x_spec_l11Not N a.1 a.2⟩
theorem c_spec_l11Not (N : Nat) : CTok Try.prog (ct_spec_l11Not N) :=
  CT_ok (Γ := []) (Θ := [(7, I), (25, I)]) (Λ := ([⟨0, 0, (.pr (.d 0 (.sl I)) (.pr (.d 1 I) (.pr (.o 5 I) (.d 6 I)))), (.o 5 I), fun {Ω} kx kr => iter (B_spec_l11Not_L0 N kx kr) N⟩] : List (LC (DenR (.t (.sl I)))))) (by kernel_rfl) mixed trivial (by kernel_rfl)
    ⟨LoopEq.mk N (fun Ω kx kr => B_spec_l11Not_L0 N kx kr) (fun Ω g kx kr s => by kernel_rfl), trivial⟩ (by kernel_rfl) (fun a => by kernel_rfl)

/-- loop.example/g00474/spec.l09Few -/
def x_spec_l09Few (N : Nat) (a0 : (List Int)) : Option (List Int) :=
  (bif (decide ((3 : Int) < (a0.length : Int))) then (bif (inB (0 : Int) (3 : Int) (a0.length : Int)) then (bif (decide ((([] : List Int).length + ((a0.drop (0 : Int).toNat).take ((3 : Int).toNat - (0 : Int).toNat)).length) * 8 ≤ 140737488355328)) then some (([] : List Int) ++ ((a0.drop (0 : Int).toNat).take ((3 : Int).toNat - (0 : Int).toNat))) else none) else none) else (bif (decide ((([] : List Int).length + a0.length) * 8 ≤ 140737488355328)) then some (([] : List Int) ++ a0) else none))
abbrev ct_spec_l09Few (N : Nat) : CT := ⟨119, (.d (.sl I)), (.t (.sl I)), fun a => x_spec_l09Few N a⟩
theorem c_spec_l09Few (N : Nat) : CTok Try.prog (ct_spec_l09Few N) :=
  CT_ok (Γ := []) (Θ := [(8, I)]) (Λ := ([] : List (LC (DenR (.t (.sl I)))))) (by kernel_rfl) mixed trivial (by kernel_rfl)
    trivial (by kernel_rfl) (fun a => by kernel_rfl)

/-- loop.example/g00474/spec.l11Behind -/
def x_spec_l11Behind (N : Nat) (a0 : (Den tRing)) (a1 : Int) (a2 : Int) : Option (List Int) :=
  agree ((x_spec_PeerAt N a0 a1).bind fun r1 => (bif (decide (0 ≤ r1) && decide (r1 < a0.length)) then (bif (decide (([a1].length + (((((a0.getD r1.toNat (dft tPeer)).2).2).2).1).length) * 8 ≤ 140737488355328)) then (x_spec_l11Not N ([a1] ++ (((((a0.getD r1.toNat (dft tPeer)).2).2).2).1)) a2).bind fun r2 => (x_spec_l09Few N r2).bind fun r3 => some r3 else none) else none)) ((x_spec_PeerAt N a0 a1).bind fun r4 => (bif (decide (0 ≤ r4) && decide (r4 < a0.length)) then (bif (decide (([a1].length + (((((a0.getD r4.toNat (dft tPeer)).2).2).2).1).length) * 8 ≤ 140737488355328)) then (x_spec_l11Not N ([a1] ++ (((((a0.getD r4.toNat (dft tPeer)).2).2).2).1)) a2).bind fun r5 => (x_spec_l09Few N r5).bind fun r6 => some r6 else none) else none))
abbrev ct_spec_l11Behind (N : Nat) : CT := ⟨111, (.pr (.d tRing) (.pr (.d I) (.d I))), (.t (.sl I)), fun a => x_spec_l11Behind N a.1 a.2.1 a.2.2⟩
theorem c_spec_l11Behind (N : Nat) : CTok Try.prog (ct_spec_l11Behind N) :=
  CT_ok (Γ := [.c (ct_spec_PeerAt N), .c (ct_spec_l11Not N), .c (ct_spec_l09Few N)]) (Θ := [(8, I)]) (Λ := ([] : List (LC (DenR (.t (.sl I)))))) (by kernel_rfl) mixed ⟨c_spec_PeerAt N, ⟨c_spec_l11Not N, ⟨c_spec_l09Few N, trivial⟩⟩⟩ (by kernel_rfl)
    trivial (by kernel_rfl) (fun a => by kernel_rfl)

/-- loop.example/g00474/spec.Settle -/
def x_spec_Settle (N : Nat) (a0 : (Den tRing)) (a1 : Int) : Option ((Den tRing) × Bool) :=
  (x_spec_l09Copy N a0).bind fun r1 => (x_spec_PeerAt N a0 a1).bind fun r2 => (x_spec_NextOf N a0 a1).bind fun r3 => (bif (decide (r2 < (0 : Int))) then some (r1, false) else (bif (decide (r3 < (0 : Int))) then some (r1, false) else (x_spec_PeerAt N a0 r3).bind fun r4 => (bif (decide (0 ≤ r4) && decide (r4 < a0.length)) then (x_spec_PeerAt N a0 ((((a0.getD r4.toNat (dft tPeer)).2).2).1)).bind fun r5 => (bif (decide ((0 : Int) ≤ r5)) then (bif (!decide (((((a0.getD r4.toNat (dft tPeer)).2).2).1) = r3)) then (bif (!decide (((((a0.getD r4.toNat (dft tPeer)).2).2).1) = a1)) then (x_spec_Between N a1 ((((a0.getD r4.toNat (dft tPeer)).2).2).1) r3).bind fun r6 => (bif r6 then (x_spec_l11Behind N a0 ((((a0.getD r4.toNat (dft tPeer)).2).2).1) a1).bind fun r7 => (bif (decide (0 ≤ r2) && decide (r2 < r1.length)) then (let l8 : List (Den tPeer) := (r1.set r2.toNat ((r1.getD r2.toNat (dft tPeer)).1, ((r1.getD r2.toNat (dft tPeer)).2).1, (((r1.getD r2.toNat (dft tPeer)).2).2).1, r7, ((((r1.getD r2.toNat (dft tPeer)).2).2).2).2)); (x_spec_PeerAt N a0 ((((a0.getD r4.toNat (dft tPeer)).2).2).1)).bind fun r9 => (bif (decide (0 ≤ r9) && decide (r9 < a0.length)) then (x_spec_PeerAt N a0 ((((a0.getD r9.toNat (dft tPeer)).2).2).1)).bind fun r10 => (bif (decide (r10 < (0 : Int))) then (bif (decide (0 ≤ r9) && decide (r9 < l8.length)) then some ((l8.set r9.toNat ((l8.getD r9.toNat (dft tPeer)).1, ((l8.getD r9.toNat (dft tPeer)).2).1, a1, (((l8.getD r9.toNat (dft tPeer)).2).2).2)), true) else none) else (x_spec_Between N ((((a0.getD r9.toNat (dft tPeer)).2).2).1) a1 ((((a0.getD r4.toNat (dft tPeer)).2).2).1)).bind fun r11 => (bif r11 then (bif (decide (0 ≤ r9) && decide (r9 < l8.length)) then some ((l8.set r9.toNat ((l8.getD r9.toNat (dft tPeer)).1, ((l8.getD r9.toNat (dft tPeer)).2).1, a1, (((l8.getD r9.toNat (dft tPeer)).2).2).2)), true) else none) else some (l8, true))) else none)) else none) else (x_spec_l11Behind N a0 r3 a1).bind fun r12 => (bif (decide (0 ≤ r2) && decide (r2 < r1.length)) then (let l13 : List (Den tPeer) := (r1.set r2.toNat ((r1.getD r2.toNat (dft tPeer)).1, ((r1.getD r2.toNat (dft tPeer)).2).1, (((r1.getD r2.toNat (dft tPeer)).2).2).1, r12, ((((r1.getD r2.toNat (dft tPeer)).2).2).2).2)); (x_spec_PeerAt N a0 r3).bind fun r14 => (bif (decide (0 ≤ r14) && decide (r14 < a0.length)) then (x_spec_PeerAt N a0 ((((a0.getD r14.toNat (dft tPeer)).2).2).1)).bind fun r15 => (bif (decide (r15 < (0 : Int))) then (bif (decide (0 ≤ r14) && decide (r14 < l13.length)) then some ((l13.set r14.toNat ((l13.getD r14.toNat (dft tPeer)).1, ((l13.getD r14.toNat (dft tPeer)).2).1, a1, (((l13.getD r14.toNat (dft tPeer)).2).2).2)), true) else none) else (x_spec_Between N ((((a0.getD r14.toNat (dft tPeer)).2).2).1) a1 r3).bind fun r16 => (bif r16 then (bif (decide (0 ≤ r14) && decide (r14 < l13.length)) then some ((l13.set r14.toNat ((l13.getD r14.toNat (dft tPeer)).1, ((l13.getD r14.toNat (dft tPeer)).2).1, a1, (((l13.getD r14.toNat (dft tPeer)).2).2).2)), true) else none) else some (l13, true))) else none)) else none)) else (x_spec_l11Behind N a0 r3 a1).bind fun r17 => (bif (decide (0 ≤ r2) && decide (r2 < r1.length)) then (let l18 : List (Den tPeer) := (r1.set r2.toNat ((r1.getD r2.toNat (dft tPeer)).1, ((r1.getD r2.toNat (dft tPeer)).2).1, (((r1.getD r2.toNat (dft tPeer)).2).2).1, r17, ((((r1.getD r2.toNat (dft tPeer)).2).2).2).2)); (x_spec_PeerAt N a0 r3).bind fun r19 => (bif (decide (0 ≤ r19) && decide (r19 < a0.length)) then (x_spec_PeerAt N a0 ((((a0.getD r19.toNat (dft tPeer)).2).2).1)).bind fun r20 => (bif (decide (r20 < (0 : Int))) then (bif (decide (0 ≤ r19) && decide (r19 < l18.length)) then some ((l18.set r19.toNat ((l18.getD r19.toNat (dft tPeer)).1, ((l18.getD r19.toNat (dft tPeer)).2).1, a1, (((l18.getD r19.toNat (dft tPeer)).2).2).2)), true) else none) else (x_spec_Between N ((((a0.getD r19.toNat (dft tPeer)).2).2).1) a1 r3).bind fun r21 => (bif r21 then (bif (decide (0 ≤ r19) && decide (r19 < l18.length)) then some ((l18.set r19.toNat ((l18.getD r19.toNat (dft tPeer)).1, ((l18.getD r19.toNat (dft tPeer)).2).1, a1, (((l18.getD r19.toNat (dft tPeer)).2).2).2)), true) else none) else some (l18, true))) else none)) else none)) else (x_spec_l11Behind N a0 r3 a1).bind fun r22 => (bif (decide (0 ≤ r2) && decide (r2 < r1.length)) then (let l23 : List (Den tPeer) := (r1.set r2.toNat ((r1.getD r2.toNat (dft tPeer)).1, ((r1.getD r2.toNat (dft tPeer)).2).1, (((r1.getD r2.toNat (dft tPeer)).2).2).1, r22, ((((r1.getD r2.toNat (dft tPeer)).2).2).2).2)); (x_spec_PeerAt N a0 r3).bind fun r24 => (bif (decide (0 ≤ r24) && decide (r24 < a0.length)) then (x_spec_PeerAt N a0 ((((a0.getD r24.toNat (dft tPeer)).2).2).1)).bind fun r25 => (bif (decide (r25 < (0 : Int))) then (bif (decide (0 ≤ r24) && decide (r24 < l23.length)) then some ((l23.set r24.toNat ((l23.getD r24.toNat (dft tPeer)).1, ((l23.getD r24.toNat (dft tPeer)).2).1, a1, (((l23.getD r24.toNat (dft tPeer)).2).2).2)), true) else none) else (x_spec_Between N ((((a0.getD r24.toNat (dft tPeer)).2).2).1) a1 r3).bind fun r26 => (bif r26 then (bif (decide (0 ≤ r24) && decide (r24 < l23.length)) then some ((l23.set r24.toNat ((l23.getD r24.toNat (dft tPeer)).1, ((l23.getD r24.toNat (dft tPeer)).2).1, a1, (((l23.getD r24.toNat (dft tPeer)).2).2).2)), true) else none) else some (l23, true))) else none)) else none)) else (x_spec_l11Behind N a0 r3 a1).bind fun r27 => (bif (decide (0 ≤ r2) && decide (r2 < r1.length)) then (let l28 : List (Den tPeer) := (r1.set r2.toNat ((r1.getD r2.toNat (dft tPeer)).1, ((r1.getD r2.toNat (dft tPeer)).2).1, (((r1.getD r2.toNat (dft tPeer)).2).2).1, r27, ((((r1.getD r2.toNat (dft tPeer)).2).2).2).2)); (x_spec_PeerAt N a0 r3).bind fun r29 => (bif (decide (0 ≤ r29) && decide (r29 < a0.length)) then (x_spec_PeerAt N a0 ((((a0.getD r29.toNat (dft tPeer)).2).2).1)).bind fun r30 => (bif (decide (r30 < (0 : Int))) then (bif (decide (0 ≤ r29) && decide (r29 < l28.length)) then some ((l28.set r29.toNat ((l28.getD r29.toNat (dft tPeer)).1, ((l28.getD r29.toNat (dft tPeer)).2).1, a1, (((l28.getD r29.toNat (dft tPeer)).2).2).2)), true) else none) else (x_spec_Between N ((((a0.getD r29.toNat (dft tPeer)).2).2).1) a1 r3).bind fun r31 => (bif r31 then (bif (decide (0 ≤ r29) && decide (r29 < l28.length)) then some ((l28.set r29.toNat ((l28.getD r29.toNat (dft tPeer)).1, ((l28.getD r29.toNat (dft tPeer)).2).1, a1, (((l28.getD r29.toNat (dft tPeer)).2).2).2)), true) else none) else some (l28, true))) else none)) else none)) else none)))
abbrev ct_spec_Settle (N : Nat) : CT := ⟨46, (.pr (.d tRing) (.d I)), (.pr (.t tRing) (.t .bl)), fun a => x_spec_Settle N a.1 a.2⟩
theorem c_spec_Settle (N : Nat) : CTok Try.prog (ct_spec_Settle N) :=
  CT_ok (Γ := [.c (ct_spec_l09Copy N), .c (ct_spec_PeerAt N), .c (ct_spec_NextOf N), .c (ct_spec_Between N), .c (ct_spec_l11Behind N)]) (Θ := []) (Λ := ([] : List (LC (DenR (.pr (.t tRing) (.t .bl)))))) (by kernel_rfl) mixed ⟨c_spec_l09Copy N, ⟨c_spec_PeerAt N, ⟨c_spec_NextOf N, ⟨c_spec_Between N, ⟨c_spec_l11Behind N, trivial⟩⟩⟩⟩⟩ (by kernel_rfl)
    trivial (by kernel_rfl) (fun a => by kernel_rfl)

/-- slices.Clone[[]int,int] -/
def x_slices_Clone_int_int (N : Nat) (a0 : (List Int)) : Option (List Int) :=
  (bif (decide (a0.length = 0)) then agree (some []) ((bif (decide ((([] : List Int).length + a0.length) * 8 ≤ 140737488355328)) then some (([] : List Int) ++ a0) else none)) else (bif (decide ((([] : List Int).length + a0.length) * 8 ≤ 140737488355328)) then some (([] : List Int) ++ a0) else none))
abbrev ct_slices_Clone_int_int (N : Nat) : CT := ⟨177, (.d (.sl I)), (.t (.sl I)), fun a => x_slices_Clone_int_int N a⟩
theorem c_slices_Clone_int_int (N : Nat) : CTok Try.prog (ct_slices_Clone_int_int N) :=
  CT_ok (Γ := []) (Θ := [(5, I)]) (Λ := ([] : List (LC (DenR (.t (.sl I)))))) (by kernel_rfl) mixed trivial (by kernel_rfl)
    trivial (by kernel_rfl) (fun a => by kernel_rfl)

/-- slices.Clone[[]loop.example/g00474/impl.Item,loop.example/g00474/impl.Item] -/
def x_slices_Clone_impl_Item_impl_Item (N : Nat) (a0 : (List (Den tItem))) : Option (List (Den tItem)) :=
  (bif (decide (a0.length = 0)) then agree (some []) ((bif (decide ((([] : List (Den tItem)).length + a0.length) * 24 ≤ 140737488355328)) then some (([] : List (Den tItem)) ++ a0) else none)) else (bif (decide ((([] : List (Den tItem)).length + a0.length) * 24 ≤ 140737488355328)) then some (([] : List (Den tItem)) ++ a0) else none))
abbrev ct_slices_Clone_impl_Item_impl_Item (N : Nat) : CT := ⟨178, (.d (.sl tItem)), (.t (.sl tItem)), fun a => x_slices_Clone_impl_Item_impl_Item N a⟩
theorem c_slices_Clone_impl_Item_impl_Item (N : Nat) : CTok Try.prog (ct_slices_Clone_impl_Item_impl_Item N) :=
  CT_ok (Γ := []) (Θ := [(5, tItem)]) (Λ := ([] : List (LC (DenR (.t (.sl tItem)))))) (by kernel_rfl) mixed trivial (by kernel_rfl)
    trivial (by kernel_rfl) (fun a => by kernel_rfl)

/-- a round -/
def B_impl_clonePeer_L0 (N : Nat) {Ω : Type} (kx : DenS (.pr (.bx 1 tPeer) (.bx 2 tPeer)) → Option Ω) (kr : (Den tPeer) → Option Ω) (rec_ : DenS (.pr (.bx 1 tPeer) (.pr (.bx 2 tPeer) (.pr (.d 17 (.sl tShelf)) (.pr (.d 18 I) (.d 19 I))))) → Option Ω) : DenS (.pr (.bx 1 tPeer) (.pr (.bx 2 tPeer) (.pr (.d 17 (.sl tShelf)) (.pr (.d 18 I) (.d 19 I))))) → Option Ω := fun (s1, s2, s17, s18, s19) =>
  (bif (decide (s19 < s18)) then (bif (decide (0 ≤ s19) && decide (s19 < s17.length)) then (x_slices_Clone_impl_Item_impl_Item N ((s17.getD s19.toNat (dft tShelf)).2)).bind fun r3 => (bif (decide ((s1.2.2.2.2.2.length + [((s17.getD s19.toNat (dft tShelf)).1, r3)].length) * 32 ≤ 140737488355328)) then rec_ ((s1.1, s1.2.1, s1.2.2.1, s1.2.2.2.1, s1.2.2.2.2.1, (s1.2.2.2.2.2 ++ [((s17.getD s19.toNat (dft tShelf)).1, r3)])), s2, s17, s18, (wrap64 (s19 + (1 : Int)))) else none) else none) else kx (s1, s2))
/-- loop.example/g00474/impl.clonePeer -/
def x_impl_clonePeer (N : Nat) (a0 : (Den tPeer)) : Option (Den tPeer) :=
  (x_slices_Clone_int_int N a0.2.2.2.1).bind fun r1 => (x_slices_Clone_int_int N a0.2.2.2.2.1).bind fun r2 => iter (B_impl_clonePeer_L0 N (fun (x4, x5) => some x4) (fun ρ6 => some (ρ6))) N ((a0.1, a0.2.1, a0.2.2.1, r1, r2, []), ((0 : Int), false, (0 : Int), [], [], []), a0.2.2.2.2.2, (a0.2.2.2.2.2.length : Int), (0 : Int))
abbrev ct_impl_clonePeer (N : Nat) : CT := ⟨122, (.d tPeer), (.t tPeer), fun a => x_impl_clonePeer N a⟩
theorem c_impl_clonePeer (N : Nat) : CTok Try.prog (ct_impl_clonePeer N) :=
  CT_ok (Γ := [.c (ct_slices_Clone_int_int N), .c (ct_slices_Clone_impl_Item_impl_Item N)]) (Θ := [(31, tShelf)]) (Λ := ([⟨0, 0, (.pr (.bx 1 tPeer) (.pr (.bx 2 tPeer) (.pr (.d 17 (.sl tShelf)) (.pr (.d 18 I) (.d 19 I))))), (.pr (.bx 1 tPeer) (.bx 2 tPeer)), fun {Ω} kx kr => iter (B_impl_clonePeer_L0 N kx kr) N⟩] : List (LC (DenR (.t tPeer))))) (by kernel_rfl) mixed ⟨c_slices_Clone_int_int N, ⟨c_slices_Clone_impl_Item_impl_Item N, trivial⟩⟩ (by kernel_rfl)
    ⟨LoopEq.mk N (fun Ω kx kr => B_impl_clonePeer_L0 N kx kr) (fun Ω g kx kr s => by kernel_rfl), trivial⟩ (by kernel_rfl) (fun a => by kernel_rfl)

/-- a round -/
def B_impl_cloneRing_L0 (N : Nat) {Ω : Type} (kx : DenS (.pr (.bx 2 tRing) (.bx 3 tRing)) → Option Ω) (kr : (Den tRing) → Option Ω) (rec_ : DenS (.pr (.bx 2 tRing) (.pr (.bx 3 tRing) (.pr (.d 8 (.sl tPeer)) (.pr (.d 9 I) (.d 10 I))))) → Option Ω) : DenS (.pr (.bx 2 tRing) (.pr (.bx 3 tRing) (.pr (.d 8 (.sl tPeer)) (.pr (.d 9 I) (.d 10 I))))) → Option Ω := fun (s2, s3, s8, s9, s10) =>
  (bif (decide (s10 < s9)) then (bif (decide (0 ≤ s10) && decide (s10 < s8.length)) then (x_impl_clonePeer N ((s8.getD s10.toNat (dft tPeer)).1, ((s8.getD s10.toNat (dft tPeer)).2).1, (((s8.getD s10.toNat (dft tPeer)).2).2).1, ((((s8.getD s10.toNat (dft tPeer)).2).2).2).1, (((((s8.getD s10.toNat (dft tPeer)).2).2).2).2).1, (((((s8.getD s10.toNat (dft tPeer)).2).2).2).2).2)).bind fun r1 => (bif (decide ((s3.length + [r1].length) * 96 ≤ 140737488355328)) then rec_ (s2, (s3 ++ [r1]), s8, s9, (wrap64 (s10 + (1 : Int)))) else none) else none) else kx (s2, s3))
/-- loop.example/g00474/impl.cloneRing -/
def x_impl_cloneRing (N : Nat) (a0 : (Den tRing)) : Option (Den tRing) :=
  iter (B_impl_cloneRing_L0 N (fun (x2, x3) => some x3) (fun ρ4 => some (ρ4))) N ([], [], a0, (a0.length : Int), (0 : Int))
abbrev ct_impl_cloneRing (N : Nat) : CT := ⟨112, (.d tRing), (.t tRing), fun a => x_impl_cloneRing N a⟩
theorem c_impl_cloneRing (N : Nat) : CTok Try.prog (ct_impl_cloneRing N) :=
  CT_ok (Γ := [.c (ct_impl_clonePeer N)]) (Θ := [(18, tPeer)]) (Λ := ([⟨0, 0, (.pr (.bx 2 tRing) (.pr (.bx 3 tRing) (.pr (.d 8 (.sl tPeer)) (.pr (.d 9 I) (.d 10 I))))), (.pr (.bx 2 tRing) (.bx 3 tRing)), fun {Ω} kx kr => iter (B_impl_cloneRing_L0 N kx kr) N⟩] : List (LC (DenR (.t tRing))))) (by kernel_rfl) mixed ⟨c_impl_clonePeer N, trivial⟩ (by kernel_rfl)
    ⟨LoopEq.mk N (fun Ω kx kr => B_impl_cloneRing_L0 N kx kr) (fun Ω g kx kr s => by kernel_rfl), trivial⟩ (by kernel_rfl) (fun a => by kernel_rfl)

/-- loop.example/g00474/impl.peerHere$1 -/
def x_impl_peerHere_1 (N : Nat) (a0 : (Den tPeer)) (a1 : Int) : Option Bool :=
  (bif a0.2.1 then some (decide (a0.1 = a1)) else some false)
abbrev ct_impl_peerHere_1 (N : Nat) : CT := ⟨154, (.pr (.d tPeer) (.ip I)), (.t .bl), fun a => x_impl_peerHere_1 N a.1 a.2⟩
theorem c_impl_peerHere_1 (N : Nat) : CTok Try.prog (ct_impl_peerHere_1 N) :=
  CT_ok (Γ := []) (Θ := []) (Λ := ([] : List (LC (DenR (.t .bl))))) (by kernel_rfl) mixed trivial (by kernel_rfl)
    trivial (by kernel_rfl) (fun a => by kernel_rfl)

/-- a round -/
def B_slices_IndexFunc_impl_Peer_impl_Peer__impl_peerHere_1_L0 (N : Nat) {Ω : Type} (kx : DenS .un → Option Ω) (kr : Int → Option Ω) (rec_ : DenS (.pr (.d 0 (.sl tPeer)) (.pr (.fn 1 154 (.ip I)) (.pr (.d 7 I) (.d 8 I)))) → Option Ω) : DenS (.pr (.d 0 (.sl tPeer)) (.pr (.fn 1 154 (.ip I)) (.pr (.d 7 I) (.d 8 I)))) → Option Ω := fun (s0, s1, s7, s8) =>
  (bif (decide (s8 < s7)) then (bif (decide (0 ≤ s8) && decide (s8 < s0.length)) then (x_impl_peerHere_1 N (s0.getD s8.toNat (dft tPeer)) s1).bind fun r1 => (bif r1 then kr s8 else rec_ (s0, s1, s7, (wrap64 (s8 + (1 : Int))))) else none) else kx ())
/-- slices.IndexFunc[[]loop.example/g00474/impl.Peer,loop.example/g00474/impl.Peer] -/
def x_slices_IndexFunc_impl_Peer_impl_Peer__impl_peerHere_1 (N : Nat) (a0 : (List (Den tPeer))) (a1 : Int) : Option Int :=
  iter (B_slices_IndexFunc_impl_Peer_impl_Peer__impl_peerHere_1_L0 N (fun _ => some (-1 : Int)) (fun ρ2 => some (ρ2))) N (a0, a1, (a0.length : Int), (0 : Int))
abbrev ct_slices_IndexFunc_impl_Peer_impl_Peer__impl_peerHere_1 (N : Nat) : CT := ⟨153, (.pr (.d (.sl tPeer)) (.fn 154 (.ip I))), (.t I), fun a => x_slices_IndexFunc_impl_Peer_impl_Peer__impl_peerHere_1 N a.1 a.2⟩
theorem c_slices_IndexFunc_impl_Peer_impl_Peer__impl_peerHere_1 (N : Nat) : CTok Try.prog (ct_slices_IndexFunc_impl_Peer_impl_Peer__impl_peerHere_1 N) :=
  CT_ok (Γ := [.c (ct_impl_peerHere_1 N)]) (Θ := []) (Λ := ([⟨0, 0, (.pr (.d 0 (.sl tPeer)) (.pr (.fn 1 154 (.ip I)) (.pr (.d 7 I) (.d 8 I)))), .un, fun {Ω} kx kr => iter (B_slices_IndexFunc_impl_Peer_impl_Peer__impl_peerHere_1_L0 N kx kr) N⟩] : List (LC (DenR (.t I))))) (by kernel_rfl) mixed ⟨c_impl_peerHere_1 N, trivial⟩ (by kernel_rfl)
    ⟨LoopEq.mk N (fun Ω kx kr => B_slices_IndexFunc_impl_Peer_impl_Peer__impl_peerHere_1_L0 N kx kr) (fun Ω g kx kr s => by kernel_rfl), trivial⟩ (by kernel_rfl) (fun a => by kernel_rfl)

/-- loop.example/g00474/impl.peerHere -/
def x_impl_peerHere (N : Nat) (a0 : (Den tRing)) (a1 : Int) : Option Int :=
  (x_slices_IndexFunc_impl_Peer_impl_Peer__impl_peerHere_1 N a0 a1).bind fun r1 => some r1
abbrev ct_impl_peerHere (N : Nat) : CT := ⟨79, (.pr (.d tRing) (.d I)), (.t I), fun a => x_impl_peerHere N a.1 a.2⟩
theorem c_impl_peerHere (N : Nat) : CTok Try.prog (ct_impl_peerHere N) :=
  CT_ok (Γ := [.c (ct_slices_IndexFunc_impl_Peer_impl_Peer__impl_peerHere_1 N)]) (Θ := []) (Λ := ([] : List (LC (DenR (.t I))))) (by kernel_rfl) mixed ⟨c_slices_IndexFunc_impl_Peer_impl_Peer__impl_peerHere_1 N, trivial⟩ (by kernel_rfl)
    trivial (by kernel_rfl) (fun a => by kernel_rfl)

/-- a round -/
def B_impl_NextOf_L0 (N : Nat) {Ω : Type} (kx : DenS .un → Option Ω) (kr : Int → Option Ω) (rec_ : DenS (.pr (.ip 2 tRing) (.pr (.d 18 (.sl I)) (.pr (.d 19 I) (.d 20 I)))) → Option Ω) : DenS (.pr (.ip 2 tRing) (.pr (.d 18 (.sl I)) (.pr (.d 19 I) (.d 20 I)))) → Option Ω := fun (s2, s18, s19, s20) =>
  (bif (decide (s20 < s19)) then (bif (decide (0 ≤ s20) && decide (s20 < s18.length)) then (x_impl_peerHere N s2 (s18.getD s20.toNat (0 : Int))).bind fun r2 => (bif (decide ((0 : Int) ≤ r2)) then kr (s18.getD s20.toNat (0 : Int)) else rec_ (s2, s18, s19, (wrap64 (s20 + (1 : Int))))) else none) else kx ())
/-- loop.example/g00474/impl.NextOf -/
def x_impl_NextOf (N : Nat) (a0 : (Den tRing)) (a1 : Int) : Option Int :=
  (x_impl_peerHere N a0 a1).bind fun r1 => (bif (decide (r1 < (0 : Int))) then some (-1 : Int) else (bif (decide (0 ≤ r1) && decide (r1 < a0.length)) then iter (B_impl_NextOf_L0 N (fun _ => some (-1 : Int)) (fun ρ3 => some (ρ3))) N (a0, ((((a0.getD r1.toNat (dft tPeer)).2).2).2).1, ((((((a0.getD r1.toNat (dft tPeer)).2).2).2).1).length : Int), (0 : Int)) else none))
abbrev ct_impl_NextOf (N : Nat) : CT := ⟨113, (.pr (.d tRing) (.d I)), (.t I), fun a => x_impl_NextOf N a.1 a.2⟩
theorem c_impl_NextOf (N : Nat) : CTok Try.prog (ct_impl_NextOf N) :=
  CT_ok (Γ := [.c (ct_impl_peerHere N)]) (Θ := []) (Λ := ([⟨0, 0, (.pr (.ip 2 tRing) (.pr (.d 18 (.sl I)) (.pr (.d 19 I) (.d 20 I)))), .un, fun {Ω} kx kr => iter (B_impl_NextOf_L0 N kx kr) N⟩] : List (LC (DenR (.t I))))) (by kernel_rfl) mixed ⟨c_impl_peerHere N, trivial⟩ (by kernel_rfl)
    ⟨LoopEq.mk N (fun Ω kx kr => B_impl_NextOf_L0 N kx kr) (fun Ω g kx kr s => by kernel_rfl), trivial⟩ (by kernel_rfl) (fun a => by kernel_rfl)

/-- a round -/
def B_impl_behind_L0 (N : Nat) {Ω : Type} (kx : DenS (.o 7 I) → Option Ω) (kr : (List Int) → Option Ω) (rec_ : DenS (.pr (.d 2 I) (.pr (.o 7 I) (.pr (.d 29 (.sl I)) (.pr (.d 30 I) (.d 31 I))))) → Option Ω) : DenS (.pr (.d 2 I) (.pr (.o 7 I) (.pr (.d 29 (.sl I)) (.pr (.d 30 I) (.d 31 I))))) → Option Ω := fun (s2, s7, s29, s30, s31) =>
  (bif (decide (s31 < s30)) then (bif (decide (0 ≤ s31) && decide (s31 < s29.length)) then (bif (!decide ((s29.getD s31.toNat (0 : Int)) = s2)) then (bif (decide ((s7.length : Int) < (3 : Int))) then (bif (decide ((s7.length + [(s29.getD s31.toNat (0 : Int))].length) * 8 ≤ 140737488355328)) then rec_ (s2, (s7 ++ [(s29.getD s31.toNat (0 : Int))]), s29, s30, (wrap64 (s31 + (1 : Int)))) else none) else rec_ (s2, s7, s29, s30, (wrap64 (s31 + (1 : Int))))) else rec_ (s2, s7, s29, s30, (wrap64 (s31 + (1 : Int))))) else none) else kx s7)
/-- loop.example/g00474/impl.behind -/
def x_impl_behind (N : Nat) (a0 : (Den tRing)) (a1 : Int) (a2 : Int) : Option (List Int) :=
  (bif (!decide (a1 = a2)) then (bif (decide ((([] : List Int).length + [a1].length) * 8 ≤ 140737488355328)) then (x_impl_peerHere N a0 a1).bind fun r1 => (bif (decide ((0 : Int) ≤ r1)) then (bif (decide (0 ≤ r1) && decide (r1 < a0.length)) then iter (B_impl_behind_L0 N (fun x2 => some x2) (fun ρ3 => some (ρ3))) N (a2, (([] : List Int) ++ [a1]), ((((a0.getD r1.toNat (dft tPeer)).2).2).2).1, ((((((a0.getD r1.toNat (dft tPeer)).2).2).2).1).length : Int), (0 : Int)) else none) else some (([] : List Int) ++ [a1])) else none) else (x_impl_peerHere N a0 a1).bind fun r4 => (bif (decide ((0 : Int) ≤ r4)) then (bif (decide (0 ≤ r4) && decide (r4 < a0.length)) then iter (B_impl_behind_L0 N (fun x5 => some x5) (fun ρ6 => some (ρ6))) N (a2, [], ((((a0.getD r4.toNat (dft tPeer)).2).2).2).1, ((((((a0.getD r4.toNat (dft tPeer)).2).2).2).1).length : Int), (0 : Int)) else none) else some []))
abbrev ct_impl_behind (N : Nat) : CT := ⟨114, (.pr (.d tRing) (.pr (.d I) (.d I))), (.t (.sl I)), fun a => x_impl_behind N a.1 a.2.1 a.2.2⟩
theorem c_impl_behind (N : Nat) : CTok Try.prog (ct_impl_behind N) :=
  CT_ok (Γ := [.c (ct_impl_peerHere N)]) (Θ := [(11, I), (17, I), (45, I)]) (Λ := ([⟨0, 0, (.pr (.d 2 I) (.pr (.o 7 I) (.pr (.d 29 (.sl I)) (.pr (.d 30 I) (.d 31 I))))), (.o 7 I), fun {Ω} kx kr => iter (B_impl_behind_L0 N kx kr) N⟩] : List (LC (DenR (.t (.sl I)))))) (by kernel_rfl) mixed ⟨c_impl_peerHere N, trivial⟩ (by kernel_rfl)
    ⟨LoopEq.mk N (fun Ω kx kr => B_impl_behind_L0 N kx kr) (fun Ω g kx kr s => by kernel_rfl), trivial⟩ (by kernel_rfl) (fun a => by kernel_rfl)

/-- loop.example/g00474/impl.place -/
def x_impl_place (N : Nat) (a0 : Int) : Option Int :=
  some ((wrap64 ((a0.tmod (256 : Int)) + (256 : Int))).tmod (256 : Int))
abbrev ct_impl_place (N : Nat) : CT := ⟨209, (.d I), (.t I), fun a => x_impl_place N a⟩
theorem c_impl_place (N : Nat) : CTok Try.prog (ct_impl_place N) :=
  CT_ok (Γ := []) (Θ := []) (Λ := ([] : List (LC (DenR (.t I))))) (by kernel_rfl) mixed trivial (by kernel_rfl)
    trivial (by kernel_rfl) (fun a => by kernel_rfl)

/-- loop.example/g00474/impl.Ahead -/
def x_impl_Ahead (N : Nat) (a0 : Int) (a1 : Int) : Option Int :=
  (x_impl_place N a1).bind fun r1 => (x_impl_place N a0).bind fun r2 => (x_impl_place N (wrap64 (r1 - r2))).bind fun r3 => some r3
abbrev ct_impl_Ahead (N : Nat) : CT := ⟨176, (.pr (.d I) (.d I)), (.t I), fun a => x_impl_Ahead N a.1 a.2⟩
theorem c_impl_Ahead (N : Nat) : CTok Try.prog (ct_impl_Ahead N) :=
  CT_ok (Γ := [.c (ct_impl_place N)]) (Θ := []) (Λ := ([] : List (LC (DenR (.t I))))) (by kernel_rfl) mixed ⟨c_impl_place N, trivial⟩ (by kernel_rfl)
    trivial (by kernel_rfl) (fun a => by kernel_rfl)

/-- loop.example/g00474/impl.Between -/
def x_impl_Between (N : Nat) (a0 : Int) (a1 : Int) (a2 : Int) : Option Bool :=
  (x_impl_Ahead N a0 a1).bind fun r1 => (x_impl_Ahead N a0 a2).bind fun r2 => (bif (decide ((0 : Int) < r1)) then (bif (decide (r1 ≤ r2)) then some true else some (decide (r2 = (0 : Int)))) else some false)
abbrev ct_impl_Between (N : Nat) : CT := ⟨115, (.pr (.d I) (.pr (.d I) (.d I))), (.t .bl), fun a => x_impl_Between N a.1 a.2.1 a.2.2⟩
theorem c_impl_Between (N : Nat) : CTok Try.prog (ct_impl_Between N) :=
  CT_ok (Γ := [.c (ct_impl_Ahead N)]) (Θ := []) (Λ := ([] : List (LC (DenR (.t .bl))))) (by kernel_rfl) mixed ⟨c_impl_Ahead N, trivial⟩ (by kernel_rfl)
    trivial (by kernel_rfl) (fun a => by kernel_rfl)

/-- loop.example/g00474/impl.Settle -/
def x_impl_Settle (N : Nat) (a0 : (Den tRing)) (a1 : Int) : Option ((Den tRing) × Bool) :=
  (x_impl_cloneRing N a0).bind fun r1 => (x_impl_NextOf N a0 a1).bind fun r2 => (bif (decide (r2 < (0 : Int))) then some (r1, false) else (x_impl_behind N a0 r2 a1).bind fun r3 => (x_impl_peerHere N a0 r2).bind fun r4 => (bif (decide (0 ≤ r4) && decide (r4 < a0.length)) then (x_impl_peerHere N a0 ((((a0.getD r4.toNat (dft tPeer)).2).2).1)).bind fun r5 => (bif (decide ((0 : Int) ≤ r5)) then (x_impl_Between N a1 ((((a0.getD r4.toNat (dft tPeer)).2).2).1) r2).bind fun r6 => (bif r6 then (bif (!decide (((((a0.getD r4.toNat (dft tPeer)).2).2).1) = r2)) then (bif (!decide (((((a0.getD r4.toNat (dft tPeer)).2).2).1) = a1)) then (x_impl_behind N a0 ((((a0.getD r4.toNat (dft tPeer)).2).2).1) a1).bind fun r7 => (x_impl_peerHere N a0 a1).bind fun r8 => (bif (decide (0 ≤ r8) && decide (r8 < r1.length)) then (let l9 : List (Den tPeer) := (r1.set r8.toNat ((r1.getD r8.toNat (dft tPeer)).1, ((r1.getD r8.toNat (dft tPeer)).2).1, (((r1.getD r8.toNat (dft tPeer)).2).2).1, r7, ((((r1.getD r8.toNat (dft tPeer)).2).2).2).2)); (x_impl_peerHere N a0 ((((a0.getD r4.toNat (dft tPeer)).2).2).1)).bind fun r10 => (bif (decide (0 ≤ r10) && decide (r10 < l9.length)) then (x_impl_peerHere N a0 ((((l9.getD r10.toNat (dft tPeer)).2).2).1)).bind fun r11 => (bif (decide (r11 < (0 : Int))) then some ((l9.set r10.toNat ((l9.getD r10.toNat (dft tPeer)).1, ((l9.getD r10.toNat (dft tPeer)).2).1, a1, (((l9.getD r10.toNat (dft tPeer)).2).2).2)), true) else (x_impl_Between N ((((l9.getD r10.toNat (dft tPeer)).2).2).1) a1 ((l9.getD r10.toNat (dft tPeer)).1)).bind fun r12 => (bif r12 then some ((l9.set r10.toNat ((l9.getD r10.toNat (dft tPeer)).1, ((l9.getD r10.toNat (dft tPeer)).2).1, a1, (((l9.getD r10.toNat (dft tPeer)).2).2).2)), true) else some (l9, true))) else none)) else none) else (x_impl_peerHere N a0 a1).bind fun r13 => (bif (decide (0 ≤ r13) && decide (r13 < r1.length)) then (let l14 : List (Den tPeer) := (r1.set r13.toNat ((r1.getD r13.toNat (dft tPeer)).1, ((r1.getD r13.toNat (dft tPeer)).2).1, (((r1.getD r13.toNat (dft tPeer)).2).2).1, r3, ((((r1.getD r13.toNat (dft tPeer)).2).2).2).2)); (x_impl_peerHere N a0 r2).bind fun r15 => (bif (decide (0 ≤ r15) && decide (r15 < l14.length)) then (x_impl_peerHere N a0 ((((l14.getD r15.toNat (dft tPeer)).2).2).1)).bind fun r16 => (bif (decide (r16 < (0 : Int))) then some ((l14.set r15.toNat ((l14.getD r15.toNat (dft tPeer)).1, ((l14.getD r15.toNat (dft tPeer)).2).1, a1, (((l14.getD r15.toNat (dft tPeer)).2).2).2)), true) else (x_impl_Between N ((((l14.getD r15.toNat (dft tPeer)).2).2).1) a1 ((l14.getD r15.toNat (dft tPeer)).1)).bind fun r17 => (bif r17 then some ((l14.set r15.toNat ((l14.getD r15.toNat (dft tPeer)).1, ((l14.getD r15.toNat (dft tPeer)).2).1, a1, (((l14.getD r15.toNat (dft tPeer)).2).2).2)), true) else some (l14, true))) else none)) else none)) else (x_impl_peerHere N a0 a1).bind fun r18 => (bif (decide (0 ≤ r18) && decide (r18 < r1.length)) then (let l19 : List (Den tPeer) := (r1.set r18.toNat ((r1.getD r18.toNat (dft tPeer)).1, ((r1.getD r18.toNat (dft tPeer)).2).1, (((r1.getD r18.toNat (dft tPeer)).2).2).1, r3, ((((r1.getD r18.toNat (dft tPeer)).2).2).2).2)); (x_impl_peerHere N a0 r2).bind fun r20 => (bif (decide (0 ≤ r20) && decide (r20 < l19.length)) then (x_impl_peerHere N a0 ((((l19.getD r20.toNat (dft tPeer)).2).2).1)).bind fun r21 => (bif (decide (r21 < (0 : Int))) then some ((l19.set r20.toNat ((l19.getD r20.toNat (dft tPeer)).1, ((l19.getD r20.toNat (dft tPeer)).2).1, a1, (((l19.getD r20.toNat (dft tPeer)).2).2).2)), true) else (x_impl_Between N ((((l19.getD r20.toNat (dft tPeer)).2).2).1) a1 ((l19.getD r20.toNat (dft tPeer)).1)).bind fun r22 => (bif r22 then some ((l19.set r20.toNat ((l19.getD r20.toNat (dft tPeer)).1, ((l19.getD r20.toNat (dft tPeer)).2).1, a1, (((l19.getD r20.toNat (dft tPeer)).2).2).2)), true) else some (l19, true))) else none)) else none)) else (x_impl_peerHere N a0 a1).bind fun r23 => (bif (decide (0 ≤ r23) && decide (r23 < r1.length)) then (let l24 : List (Den tPeer) := (r1.set r23.toNat ((r1.getD r23.toNat (dft tPeer)).1, ((r1.getD r23.toNat (dft tPeer)).2).1, (((r1.getD r23.toNat (dft tPeer)).2).2).1, r3, ((((r1.getD r23.toNat (dft tPeer)).2).2).2).2)); (x_impl_peerHere N a0 r2).bind fun r25 => (bif (decide (0 ≤ r25) && decide (r25 < l24.length)) then (x_impl_peerHere N a0 ((((l24.getD r25.toNat (dft tPeer)).2).2).1)).bind fun r26 => (bif (decide (r26 < (0 : Int))) then some ((l24.set r25.toNat ((l24.getD r25.toNat (dft tPeer)).1, ((l24.getD r25.toNat (dft tPeer)).2).1, a1, (((l24.getD r25.toNat (dft tPeer)).2).2).2)), true) else (x_impl_Between N ((((l24.getD r25.toNat (dft tPeer)).2).2).1) a1 ((l24.getD r25.toNat (dft tPeer)).1)).bind fun r27 => (bif r27 then some ((l24.set r25.toNat ((l24.getD r25.toNat (dft tPeer)).1, ((l24.getD r25.toNat (dft tPeer)).2).1, a1, (((l24.getD r25.toNat (dft tPeer)).2).2).2)), true) else some (l24, true))) else none)) else none)) else (x_impl_peerHere N a0 a1).bind fun r28 => (bif (decide (0 ≤ r28) && decide (r28 < r1.length)) then (let l29 : List (Den tPeer) := (r1.set r28.toNat ((r1.getD r28.toNat (dft tPeer)).1, ((r1.getD r28.toNat (dft tPeer)).2).1, (((r1.getD r28.toNat (dft tPeer)).2).2).1, r3, ((((r1.getD r28.toNat (dft tPeer)).2).2).2).2)); (x_impl_peerHere N a0 r2).bind fun r30 => (bif (decide (0 ≤ r30) && decide (r30 < l29.length)) then (x_impl_peerHere N a0 ((((l29.getD r30.toNat (dft tPeer)).2).2).1)).bind fun r31 => (bif (decide (r31 < (0 : Int))) then some ((l29.set r30.toNat ((l29.getD r30.toNat (dft tPeer)).1, ((l29.getD r30.toNat (dft tPeer)).2).1, a1, (((l29.getD r30.toNat (dft tPeer)).2).2).2)), true) else (x_impl_Between N ((((l29.getD r30.toNat (dft tPeer)).2).2).1) a1 ((l29.getD r30.toNat (dft tPeer)).1)).bind fun r32 => (bif r32 then some ((l29.set r30.toNat ((l29.getD r30.toNat (dft tPeer)).1, ((l29.getD r30.toNat (dft tPeer)).2).1, a1, (((l29.getD r30.toNat (dft tPeer)).2).2).2)), true) else some (l29, true))) else none)) else none)) else none))
abbrev ct_impl_Settle (N : Nat) : CT := ⟨47, (.pr (.d tRing) (.d I)), (.pr (.t tRing) (.t .bl)), fun a => x_impl_Settle N a.1 a.2⟩
theorem c_impl_Settle (N : Nat) : CTok Try.prog (ct_impl_Settle N) :=
  CT_ok (Γ := [.c (ct_impl_cloneRing N), .c (ct_impl_NextOf N), .c (ct_impl_behind N), .c (ct_impl_peerHere N), .c (ct_impl_Between N)]) (Θ := []) (Λ := ([] : List (LC (DenR (.pr (.t tRing) (.t .bl)))))) (by kernel_rfl) mixed ⟨c_impl_cloneRing N, ⟨c_impl_NextOf N, ⟨c_impl_behind N, ⟨c_impl_peerHere N, ⟨c_impl_Between N, trivial⟩⟩⟩⟩⟩ (by kernel_rfl)
    trivial (by kernel_rfl) (fun a => by kernel_rfl)

/-- a round -/
def B_laws_eqIntS_L0 (N : Nat) {Ω : Type} (kx : DenS .un → Option Ω) (kr : Bool → Option Ω) (rec_ : DenS (.pr (.d 0 (.sl I)) (.pr (.d 1 (.sl I)) (.d 5 I))) → Option Ω) : DenS (.pr (.d 0 (.sl I)) (.pr (.d 1 (.sl I)) (.d 5 I))) → Option Ω := fun (s0, s1, s5) =>
  (bif (decide (s5 < (s0.length : Int))) then (bif (decide (0 ≤ s5) && decide (s5 < s0.length)) then (bif (decide (0 ≤ s5) && decide (s5 < s1.length)) then (bif (!decide ((s0.getD s5.toNat (0 : Int)) = (s1.getD s5.toNat (0 : Int)))) then kr false else rec_ (s0, s1, (wrap64 (s5 + (1 : Int))))) else none) else none) else kx ())
/-- loop.example/g00474/laws.eqIntS -/
def x_laws_eqIntS (N : Nat) (a0 : (List Int)) (a1 : (List Int)) : Option Bool :=
  (bif (!decide ((a0.length : Int) = (a1.length : Int))) then some false else iter (B_laws_eqIntS_L0 N (fun _ => some true) (fun ρ1 => some (ρ1))) N (a0, a1, (0 : Int)))
abbrev ct_laws_eqIntS (N : Nat) : CT := ⟨26, (.pr (.d (.sl I)) (.d (.sl I))), (.t .bl), fun a => x_laws_eqIntS N a.1 a.2⟩
theorem c_laws_eqIntS (N : Nat) : CTok Try.prog (ct_laws_eqIntS N) :=
  CT_ok (Γ := []) (Θ := []) (Λ := ([⟨0, 0, (.pr (.d 0 (.sl I)) (.pr (.d 1 (.sl I)) (.d 5 I))), .un, fun {Ω} kx kr => iter (B_laws_eqIntS_L0 N kx kr) N⟩] : List (LC (DenR (.t .bl))))) (by kernel_rfl) mixed trivial (by kernel_rfl)
    ⟨LoopEq.mk N (fun Ω kx kr => B_laws_eqIntS_L0 N kx kr) (fun Ω g kx kr s => by kernel_rfl), trivial⟩ (by kernel_rfl) (fun a => by kernel_rfl)

/-- loop.example/g00474/laws.eqItem -/
def x_laws_eqItem (N : Nat) (a0 : (Den tItem)) (a1 : (Den tItem)) : Option Bool :=
  (bif (!decide (a0.1 = a1.1)) then some false else (bif (!(a0.2 == a1.2)) then some false else some true))
abbrev ct_laws_eqItem (N : Nat) : CT := ⟨139, (.pr (.d tItem) (.d tItem)), (.t .bl), fun a => x_laws_eqItem N a.1 a.2⟩
theorem c_laws_eqItem (N : Nat) : CTok Try.prog (ct_laws_eqItem N) :=
  CT_ok (Γ := []) (Θ := []) (Λ := ([] : List (LC (DenR (.t .bl))))) (by kernel_rfl) mixed trivial (by kernel_rfl)
    trivial (by kernel_rfl) (fun a => by kernel_rfl)

/-- a round -/
def B_laws_eqItemS_L0 (N : Nat) {Ω : Type} (kx : DenS .un → Option Ω) (kr : Bool → Option Ω) (rec_ : DenS (.pr (.d 0 (.sl tItem)) (.pr (.d 1 (.sl tItem)) (.d 5 I))) → Option Ω) : DenS (.pr (.d 0 (.sl tItem)) (.pr (.d 1 (.sl tItem)) (.d 5 I))) → Option Ω := fun (s0, s1, s5) =>
  (bif (decide (s5 < (s0.length : Int))) then (bif (decide (0 ≤ s5) && decide (s5 < s0.length)) then (bif (decide (0 ≤ s5) && decide (s5 < s1.length)) then (x_laws_eqItem N (s0.getD s5.toNat (dft tItem)) (s1.getD s5.toNat (dft tItem))).bind fun r1 => (bif (!r1) then kr false else rec_ (s0, s1, (wrap64 (s5 + (1 : Int))))) else none) else none) else kx ())
/-- loop.example/g00474/laws.eqItemS -/
def x_laws_eqItemS (N : Nat) (a0 : (List (Den tItem))) (a1 : (List (Den tItem))) : Option Bool :=
  (bif (!decide ((a0.length : Int) = (a1.length : Int))) then some false else iter (B_laws_eqItemS_L0 N (fun _ => some true) (fun ρ2 => some (ρ2))) N (a0, a1, (0 : Int)))
abbrev ct_laws_eqItemS (N : Nat) : CT := ⟨61, (.pr (.d (.sl tItem)) (.d (.sl tItem))), (.t .bl), fun a => x_laws_eqItemS N a.1 a.2⟩
theorem c_laws_eqItemS (N : Nat) : CTok Try.prog (ct_laws_eqItemS N) :=
  CT_ok (Γ := [.c (ct_laws_eqItem N)]) (Θ := []) (Λ := ([⟨0, 0, (.pr (.d 0 (.sl tItem)) (.pr (.d 1 (.sl tItem)) (.d 5 I))), .un, fun {Ω} kx kr => iter (B_laws_eqItemS_L0 N kx kr) N⟩] : List (LC (DenR (.t .bl))))) (by kernel_rfl) mixed ⟨c_laws_eqItem N, trivial⟩ (by kernel_rfl)
    ⟨LoopEq.mk N (fun Ω kx kr => B_laws_eqItemS_L0 N kx kr) (fun Ω g kx kr s => by kernel_rfl), trivial⟩ (by kernel_rfl) (fun a => by kernel_rfl)

/-- loop.example/g00474/laws.eqShelf -/
def x_laws_eqShelf (N : Nat) (a0 : (Den tShelf)) (a1 : (Den tShelf)) : Option Bool :=
  (bif (!decide (a0.1 = a1.1)) then some false else (x_laws_eqItemS N a0.2 a1.2).bind fun r1 => (bif (!r1) then some false else some true))
abbrev ct_laws_eqShelf (N : Nat) : CT := ⟨199, (.pr (.d tShelf) (.d tShelf)), (.t .bl), fun a => x_laws_eqShelf N a.1 a.2⟩
theorem c_laws_eqShelf (N : Nat) : CTok Try.prog (ct_laws_eqShelf N) :=
  CT_ok (Γ := [.c (ct_laws_eqItemS N)]) (Θ := []) (Λ := ([] : List (LC (DenR (.t .bl))))) (by kernel_rfl) mixed ⟨c_laws_eqItemS N, trivial⟩ (by kernel_rfl)
    trivial (by kernel_rfl) (fun a => by kernel_rfl)

/-- a round -/
def B_laws_eqShelfS_L0 (N : Nat) {Ω : Type} (kx : DenS .un → Option Ω) (kr : Bool → Option Ω) (rec_ : DenS (.pr (.d 0 (.sl tShelf)) (.pr (.d 1 (.sl tShelf)) (.d 5 I))) → Option Ω) : DenS (.pr (.d 0 (.sl tShelf)) (.pr (.d 1 (.sl tShelf)) (.d 5 I))) → Option Ω := fun (s0, s1, s5) =>
  (bif (decide (s5 < (s0.length : Int))) then (bif (decide (0 ≤ s5) && decide (s5 < s0.length)) then (bif (decide (0 ≤ s5) && decide (s5 < s1.length)) then (x_laws_eqShelf N (s0.getD s5.toNat (dft tShelf)) (s1.getD s5.toNat (dft tShelf))).bind fun r1 => (bif (!r1) then kr false else rec_ (s0, s1, (wrap64 (s5 + (1 : Int))))) else none) else none) else kx ())
/-- loop.example/g00474/laws.eqShelfS -/
def x_laws_eqShelfS (N : Nat) (a0 : (List (Den tShelf))) (a1 : (List (Den tShelf))) : Option Bool :=
  (bif (!decide ((a0.length : Int) = (a1.length : Int))) then some false else iter (B_laws_eqShelfS_L0 N (fun _ => some true) (fun ρ2 => some (ρ2))) N (a0, a1, (0 : Int)))
abbrev ct_laws_eqShelfS (N : Nat) : CT := ⟨138, (.pr (.d (.sl tShelf)) (.d (.sl tShelf))), (.t .bl), fun a => x_laws_eqShelfS N a.1 a.2⟩
theorem c_laws_eqShelfS (N : Nat) : CTok Try.prog (ct_laws_eqShelfS N) :=
  CT_ok (Γ := [.c (ct_laws_eqShelf N)]) (Θ := []) (Λ := ([⟨0, 0, (.pr (.d 0 (.sl tShelf)) (.pr (.d 1 (.sl tShelf)) (.d 5 I))), .un, fun {Ω} kx kr => iter (B_laws_eqShelfS_L0 N kx kr) N⟩] : List (LC (DenR (.t .bl))))) (by kernel_rfl) mixed ⟨c_laws_eqShelf N, trivial⟩ (by kernel_rfl)
    ⟨LoopEq.mk N (fun Ω kx kr => B_laws_eqShelfS_L0 N kx kr) (fun Ω g kx kr s => by kernel_rfl), trivial⟩ (by kernel_rfl) (fun a => by kernel_rfl)

/-- loop.example/g00474/laws.eqPeer -/
def x_laws_eqPeer (N : Nat) (a0 : (Den tPeer)) (a1 : (Den tPeer)) : Option Bool :=
  (bif (!decide (a0.1 = a1.1)) then some false else (bif (!(a0.2.1 == a1.2.1)) then some false else (bif (!decide (a0.2.2.1 = a1.2.2.1)) then some false else (x_laws_eqIntS N a0.2.2.2.1 a1.2.2.2.1).bind fun r1 => (bif (!r1) then some false else (x_laws_eqIntS N a0.2.2.2.2.1 a1.2.2.2.2.1).bind fun r2 => (bif (!r2) then some false else (x_laws_eqShelfS N a0.2.2.2.2.2 a1.2.2.2.2.2).bind fun r3 => (bif (!r3) then some false else some true))))))
abbrev ct_laws_eqPeer (N : Nat) : CT := ⟨60, (.pr (.d tPeer) (.d tPeer)), (.t .bl), fun a => x_laws_eqPeer N a.1 a.2⟩
theorem c_laws_eqPeer (N : Nat) : CTok Try.prog (ct_laws_eqPeer N) :=
  CT_ok (Γ := [.c (ct_laws_eqIntS N), .c (ct_laws_eqShelfS N)]) (Θ := []) (Λ := ([] : List (LC (DenR (.t .bl))))) (by kernel_rfl) mixed ⟨c_laws_eqIntS N, ⟨c_laws_eqShelfS N, trivial⟩⟩ (by kernel_rfl)
    trivial (by kernel_rfl) (fun a => by kernel_rfl)

/-- a round -/
def B_laws_eqPeerS_L0 (N : Nat) {Ω : Type} (kx : DenS .un → Option Ω) (kr : Bool → Option Ω) (rec_ : DenS (.pr (.d 0 (.sl tPeer)) (.pr (.d 1 (.sl tPeer)) (.d 5 I))) → Option Ω) : DenS (.pr (.d 0 (.sl tPeer)) (.pr (.d 1 (.sl tPeer)) (.d 5 I))) → Option Ω := fun (s0, s1, s5) =>
  (bif (decide (s5 < (s0.length : Int))) then (bif (decide (0 ≤ s5) && decide (s5 < s0.length)) then (bif (decide (0 ≤ s5) && decide (s5 < s1.length)) then (x_laws_eqPeer N (s0.getD s5.toNat (dft tPeer)) (s1.getD s5.toNat (dft tPeer))).bind fun r1 => (bif (!r1) then kr false else rec_ (s0, s1, (wrap64 (s5 + (1 : Int))))) else none) else none) else kx ())
/-- loop.example/g00474/laws.eqPeerS -/
def x_laws_eqPeerS (N : Nat) (a0 : (List (Den tPeer))) (a1 : (List (Den tPeer))) : Option Bool :=
  (bif (!decide ((a0.length : Int) = (a1.length : Int))) then some false else iter (B_laws_eqPeerS_L0 N (fun _ => some true) (fun ρ2 => some (ρ2))) N (a0, a1, (0 : Int)))
abbrev ct_laws_eqPeerS (N : Nat) : CT := ⟨81, (.pr (.d (.sl tPeer)) (.d (.sl tPeer))), (.t .bl), fun a => x_laws_eqPeerS N a.1 a.2⟩
theorem c_laws_eqPeerS (N : Nat) : CTok Try.prog (ct_laws_eqPeerS N) :=
  CT_ok (Γ := [.c (ct_laws_eqPeer N)]) (Θ := []) (Λ := ([⟨0, 0, (.pr (.d 0 (.sl tPeer)) (.pr (.d 1 (.sl tPeer)) (.d 5 I))), .un, fun {Ω} kx kr => iter (B_laws_eqPeerS_L0 N kx kr) N⟩] : List (LC (DenR (.t .bl))))) (by kernel_rfl) mixed ⟨c_laws_eqPeer N, trivial⟩ (by kernel_rfl)
    ⟨LoopEq.mk N (fun Ω kx kr => B_laws_eqPeerS_L0 N kx kr) (fun Ω g kx kr s => by kernel_rfl), trivial⟩ (by kernel_rfl) (fun a => by kernel_rfl)

/-- loop.example/g00474/laws.eqRing -/
def x_laws_eqRing (N : Nat) (a0 : (Den tRing)) (a1 : (Den tRing)) : Option Bool :=
  (x_laws_eqPeerS N a0 a1).bind fun r1 => (bif (!r1) then some false else some true)
abbrev ct_laws_eqRing (N : Nat) : CT := ⟨27, (.pr (.d tRing) (.d tRing)), (.t .bl), fun a => x_laws_eqRing N a.1 a.2⟩
theorem c_laws_eqRing (N : Nat) : CTok Try.prog (ct_laws_eqRing N) :=
  CT_ok (Γ := [.c (ct_laws_eqPeerS N)]) (Θ := []) (Λ := ([] : List (LC (DenR (.t .bl))))) (by kernel_rfl) mixed ⟨c_laws_eqPeerS N, trivial⟩ (by kernel_rfl)
    trivial (by kernel_rfl) (fun a => by kernel_rfl)

/-- a round -/
def B_laws_markIntS_L0 (N : Nat) {Ω : Type} (kx : DenS (.pr (.o 0 I) (.d 1 I)) → Option Ω) (kr : (Int × DenW (.pr (.o 0 I) (.d 1 I))) → Option Ω) (rec_ : DenS (.pr (.o 0 I) (.pr (.d 1 I) (.d 5 I))) → Option Ω) : DenS (.pr (.o 0 I) (.pr (.d 1 I) (.d 5 I))) → Option Ω := fun (s0, s1, s5) =>
  (bif (decide (s5 < (s0.length : Int))) then (bif (decide (0 ≤ s5) && decide (s5 < s0.length)) then rec_ ((s0.set s5.toNat s1), (wrap64 (s1 + (1 : Int))), (wrap64 (s5 + (1 : Int)))) else none) else kx (s0, s1))
/-- loop.example/g00474/laws.markIntS -/
def x_laws_markIntS (N : Nat) (a0 : (List Int)) (a1 : Int) : Option (Int × DenW (.pr (.o 0 I) (.d 1 I))) :=
  (iter (B_laws_markIntS_L0 N (fun (x1, x2) => some (x2, x1, ())) (fun ρ3 => some (ρ3))) N (a0, a1, (0 : Int))).bind fun r => bif (Nat.beq a0.length r.2.1.length && true) then some r else none
abbrev cm_laws_markIntS (N : Nat) : CM := ⟨29, (.pr (.o 0 I) (.d 1 I)), (.t I), fun a => x_laws_markIntS N a.1 a.2⟩
theorem c_laws_markIntS (N : Nat) : CMok Try.prog (cm_laws_markIntS N) :=
  CM_ok (Γ := []) (Θ := []) (Λ := ([⟨0, 1, (.pr (.o 0 I) (.pr (.d 1 I) (.d 5 I))), (.pr (.o 0 I) (.d 1 I)), fun {Ω} kx kr => iter (B_laws_markIntS_L0 N kx kr) N⟩] : List (LC (DenR (.t I) × DenW (.pr (.o 0 I) (.d 1 I)))))) (by kernel_rfl) mixed trivial (by kernel_rfl)
    ⟨LoopEq.mk N (fun Ω kx kr => B_laws_markIntS_L0 N kx kr) (fun Ω g kx kr s => by kernel_rfl), trivial⟩ (by kernel_rfl) (fun a => by kernel_rfl)

/-- a round -/
def B_laws_markText_L0 (N : Nat) {Ω : Type} (kx : DenS (.d 3 .tx) → Option Ω) (kr : ByteArray → Option Ω) (rec_ : DenS (.pr (.d 0 I) (.d 3 .tx)) → Option Ω) : DenS (.pr (.d 0 I) (.d 3 .tx)) → Option Ω := fun (s0, s3) =>
  (bif (decide ((0 : Int) < s0)) then (bif (decide ((txt [((wrap64 ((48 : Int) + (s0.tmod (10 : Int)))) % 256)]).size + s3.size ≤ 4611686018427387904)) then rec_ ((wrap64 (s0.tdiv (10 : Int))), ((txt [((wrap64 ((48 : Int) + (s0.tmod (10 : Int)))) % 256)]) ++ s3)) else none) else kx s3)
/-- loop.example/g00474/laws.markText -/
def x_laws_markText (N : Nat) (a0 : Int) : Option ByteArray :=
  (bif (decide (a0 ≤ (0 : Int))) then some (⟨#[109, 48]⟩ : ByteArray) else iter (B_laws_markText_L0 N (fun x1 => (bif (decide ((⟨#[109]⟩ : ByteArray).size + x1.size ≤ 4611686018427387904)) then some ((⟨#[109]⟩ : ByteArray) ++ x1) else none)) (fun ρ2 => some (ρ2))) N (a0, ByteArray.empty))
abbrev ct_laws_markText (N : Nat) : CT := ⟨141, (.d I), (.t .tx), fun a => x_laws_markText N a⟩
theorem c_laws_markText (N : Nat) : CTok Try.prog (ct_laws_markText N) :=
  CT_ok (Γ := []) (Θ := [(12, (.i .u8))]) (Λ := ([⟨0, 0, (.pr (.d 0 I) (.d 3 .tx)), (.d 3 .tx), fun {Ω} kx kr => iter (B_laws_markText_L0 N kx kr) N⟩] : List (LC (DenR (.t .tx))))) (by kernel_rfl) mixed trivial (by kernel_rfl)
    ⟨LoopEq.mk N (fun Ω kx kr => B_laws_markText_L0 N kx kr) (fun Ω g kx kr s => by kernel_rfl), trivial⟩ (by kernel_rfl) (fun a => by kernel_rfl)

/-- a round -/
def B_laws_markItemS_L0 (N : Nat) {Ω : Type} (kx : DenS (.pr (.o 0 tItem) (.d 1 I)) → Option Ω) (kr : (Int × DenW (.pr (.o 0 tItem) (.d 1 I))) → Option Ω) (rec_ : DenS (.pr (.o 0 tItem) (.pr (.d 1 I) (.d 5 I))) → Option Ω) : DenS (.pr (.o 0 tItem) (.pr (.d 1 I) (.d 5 I))) → Option Ω := fun (s0, s1, s5) =>
  (bif (decide (s5 < (s0.length : Int))) then (x_laws_markText N s1).bind fun r1 => (bif (decide (0 ≤ s5) && decide (s5 < s0.length)) then (bif (decide (0 ≤ s5) && decide (s5 < (s0.set s5.toNat (r1, (s0.getD s5.toNat (dft tItem)).2)).length)) then (let l2 : List (Den tItem) := ((s0.set s5.toNat (r1, (s0.getD s5.toNat (dft tItem)).2)).set s5.toNat (((s0.set s5.toNat (r1, (s0.getD s5.toNat (dft tItem)).2)).getD s5.toNat (dft tItem)).1, (decide (((wrap64 (s1 + (1 : Int))).tmod (3 : Int)) = (0 : Int))))); rec_ (l2, (wrap64 ((wrap64 (s1 + (1 : Int))) + (1 : Int))), (wrap64 (s5 + (1 : Int))))) else none) else none) else kx (s0, s1))
/-- loop.example/g00474/laws.markItemS -/
def x_laws_markItemS (N : Nat) (a0 : (List (Den tItem))) (a1 : Int) : Option (Int × DenW (.pr (.o 0 tItem) (.d 1 I))) :=
  (iter (B_laws_markItemS_L0 N (fun (x3, x4) => some (x4, x3, ())) (fun ρ5 => some (ρ5))) N (a0, a1, (0 : Int))).bind fun r => bif (Nat.beq a0.length r.2.1.length && true) then some r else none
abbrev cm_laws_markItemS (N : Nat) : CM := ⟨63, (.pr (.o 0 tItem) (.d 1 I)), (.t I), fun a => x_laws_markItemS N a.1 a.2⟩
theorem c_laws_markItemS (N : Nat) : CMok Try.prog (cm_laws_markItemS N) :=
  CM_ok (Γ := [.c (ct_laws_markText N)]) (Θ := []) (Λ := ([⟨0, 1, (.pr (.o 0 tItem) (.pr (.d 1 I) (.d 5 I))), (.pr (.o 0 tItem) (.d 1 I)), fun {Ω} kx kr => iter (B_laws_markItemS_L0 N kx kr) N⟩] : List (LC (DenR (.t I) × DenW (.pr (.o 0 tItem) (.d 1 I)))))) (by kernel_rfl) mixed ⟨c_laws_markText N, trivial⟩ (by kernel_rfl)
    ⟨LoopEq.mk N (fun Ω kx kr => B_laws_markItemS_L0 N kx kr) (fun Ω g kx kr s => by kernel_rfl), trivial⟩ (by kernel_rfl) (fun a => by kernel_rfl)

/-- a round -/
def B_laws_markShelfS_L0 (N : Nat) {Ω : Type} (kx : DenS (.pr (.o 0 tShelf) (.d 1 I)) → Option Ω) (kr : (Int × DenW (.pr (.o 0 tShelf) (.d 1 I))) → Option Ω) (rec_ : DenS (.pr (.o 0 tShelf) (.pr (.d 1 I) (.d 5 I))) → Option Ω) : DenS (.pr (.o 0 tShelf) (.pr (.d 1 I) (.d 5 I))) → Option Ω := fun (s0, s1, s5) =>
  (bif (decide (s5 < (s0.length : Int))) then (bif (decide (0 ≤ s5) && decide (s5 < s0.length)) then (bif (decide (0 ≤ s5) && decide (s5 < (s0.set s5.toNat (s1, (s0.getD s5.toNat (dft tShelf)).2)).length)) then (bif (Nat.beq s5.toNat s5.toNat) then (x_laws_markItemS N (((s0.set s5.toNat (s1, (s0.getD s5.toNat (dft tShelf)).2)).getD s5.toNat (dft tShelf)).2) (wrap64 (s1 + (1 : Int)))).bind fun r1 => rec_ (((s0.set s5.toNat (s1, (s0.getD s5.toNat (dft tShelf)).2)).set s5.toNat (((s0.set s5.toNat (s1, (s0.getD s5.toNat (dft tShelf)).2)).getD s5.toNat (dft tShelf)).1, r1.2.1)), r1.1, (wrap64 (s5 + (1 : Int)))) else none) else none) else none) else kx (s0, s1))
/-- loop.example/g00474/laws.markShelfS -/
def x_laws_markShelfS (N : Nat) (a0 : (List (Den tShelf))) (a1 : Int) : Option (Int × DenW (.pr (.o 0 tShelf) (.d 1 I))) :=
  (iter (B_laws_markShelfS_L0 N (fun (x2, x3) => some (x3, x2, ())) (fun ρ4 => some (ρ4))) N (a0, a1, (0 : Int))).bind fun r => bif (Nat.beq a0.length r.2.1.length && true) then some r else none
abbrev cm_laws_markShelfS (N : Nat) : CM := ⟨140, (.pr (.o 0 tShelf) (.d 1 I)), (.t I), fun a => x_laws_markShelfS N a.1 a.2⟩
theorem c_laws_markShelfS (N : Nat) : CMok Try.prog (cm_laws_markShelfS N) :=
  CM_ok (Γ := [.m (cm_laws_markItemS N)]) (Θ := []) (Λ := ([⟨0, 1, (.pr (.o 0 tShelf) (.pr (.d 1 I) (.d 5 I))), (.pr (.o 0 tShelf) (.d 1 I)), fun {Ω} kx kr => iter (B_laws_markShelfS_L0 N kx kr) N⟩] : List (LC (DenR (.t I) × DenW (.pr (.o 0 tShelf) (.d 1 I)))))) (by kernel_rfl) mixed ⟨c_laws_markItemS N, trivial⟩ (by kernel_rfl)
    ⟨LoopEq.mk N (fun Ω kx kr => B_laws_markShelfS_L0 N kx kr) (fun Ω g kx kr s => by kernel_rfl), trivial⟩ (by kernel_rfl) (fun a => by kernel_rfl)

/-- a round -/
def B_laws_markPeerS_L0 (N : Nat) {Ω : Type} (kx : DenS (.pr (.o 0 tPeer) (.d 1 I)) → Option Ω) (kr : (Int × DenW (.pr (.o 0 tPeer) (.d 1 I))) → Option Ω) (rec_ : DenS (.pr (.o 0 tPeer) (.pr (.d 1 I) (.d 5 I))) → Option Ω) : DenS (.pr (.o 0 tPeer) (.pr (.d 1 I) (.d 5 I))) → Option Ω := fun (s0, s1, s5) =>
  (bif (decide (s5 < (s0.length : Int))) then (bif (decide (0 ≤ s5) && decide (s5 < s0.length)) then (bif (decide (0 ≤ s5) && decide (s5 < (s0.set s5.toNat (s1, (s0.getD s5.toNat (dft tPeer)).2)).length)) then (let l1 : List (Den tPeer) := ((s0.set s5.toNat (s1, (s0.getD s5.toNat (dft tPeer)).2)).set s5.toNat (((s0.set s5.toNat (s1, (s0.getD s5.toNat (dft tPeer)).2)).getD s5.toNat (dft tPeer)).1, (decide (((wrap64 (s1 + (1 : Int))).tmod (3 : Int)) = (0 : Int))), (((s0.set s5.toNat (s1, (s0.getD s5.toNat (dft tPeer)).2)).getD s5.toNat (dft tPeer)).2).2)); (bif (decide (0 ≤ s5) && decide (s5 < l1.length)) then (let l2 : List (Den tPeer) := (l1.set s5.toNat ((l1.getD s5.toNat (dft tPeer)).1, ((l1.getD s5.toNat (dft tPeer)).2).1, (wrap64 ((wrap64 (s1 + (1 : Int))) + (1 : Int))), (((l1.getD s5.toNat (dft tPeer)).2).2).2)); (bif (decide (0 ≤ s5) && decide (s5 < l2.length)) then (bif (Nat.beq s5.toNat s5.toNat) then (x_laws_markIntS N (((((l2.getD s5.toNat (dft tPeer)).2).2).2).1) (wrap64 ((wrap64 ((wrap64 (s1 + (1 : Int))) + (1 : Int))) + (1 : Int)))).bind fun r3 => (bif (decide (0 ≤ s5) && decide (s5 < (l2.set s5.toNat ((l2.getD s5.toNat (dft tPeer)).1, ((l2.getD s5.toNat (dft tPeer)).2).1, (((l2.getD s5.toNat (dft tPeer)).2).2).1, r3.2.1, ((((l2.getD s5.toNat (dft tPeer)).2).2).2).2)).length)) then (bif (Nat.beq s5.toNat s5.toNat) then (x_laws_markIntS N (((((((l2.set s5.toNat ((l2.getD s5.toNat (dft tPeer)).1, ((l2.getD s5.toNat (dft tPeer)).2).1, (((l2.getD s5.toNat (dft tPeer)).2).2).1, r3.2.1, ((((l2.getD s5.toNat (dft tPeer)).2).2).2).2)).getD s5.toNat (dft tPeer)).2).2).2).2).1) r3.1).bind fun r4 => (bif (decide (0 ≤ s5) && decide (s5 < ((l2.set s5.toNat ((l2.getD s5.toNat (dft tPeer)).1, ((l2.getD s5.toNat (dft tPeer)).2).1, (((l2.getD s5.toNat (dft tPeer)).2).2).1, r3.2.1, ((((l2.getD s5.toNat (dft tPeer)).2).2).2).2)).set s5.toNat (((l2.set s5.toNat ((l2.getD s5.toNat (dft tPeer)).1, ((l2.getD s5.toNat (dft tPeer)).2).1, (((l2.getD s5.toNat (dft tPeer)).2).2).1, r3.2.1, ((((l2.getD s5.toNat (dft tPeer)).2).2).2).2)).getD s5.toNat (dft tPeer)).1, (((l2.set s5.toNat ((l2.getD s5.toNat (dft tPeer)).1, ((l2.getD s5.toNat (dft tPeer)).2).1, (((l2.getD s5.toNat (dft tPeer)).2).2).1, r3.2.1, ((((l2.getD s5.toNat (dft tPeer)).2).2).2).2)).getD s5.toNat (dft tPeer)).2).1, ((((l2.set s5.toNat ((l2.getD s5.toNat (dft tPeer)).1, ((l2.getD s5.toNat (dft tPeer)).2).1, (((l2.getD s5.toNat (dft tPeer)).2).2).1, r3.2.1, ((((l2.getD s5.toNat (dft tPeer)).2).2).2).2)).getD s5.toNat (dft tPeer)).2).2).1, (((((l2.set s5.toNat ((l2.getD s5.toNat (dft tPeer)).1, ((l2.getD s5.toNat (dft tPeer)).2).1, (((l2.getD s5.toNat (dft tPeer)).2).2).1, r3.2.1, ((((l2.getD s5.toNat (dft tPeer)).2).2).2).2)).getD s5.toNat (dft tPeer)).2).2).2).1, r4.2.1, ((((((l2.set s5.toNat ((l2.getD s5.toNat (dft tPeer)).1, ((l2.getD s5.toNat (dft tPeer)).2).1, (((l2.getD s5.toNat (dft tPeer)).2).2).1, r3.2.1, ((((l2.getD s5.toNat (dft tPeer)).2).2).2).2)).getD s5.toNat (dft tPeer)).2).2).2).2).2)).length)) then (bif (Nat.beq s5.toNat s5.toNat) then (x_laws_markShelfS N ((((((((l2.set s5.toNat ((l2.getD s5.toNat (dft tPeer)).1, ((l2.getD s5.toNat (dft tPeer)).2).1, (((l2.getD s5.toNat (dft tPeer)).2).2).1, r3.2.1, ((((l2.getD s5.toNat (dft tPeer)).2).2).2).2)).set s5.toNat (((l2.set s5.toNat ((l2.getD s5.toNat (dft tPeer)).1, ((l2.getD s5.toNat (dft tPeer)).2).1, (((l2.getD s5.toNat (dft tPeer)).2).2).1, r3.2.1, ((((l2.getD s5.toNat (dft tPeer)).2).2).2).2)).getD s5.toNat (dft tPeer)).1, (((l2.set s5.toNat ((l2.getD s5.toNat (dft tPeer)).1, ((l2.getD s5.toNat (dft tPeer)).2).1, (((l2.getD s5.toNat (dft tPeer)).2).2).1, r3.2.1, ((((l2.getD s5.toNat (dft tPeer)).2).2).2).2)).getD s5.toNat (dft tPeer)).2).1, ((((l2.set s5.toNat ((l2.getD s5.toNat (dft tPeer)).1, ((l2.getD s5.toNat (dft tPeer)).2).1, (((l2.getD s5.toNat (dft tPeer)).2).2).1, r3.2.1, ((((l2.getD s5.toNat (dft tPeer)).2).2).2).2)).getD s5.toNat (dft tPeer)).2).2).1, (((((l2.set s5.toNat ((l2.getD s5.toNat (dft tPeer)).1, ((l2.getD s5.toNat (dft tPeer)).2).1, (((l2.getD s5.toNat (dft tPeer)).2).2).1, r3.2.1, ((((l2.getD s5.toNat (dft tPeer)).2).2).2).2)).getD s5.toNat (dft tPeer)).2).2).2).1, r4.2.1, ((((((l2.set s5.toNat ((l2.getD s5.toNat (dft tPeer)).1, ((l2.getD s5.toNat (dft tPeer)).2).1, (((l2.getD s5.toNat (dft tPeer)).2).2).1, r3.2.1, ((((l2.getD s5.toNat (dft tPeer)).2).2).2).2)).getD s5.toNat (dft tPeer)).2).2).2).2).2)).getD s5.toNat (dft tPeer)).2).2).2).2).2) r4.1).bind fun r5 => rec_ ((((l2.set s5.toNat ((l2.getD s5.toNat (dft tPeer)).1, ((l2.getD s5.toNat (dft tPeer)).2).1, (((l2.getD s5.toNat (dft tPeer)).2).2).1, r3.2.1, ((((l2.getD s5.toNat (dft tPeer)).2).2).2).2)).set s5.toNat (((l2.set s5.toNat ((l2.getD s5.toNat (dft tPeer)).1, ((l2.getD s5.toNat (dft tPeer)).2).1, (((l2.getD s5.toNat (dft tPeer)).2).2).1, r3.2.1, ((((l2.getD s5.toNat (dft tPeer)).2).2).2).2)).getD s5.toNat (dft tPeer)).1, (((l2.set s5.toNat ((l2.getD s5.toNat (dft tPeer)).1, ((l2.getD s5.toNat (dft tPeer)).2).1, (((l2.getD s5.toNat (dft tPeer)).2).2).1, r3.2.1, ((((l2.getD s5.toNat (dft tPeer)).2).2).2).2)).getD s5.toNat (dft tPeer)).2).1, ((((l2.set s5.toNat ((l2.getD s5.toNat (dft tPeer)).1, ((l2.getD s5.toNat (dft tPeer)).2).1, (((l2.getD s5.toNat (dft tPeer)).2).2).1, r3.2.1, ((((l2.getD s5.toNat (dft tPeer)).2).2).2).2)).getD s5.toNat (dft tPeer)).2).2).1, (((((l2.set s5.toNat ((l2.getD s5.toNat (dft tPeer)).1, ((l2.getD s5.toNat (dft tPeer)).2).1, (((l2.getD s5.toNat (dft tPeer)).2).2).1, r3.2.1, ((((l2.getD s5.toNat (dft tPeer)).2).2).2).2)).getD s5.toNat (dft tPeer)).2).2).2).1, r4.2.1, ((((((l2.set s5.toNat ((l2.getD s5.toNat (dft tPeer)).1, ((l2.getD s5.toNat (dft tPeer)).2).1, (((l2.getD s5.toNat (dft tPeer)).2).2).1, r3.2.1, ((((l2.getD s5.toNat (dft tPeer)).2).2).2).2)).getD s5.toNat (dft tPeer)).2).2).2).2).2)).set s5.toNat ((((l2.set s5.toNat ((l2.getD s5.toNat (dft tPeer)).1, ((l2.getD s5.toNat (dft tPeer)).2).1, (((l2.getD s5.toNat (dft tPeer)).2).2).1, r3.2.1, ((((l2.getD s5.toNat (dft tPeer)).2).2).2).2)).set s5.toNat (((l2.set s5.toNat ((l2.getD s5.toNat (dft tPeer)).1, ((l2.getD s5.toNat (dft tPeer)).2).1, (((l2.getD s5.toNat (dft tPeer)).2).2).1, r3.2.1, ((((l2.getD s5.toNat (dft tPeer)).2).2).2).2)).getD s5.toNat (dft tPeer)).1, (((l2.set s5.toNat ((l2.getD s5.toNat (dft tPeer)).1, ((l2.getD s5.toNat (dft tPeer)).2).1, (((l2.getD s5.toNat (dft tPeer)).2).2).1, r3.2.1, ((((l2.getD s5.toNat (dft tPeer)).2).2).2).2)).getD s5.toNat (dft tPeer)).2).1, ((((l2.set s5.toNat ((l2.getD s5.toNat (dft tPeer)).1, ((l2.getD s5.toNat (dft tPeer)).2).1, (((l2.getD s5.toNat (dft tPeer)).2).2).1, r3.2.1, ((((l2.getD s5.toNat (dft tPeer)).2).2).2).2)).getD s5.toNat (dft tPeer)).2).2).1, (((((l2.set s5.toNat ((l2.getD s5.toNat (dft tPeer)).1, ((l2.getD s5.toNat (dft tPeer)).2).1, (((l2.getD s5.toNat (dft tPeer)).2).2).1, r3.2.1, ((((l2.getD s5.toNat (dft tPeer)).2).2).2).2)).getD s5.toNat (dft tPeer)).2).2).2).1, r4.2.1, ((((((l2.set s5.toNat ((l2.getD s5.toNat (dft tPeer)).1, ((l2.getD s5.toNat (dft tPeer)).2).1, (((l2.getD s5.toNat (dft tPeer)).2).2).1, r3.2.1, ((((l2.getD s5.toNat (dft tPeer)).2).2).2).2)).getD s5.toNat (dft tPeer)).2).2).2).2).2)).getD s5.toNat (dft tPeer)).1, ((((l2.set s5.toNat ((l2.getD s5.toNat (dft tPeer)).1, ((l2.getD s5.toNat (dft tPeer)).2).1, (((l2.getD s5.toNat (dft tPeer)).2).2).1, r3.2.1, ((((l2.getD s5.toNat (dft tPeer)).2).2).2).2)).set s5.toNat (((l2.set s5.toNat ((l2.getD s5.toNat (dft tPeer)).1, ((l2.getD s5.toNat (dft tPeer)).2).1, (((l2.getD s5.toNat (dft tPeer)).2).2).1, r3.2.1, ((((l2.getD s5.toNat (dft tPeer)).2).2).2).2)).getD s5.toNat (dft tPeer)).1, (((l2.set s5.toNat ((l2.getD s5.toNat (dft tPeer)).1, ((l2.getD s5.toNat (dft tPeer)).2).1, (((l2.getD s5.toNat (dft tPeer)).2).2).1, r3.2.1, ((((l2.getD s5.toNat (dft tPeer)).2).2).2).2)).getD s5.toNat (dft tPeer)).2).1, ((((l2.set s5.toNat ((l2.getD s5.toNat (dft tPeer)).1, ((l2.getD s5.toNat (dft tPeer)).2).1, (((l2.getD s5.toNat (dft tPeer)).2).2).1, r3.2.1, ((((l2.getD s5.toNat (dft tPeer)).2).2).2).2)).getD s5.toNat (dft tPeer)).2).2).1, (((((l2.set s5.toNat ((l2.getD s5.toNat (dft tPeer)).1, ((l2.getD s5.toNat (dft tPeer)).2).1, (((l2.getD s5.toNat (dft tPeer)).2).2).1, r3.2.1, ((((l2.getD s5.toNat (dft tPeer)).2).2).2).2)).getD s5.toNat (dft tPeer)).2).2).2).1, r4.2.1, ((((((l2.set s5.toNat ((l2.getD s5.toNat (dft tPeer)).1, ((l2.getD s5.toNat (dft tPeer)).2).1, (((l2.getD s5.toNat (dft tPeer)).2).2).1, r3.2.1, ((((l2.getD s5.toNat (dft tPeer)).2).2).2).2)).getD s5.toNat (dft tPeer)).2).2).2).2).2)).getD s5.toNat (dft tPeer)).2).1, (((((l2.set s5.toNat ((l2.getD s5.toNat (dft tPeer)).1, ((l2.getD s5.toNat (dft tPeer)).2).1, (((l2.getD s5.toNat (dft tPeer)).2).2).1, r3.2.1, ((((l2.getD s5.toNat (dft tPeer)).2).2).2).2)).set s5.toNat (((l2.set s5.toNat ((l2.getD s5.toNat (dft tPeer)).1, ((l2.getD s5.toNat (dft tPeer)).2).1, (((l2.getD s5.toNat (dft tPeer)).2).2).1, r3.2.1, ((((l2.getD s5.toNat (dft tPeer)).2).2).2).2)).getD s5.toNat (dft tPeer)).1, (((l2.set s5.toNat ((l2.getD s5.toNat (dft tPeer)).1, ((l2.getD s5.toNat (dft tPeer)).2).1, (((l2.getD s5.toNat (dft tPeer)).2).2).1, r3.2.1, ((((l2.getD s5.toNat (dft tPeer)).2).2).2).2)).getD s5.toNat (dft tPeer)).2).1, ((((l2.set s5.toNat ((l2.getD s5.toNat (dft tPeer)).1, ((l2.getD s5.toNat (dft tPeer)).2).1, (((l2.getD s5.toNat (dft tPeer)).2).2).1, r3.2.1, ((((l2.getD s5.toNat (dft tPeer)).2).2).2).2)).getD s5.toNat (dft tPeer)).2).2).1, (((((l2.set s5.toNat ((l2.getD s5.toNat (dft tPeer)).1, ((l2.getD s5.toNat (dft tPeer)).2).1, (((l2.getD s5.toNat (dft tPeer)).2).2).1, r3.2.1, ((((l2.getD s5.toNat (dft tPeer)).2).2).2).2)).getD s5.toNat (dft tPeer)).2).2).2).1, r4.2.1, ((((((l2.set s5.toNat ((l2.getD s5.toNat (dft tPeer)).1, ((l2.getD s5.toNat (dft tPeer)).2).1, (((l2.getD s5.toNat (dft tPeer)).2).2).1, r3.2.1, ((((l2.getD s5.toNat (dft tPeer)).2).2).2).2)).getD s5.toNat (dft tPeer)).2).2).2).2).2)).getD s5.toNat (dft tPeer)).2).2).1, ((((((l2.set s5.toNat ((l2.getD s5.toNat (dft tPeer)).1, ((l2.getD s5.toNat (dft tPeer)).2).1, (((l2.getD s5.toNat (dft tPeer)).2).2).1, r3.2.1, ((((l2.getD s5.toNat (dft tPeer)).2).2).2).2)).set s5.toNat (((l2.set s5.toNat ((l2.getD s5.toNat (dft tPeer)).1, ((l2.getD s5.toNat (dft tPeer)).2).1, (((l2.getD s5.toNat (dft tPeer)).2).2).1, r3.2.1, ((((l2.getD s5.toNat (dft tPeer)).2).2).2).2)).getD s5.toNat (dft tPeer)).1, (((l2.set s5.toNat ((l2.getD s5.toNat (dft tPeer)).1, ((l2.getD s5.toNat (dft tPeer)).2).1, (((l2.getD s5.toNat (dft tPeer)).2).2).1, r3.2.1, ((((l2.getD s5.toNat (dft tPeer)).2).2).2).2)).getD s5.toNat (dft tPeer)).2).1, ((((l2.set s5.toNat ((l2.getD s5.toNat (dft tPeer)).1, ((l2.getD s5.toNat (dft tPeer)).2).1, (((l2.getD s5.toNat (dft tPeer)).2).2).1, r3.2.1, ((((l2.getD s5.toNat (dft tPeer)).2).2).2).2)).getD s5.toNat (dft tPeer)).2).2).1, (((((l2.set s5.toNat ((l2.getD s5.toNat (dft tPeer)).1, ((l2.getD s5.toNat (dft tPeer)).2).1, (((l2.getD s5.toNat (dft tPeer)).2).2).1, r3.2.1, ((((l2.getD s5.toNat (dft tPeer)).2).2).2).2)).getD s5.toNat (dft tPeer)).2).2).2).1, r4.2.1, ((((((l2.set s5.toNat ((l2.getD s5.toNat (dft tPeer)).1, ((l2.getD s5.toNat (dft tPeer)).2).1, (((l2.getD s5.toNat (dft tPeer)).2).2).1, r3.2.1, ((((l2.getD s5.toNat (dft tPeer)).2).2).2).2)).getD s5.toNat (dft tPeer)).2).2).2).2).2)).getD s5.toNat (dft tPeer)).2).2).2).1, (((((((l2.set s5.toNat ((l2.getD s5.toNat (dft tPeer)).1, ((l2.getD s5.toNat (dft tPeer)).2).1, (((l2.getD s5.toNat (dft tPeer)).2).2).1, r3.2.1, ((((l2.getD s5.toNat (dft tPeer)).2).2).2).2)).set s5.toNat (((l2.set s5.toNat ((l2.getD s5.toNat (dft tPeer)).1, ((l2.getD s5.toNat (dft tPeer)).2).1, (((l2.getD s5.toNat (dft tPeer)).2).2).1, r3.2.1, ((((l2.getD s5.toNat (dft tPeer)).2).2).2).2)).getD s5.toNat (dft tPeer)).1, (((l2.set s5.toNat ((l2.getD s5.toNat (dft tPeer)).1, ((l2.getD s5.toNat (dft tPeer)).2).1, (((l2.getD s5.toNat (dft tPeer)).2).2).1, r3.2.1, ((((l2.getD s5.toNat (dft tPeer)).2).2).2).2)).getD s5.toNat (dft tPeer)).2).1, ((((l2.set s5.toNat ((l2.getD s5.toNat (dft tPeer)).1, ((l2.getD s5.toNat (dft tPeer)).2).1, (((l2.getD s5.toNat (dft tPeer)).2).2).1, r3.2.1, ((((l2.getD s5.toNat (dft tPeer)).2).2).2).2)).getD s5.toNat (dft tPeer)).2).2).1, (((((l2.set s5.toNat ((l2.getD s5.toNat (dft tPeer)).1, ((l2.getD s5.toNat (dft tPeer)).2).1, (((l2.getD s5.toNat (dft tPeer)).2).2).1, r3.2.1, ((((l2.getD s5.toNat (dft tPeer)).2).2).2).2)).getD s5.toNat (dft tPeer)).2).2).2).1, r4.2.1, ((((((l2.set s5.toNat ((l2.getD s5.toNat (dft tPeer)).1, ((l2.getD s5.toNat (dft tPeer)).2).1, (((l2.getD s5.toNat (dft tPeer)).2).2).1, r3.2.1, ((((l2.getD s5.toNat (dft tPeer)).2).2).2).2)).getD s5.toNat (dft tPeer)).2).2).2).2).2)).getD s5.toNat (dft tPeer)).2).2).2).2).1, r5.2.1)), r5.1, (wrap64 (s5 + (1 : Int)))) else none) else none) else none) else none) else none) else none)) else none)) else none) else none) else kx (s0, s1))
/-- loop.example/g00474/laws.markPeerS -/
def x_laws_markPeerS (N : Nat) (a0 : (List (Den tPeer))) (a1 : Int) : Option (Int × DenW (.pr (.o 0 tPeer) (.d 1 I))) :=
  (iter (B_laws_markPeerS_L0 N (fun (x6, x7) => some (x7, x6, ())) (fun ρ8 => some (ρ8))) N (a0, a1, (0 : Int))).bind fun r => bif (Nat.beq a0.length r.2.1.length && true) then some r else none
abbrev cm_laws_markPeerS (N : Nat) : CM := ⟨82, (.pr (.o 0 tPeer) (.d 1 I)), (.t I), fun a => x_laws_markPeerS N a.1 a.2⟩
theorem c_laws_markPeerS (N : Nat) : CMok Try.prog (cm_laws_markPeerS N) :=
  CM_ok (Γ := [.m (cm_laws_markIntS N), .m (cm_laws_markShelfS N)]) (Θ := []) (Λ := ([⟨0, 1, (.pr (.o 0 tPeer) (.pr (.d 1 I) (.d 5 I))), (.pr (.o 0 tPeer) (.d 1 I)), fun {Ω} kx kr => iter (B_laws_markPeerS_L0 N kx kr) N⟩] : List (LC (DenR (.t I) × DenW (.pr (.o 0 tPeer) (.d 1 I)))))) (by kernel_rfl) mixed ⟨c_laws_markIntS N, ⟨c_laws_markShelfS N, trivial⟩⟩ (by kernel_rfl)
    ⟨LoopEq.mk N (fun Ω kx kr => B_laws_markPeerS_L0 N kx kr) (fun Ω g kx kr s => by kernel_rfl), trivial⟩ (by kernel_rfl) (fun a => by kernel_rfl)

/-- loop.example/g00474/laws.markRing -/
def x_laws_markRing (N : Nat) (a0 : (Den tRing)) (a1 : Int) : Option (Int × DenW (.pr (.ow 0 tRing) (.d 1 I))) :=
  ((x_laws_markPeerS N a0 a1).bind fun r1 => some (r1.1, r1.2.1, ())).bind fun r => bif (Nat.beq a0.length r.2.1.length && true) then some r else none
abbrev cm_laws_markRing (N : Nat) : CM := ⟨28, (.pr (.ow 0 tRing) (.d 1 I)), (.t I), fun a => x_laws_markRing N a.1 a.2⟩
theorem c_laws_markRing (N : Nat) : CMok Try.prog (cm_laws_markRing N) :=
  CM_ok (Γ := [.m (cm_laws_markPeerS N)]) (Θ := []) (Λ := ([] : List (LC (DenR (.t I) × DenW (.pr (.ow 0 tRing) (.d 1 I)))))) (by kernel_rfl) mixed ⟨c_laws_markPeerS N, trivial⟩ (by kernel_rfl)
    trivial (by kernel_rfl) (fun a => by kernel_rfl)

/-- a round -/
def B_laws_heldIntS_L0 (N : Nat) {Ω : Type} (kx : DenS (.d 1 I) → Option Ω) (kr : Int → Option Ω) (rec_ : DenS (.pr (.d 0 (.sl I)) (.pr (.d 1 I) (.d 5 I))) → Option Ω) : DenS (.pr (.d 0 (.sl I)) (.pr (.d 1 I) (.d 5 I))) → Option Ω := fun (s0, s1, s5) =>
  (bif (decide (s5 < (s0.length : Int))) then (bif (decide (0 ≤ s5) && decide (s5 < s0.length)) then (bif (!decide ((s0.getD s5.toNat (0 : Int)) = s1)) then kr (-1 : Int) else rec_ (s0, (wrap64 (s1 + (1 : Int))), (wrap64 (s5 + (1 : Int))))) else none) else kx s1)
/-- loop.example/g00474/laws.heldIntS -/
def x_laws_heldIntS (N : Nat) (a0 : (List Int)) (a1 : Int) : Option Int :=
  iter (B_laws_heldIntS_L0 N (fun x1 => some x1) (fun ρ2 => some (ρ2))) N (a0, a1, (0 : Int))
abbrev ct_laws_heldIntS (N : Nat) : CT := ⟨30, (.pr (.d (.sl I)) (.d I)), (.t I), fun a => x_laws_heldIntS N a.1 a.2⟩
theorem c_laws_heldIntS (N : Nat) : CTok Try.prog (ct_laws_heldIntS N) :=
  CT_ok (Γ := []) (Θ := []) (Λ := ([⟨0, 0, (.pr (.d 0 (.sl I)) (.pr (.d 1 I) (.d 5 I))), (.d 1 I), fun {Ω} kx kr => iter (B_laws_heldIntS_L0 N kx kr) N⟩] : List (LC (DenR (.t I))))) (by kernel_rfl) mixed trivial (by kernel_rfl)
    ⟨LoopEq.mk N (fun Ω kx kr => B_laws_heldIntS_L0 N kx kr) (fun Ω g kx kr s => by kernel_rfl), trivial⟩ (by kernel_rfl) (fun a => by kernel_rfl)

/-- a round -/
def B_laws_heldItemS_L0 (N : Nat) {Ω : Type} (kx : DenS (.d 1 I) → Option Ω) (kr : Int → Option Ω) (rec_ : DenS (.pr (.d 0 (.sl tItem)) (.pr (.d 1 I) (.d 5 I))) → Option Ω) : DenS (.pr (.d 0 (.sl tItem)) (.pr (.d 1 I) (.d 5 I))) → Option Ω := fun (s0, s1, s5) =>
  (bif (decide (s5 < (s0.length : Int))) then (bif (decide (0 ≤ s5) && decide (s5 < s0.length)) then (x_laws_markText N s1).bind fun r1 => (bif (!decide (((s0.getD s5.toNat (dft tItem)).1) = r1)) then kr (-1 : Int) else (bif (decide (0 ≤ s5) && decide (s5 < s0.length)) then (bif (!(((s0.getD s5.toNat (dft tItem)).2) == (decide (((wrap64 (s1 + (1 : Int))).tmod (3 : Int)) = (0 : Int))))) then kr (-1 : Int) else rec_ (s0, (wrap64 ((wrap64 (s1 + (1 : Int))) + (1 : Int))), (wrap64 (s5 + (1 : Int))))) else none)) else none) else kx s1)
/-- loop.example/g00474/laws.heldItemS -/
def x_laws_heldItemS (N : Nat) (a0 : (List (Den tItem))) (a1 : Int) : Option Int :=
  iter (B_laws_heldItemS_L0 N (fun x2 => some x2) (fun ρ3 => some (ρ3))) N (a0, a1, (0 : Int))
abbrev ct_laws_heldItemS (N : Nat) : CT := ⟨200, (.pr (.d (.sl tItem)) (.d I)), (.t I), fun a => x_laws_heldItemS N a.1 a.2⟩
theorem c_laws_heldItemS (N : Nat) : CTok Try.prog (ct_laws_heldItemS N) :=
  CT_ok (Γ := [.c (ct_laws_markText N)]) (Θ := []) (Λ := ([⟨0, 0, (.pr (.d 0 (.sl tItem)) (.pr (.d 1 I) (.d 5 I))), (.d 1 I), fun {Ω} kx kr => iter (B_laws_heldItemS_L0 N kx kr) N⟩] : List (LC (DenR (.t I))))) (by kernel_rfl) mixed ⟨c_laws_markText N, trivial⟩ (by kernel_rfl)
    ⟨LoopEq.mk N (fun Ω kx kr => B_laws_heldItemS_L0 N kx kr) (fun Ω g kx kr s => by kernel_rfl), trivial⟩ (by kernel_rfl) (fun a => by kernel_rfl)

/-- a round -/
def B_laws_heldShelfS_L0 (N : Nat) {Ω : Type} (kx : DenS (.d 1 I) → Option Ω) (kr : Int → Option Ω) (rec_ : DenS (.pr (.d 0 (.sl tShelf)) (.pr (.d 1 I) (.d 5 I))) → Option Ω) : DenS (.pr (.d 0 (.sl tShelf)) (.pr (.d 1 I) (.d 5 I))) → Option Ω := fun (s0, s1, s5) =>
  (bif (decide (s5 < (s0.length : Int))) then (bif (decide (0 ≤ s5) && decide (s5 < s0.length)) then (bif (!decide (((s0.getD s5.toNat (dft tShelf)).1) = s1)) then kr (-1 : Int) else (bif (decide (0 ≤ s5) && decide (s5 < s0.length)) then (x_laws_heldItemS N ((s0.getD s5.toNat (dft tShelf)).2) (wrap64 (s1 + (1 : Int)))).bind fun r1 => (bif (decide (r1 < (0 : Int))) then kr (-1 : Int) else rec_ (s0, r1, (wrap64 (s5 + (1 : Int))))) else none)) else none) else kx s1)
/-- loop.example/g00474/laws.heldShelfS -/
def x_laws_heldShelfS (N : Nat) (a0 : (List (Den tShelf))) (a1 : Int) : Option Int :=
  iter (B_laws_heldShelfS_L0 N (fun x2 => some x2) (fun ρ3 => some (ρ3))) N (a0, a1, (0 : Int))
abbrev ct_laws_heldShelfS (N : Nat) : CT := ⟨142, (.pr (.d (.sl tShelf)) (.d I)), (.t I), fun a => x_laws_heldShelfS N a.1 a.2⟩
theorem c_laws_heldShelfS (N : Nat) : CTok Try.prog (ct_laws_heldShelfS N) :=
  CT_ok (Γ := [.c (ct_laws_heldItemS N)]) (Θ := []) (Λ := ([⟨0, 0, (.pr (.d 0 (.sl tShelf)) (.pr (.d 1 I) (.d 5 I))), (.d 1 I), fun {Ω} kx kr => iter (B_laws_heldShelfS_L0 N kx kr) N⟩] : List (LC (DenR (.t I))))) (by kernel_rfl) mixed ⟨c_laws_heldItemS N, trivial⟩ (by kernel_rfl)
    ⟨LoopEq.mk N (fun Ω kx kr => B_laws_heldShelfS_L0 N kx kr) (fun Ω g kx kr s => by kernel_rfl), trivial⟩ (by kernel_rfl) (fun a => by kernel_rfl)

/-- a round -/
def B_laws_heldPeerS_L0 (N : Nat) {Ω : Type} (kx : DenS (.d 1 I) → Option Ω) (kr : Int → Option Ω) (rec_ : DenS (.pr (.d 0 (.sl tPeer)) (.pr (.d 1 I) (.d 5 I))) → Option Ω) : DenS (.pr (.d 0 (.sl tPeer)) (.pr (.d 1 I) (.d 5 I))) → Option Ω := fun (s0, s1, s5) =>
  (bif (decide (s5 < (s0.length : Int))) then (bif (decide (0 ≤ s5) && decide (s5 < s0.length)) then (bif (!decide (((s0.getD s5.toNat (dft tPeer)).1) = s1)) then kr (-1 : Int) else (bif (decide (0 ≤ s5) && decide (s5 < s0.length)) then (bif (!((((s0.getD s5.toNat (dft tPeer)).2).1) == (decide (((wrap64 (s1 + (1 : Int))).tmod (3 : Int)) = (0 : Int))))) then kr (-1 : Int) else (bif (decide (0 ≤ s5) && decide (s5 < s0.length)) then (bif (!decide (((((s0.getD s5.toNat (dft tPeer)).2).2).1) = (wrap64 ((wrap64 (s1 + (1 : Int))) + (1 : Int))))) then kr (-1 : Int) else (bif (decide (0 ≤ s5) && decide (s5 < s0.length)) then (x_laws_heldIntS N (((((s0.getD s5.toNat (dft tPeer)).2).2).2).1) (wrap64 ((wrap64 ((wrap64 (s1 + (1 : Int))) + (1 : Int))) + (1 : Int)))).bind fun r1 => (bif (decide (r1 < (0 : Int))) then kr (-1 : Int) else (bif (decide (0 ≤ s5) && decide (s5 < s0.length)) then (x_laws_heldIntS N ((((((s0.getD s5.toNat (dft tPeer)).2).2).2).2).1) r1).bind fun r2 => (bif (decide (r2 < (0 : Int))) then kr (-1 : Int) else (bif (decide (0 ≤ s5) && decide (s5 < s0.length)) then (x_laws_heldShelfS N ((((((s0.getD s5.toNat (dft tPeer)).2).2).2).2).2) r2).bind fun r3 => (bif (decide (r3 < (0 : Int))) then kr (-1 : Int) else rec_ (s0, r3, (wrap64 (s5 + (1 : Int))))) else none)) else none)) else none)) else none)) else none)) else none) else kx s1)
/-- loop.example/g00474/laws.heldPeerS -/
def x_laws_heldPeerS (N : Nat) (a0 : (List (Den tPeer))) (a1 : Int) : Option Int :=
  iter (B_laws_heldPeerS_L0 N (fun x4 => some x4) (fun ρ5 => some (ρ5))) N (a0, a1, (0 : Int))
abbrev ct_laws_heldPeerS (N : Nat) : CT := ⟨116, (.pr (.d (.sl tPeer)) (.d I)), (.t I), fun a => x_laws_heldPeerS N a.1 a.2⟩
theorem c_laws_heldPeerS (N : Nat) : CTok Try.prog (ct_laws_heldPeerS N) :=
  CT_ok (Γ := [.c (ct_laws_heldIntS N), .c (ct_laws_heldShelfS N)]) (Θ := []) (Λ := ([⟨0, 0, (.pr (.d 0 (.sl tPeer)) (.pr (.d 1 I) (.d 5 I))), (.d 1 I), fun {Ω} kx kr => iter (B_laws_heldPeerS_L0 N kx kr) N⟩] : List (LC (DenR (.t I))))) (by kernel_rfl) mixed ⟨c_laws_heldIntS N, ⟨c_laws_heldShelfS N, trivial⟩⟩ (by kernel_rfl)
    ⟨LoopEq.mk N (fun Ω kx kr => B_laws_heldPeerS_L0 N kx kr) (fun Ω g kx kr s => by kernel_rfl), trivial⟩ (by kernel_rfl) (fun a => by kernel_rfl)

/-- loop.example/g00474/laws.heldRing -/
def x_laws_heldRing (N : Nat) (a0 : (Den tRing)) (a1 : Int) : Option Int :=
  (x_laws_heldPeerS N a0 a1).bind fun r1 => (bif (decide (r1 < (0 : Int))) then some (-1 : Int) else some r1)
abbrev ct_laws_heldRing (N : Nat) : CT := ⟨48, (.pr (.d tRing) (.d I)), (.t I), fun a => x_laws_heldRing N a.1 a.2⟩
theorem c_laws_heldRing (N : Nat) : CTok Try.prog (ct_laws_heldRing N) :=
  CT_ok (Γ := [.c (ct_laws_heldPeerS N)]) (Θ := []) (Λ := ([] : List (LC (DenR (.t I))))) (by kernel_rfl) mixed ⟨c_laws_heldPeerS N, trivial⟩ (by kernel_rfl)
    trivial (by kernel_rfl) (fun a => by kernel_rfl)

/-- loop.example/g00474/laws.FnExactSettle -/
def x_laws_FnExactSettle (N : Nat) (a0 : (Den tRing)) (a1 : Int) : Option Bool :=
  (x_laws_szRing N a0 (1048576 : Int)).bind fun r1 => (bif (decide (r1 < (0 : Int))) then some true else (x_laws_toRing N a0).bind fun r2 => (x_spec_Settle N r2 a1).bind fun r3 => (x_laws_toRing N a0).bind fun r4 => (x_impl_Settle N r4 a1).bind fun r5 => (x_laws_eqRing N r5.1 r3.1).bind fun r6 => (bif (!r6) then some false else (bif (!(r5.2 == r3.2)) then some false else (x_laws_toRing N a0).bind fun r7 => (x_laws_eqRing N r4 r7).bind fun r8 => (bif (!r8) then some false else (x_laws_markRing N r4 (1 : Int)).bind fun r9 => (bif (decide (r9.1 < (0 : Int))) then some false else (x_laws_eqRing N r5.1 r3.1).bind fun r10 => (bif (!r10) then some false else (bif (!(r5.2 == r3.2)) then some false else (x_laws_markRing N r5.1 (1 : Int)).bind fun r11 => (x_laws_heldRing N r11.2.1 (1 : Int)).bind fun r12 => (bif (decide (r12 < (0 : Int))) then some false else (bif (!decide (r12 = r11.1)) then some false else (x_laws_toRing N a0).bind fun r13 => (x_impl_Settle N r13 a1).bind fun r14 => (x_laws_eqRing N r14.1 r3.1).bind fun r15 => (bif (!r15) then some false else (bif (!(r14.2 == r3.2)) then some false else (x_laws_heldRing N r11.2.1 (1 : Int)).bind fun r16 => (bif (decide (r16 < (0 : Int))) then some false else (bif (!decide (r16 = r11.1)) then some false else some true)))))))))))))
abbrev ct_laws_FnExactSettle (N : Nat) : CT := ⟨8, (.pr (.d tRing) (.d I)), (.t .bl), fun a => x_laws_FnExactSettle N a.1 a.2⟩
theorem c_laws_FnExactSettle (N : Nat) : CTok Try.prog (ct_laws_FnExactSettle N) :=
  CT_ok (Γ := [.c (ct_laws_szRing N), .c (ct_laws_toRing N), .c (ct_spec_Settle N), .c (ct_impl_Settle N), .c (ct_laws_eqRing N), .m (cm_laws_markRing N), .c (ct_laws_heldRing N)]) (Θ := []) (Λ := ([] : List (LC (DenR (.t .bl))))) (by kernel_rfl) mixed ⟨c_laws_szRing N, ⟨c_laws_toRing N, ⟨c_spec_Settle N, ⟨c_impl_Settle N, ⟨c_laws_eqRing N, ⟨c_laws_markRing N, ⟨c_laws_heldRing N, trivial⟩⟩⟩⟩⟩⟩⟩ (by kernel_rfl)
    trivial (by kernel_rfl) (fun a => by kernel_rfl)

end
end Go.Proofs.Ytcmlapepofgkpaa.C
