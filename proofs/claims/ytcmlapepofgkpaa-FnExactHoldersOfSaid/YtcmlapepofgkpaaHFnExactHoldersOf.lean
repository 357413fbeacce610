/- Each function of the program that is reached computes the datum printed here: no condition beyond the arguments that its contract names. -/
import Derived.Test.YtcmlapepofgkpaaNxq
import Derived.Test.YtcmlapepofgkpaaChecked
import Derived.KernelRfl
namespace Go.Proofs.Ytcmlapepofgkpaa.C
open Go Go.Proofs.Ytcmlapepofgkpaa.Nx Go.RowKit
set_option maxRecDepth 100000
set_option linter.unusedVariables false
abbrev I : Ty := .i .i64
abbrev tItem : Ty := (.st (.pr .tx .bl))
abbrev tShelf : Ty := (.st (.pr I (.sl tItem)))
abbrev tPeer : Ty := (.st (.pr I (.pr .bl (.pr I (.pr (.sl I) (.pr (.sl I) (.sl tShelf)))))))
abbrev tRing : Ty := (.st (.sl tPeer))
theorem mixed : Try.prog.follows .mixedOrders = true := by kernel_rfl

/-- loop.example/g00474/laws.szIntS -/
def x_laws_szIntS (N : Nat) (a0 : (List Int)) (a1 : Int) : Option Int :=
  (bif (decide ((wrap64 (a1 - (a0.length : Int))) < (0 : Int))) then some (-1 : Int) else some (wrap64 (a1 - (a0.length : Int))))
abbrev ct_laws_szIntS (N : Nat) : CT := ⟨125, (.pr (.d (.sl I)) (.d I)), (.t I), fun a => x_laws_szIntS N a.1 a.2⟩
theorem c_laws_szIntS (N : Nat) : CTok Try.prog (ct_laws_szIntS N) :=
  CT_ok (Γ := []) (Θ := []) (Λ := ([] : List (LC (DenR (.t I))))) (by kernel_rfl) mixed trivial (by kernel_rfl)
    trivial (by kernel_rfl) (fun a => by kernel_rfl)

/-- loop.example/g00474/laws.szItem -/
def x_laws_szItem (N : Nat) (a0 : (Den tItem)) (a1 : Int) : Option Int :=
  (bif (decide ((wrap64 (a1 - (a0.1.size : Int))) < (0 : Int))) then some (-1 : Int) else some (wrap64 (a1 - (a0.1.size : Int))))
abbrev ct_laws_szItem (N : Nat) : CT := ⟨127, (.pr (.d tItem) (.d I)), (.t I), fun a => x_laws_szItem N a.1 a.2⟩
theorem c_laws_szItem (N : Nat) : CTok Try.prog (ct_laws_szItem N) :=
  CT_ok (Γ := []) (Θ := []) (Λ := ([] : List (LC (DenR (.t I))))) (by kernel_rfl) mixed trivial (by kernel_rfl)
    trivial (by kernel_rfl) (fun a => by kernel_rfl)

/-- a round -/
def B_laws_szItemS_L0 (N : Nat) {Ω : Type} (kx : DenS (.d 1 I) → Option Ω) (kr : Int → Option Ω) (rec_ : DenS (.pr (.d 0 (.sl tItem)) (.pr (.d 1 I) (.d 5 I))) → Option Ω) : DenS (.pr (.d 0 (.sl tItem)) (.pr (.d 1 I) (.d 5 I))) → Option Ω := fun (s0, s1, s5) =>
  (bif (decide (s5 < (s0.length : Int))) then (bif (decide (0 ≤ s5) && decide (s5 < s0.length)) then (x_laws_szItem N (s0.getD s5.toNat (dft tItem)) s1).bind fun r1 => (bif (decide (r1 < (0 : Int))) then kr (-1 : Int) else rec_ (s0, r1, (wrap64 (s5 + (1 : Int))))) else none) else kx s1)
/-- loop.example/g00474/laws.szItemS -/
def x_laws_szItemS (N : Nat) (a0 : (List (Den tItem))) (a1 : Int) : Option Int :=
  (bif (decide ((wrap64 (a1 - (a0.length : Int))) < (0 : Int))) then some (-1 : Int) else iter (B_laws_szItemS_L0 N (fun x2 => some x2) (fun ρ3 => some (ρ3))) N (a0, (wrap64 (a1 - (a0.length : Int))), (0 : Int)))
abbrev ct_laws_szItemS (N : Nat) : CT := ⟨55, (.pr (.d (.sl tItem)) (.d I)), (.t I), fun a => x_laws_szItemS N a.1 a.2⟩
theorem c_laws_szItemS (N : Nat) : CTok Try.prog (ct_laws_szItemS N) :=
  CT_ok (Γ := [.c (ct_laws_szItem N)]) (Θ := []) (Λ := ([⟨0, 0, (.pr (.d 0 (.sl tItem)) (.pr (.d 1 I) (.d 5 I))), (.d 1 I), fun {Ω} kx kr => iter (B_laws_szItemS_L0 N kx kr) N⟩] : List (LC (DenR (.t I))))) (by kernel_rfl) mixed ⟨c_laws_szItem N, trivial⟩ (by kernel_rfl)
    ⟨LoopEq.mk N (fun Ω kx kr => B_laws_szItemS_L0 N kx kr) (fun Ω g kx kr s => by kernel_rfl), trivial⟩ (by kernel_rfl) (fun a => by kernel_rfl)

/-- loop.example/g00474/laws.szShelf -/
def x_laws_szShelf (N : Nat) (a0 : (Den tShelf)) (a1 : Int) : Option Int :=
  (x_laws_szItemS N a0.2 a1).bind fun r1 => (bif (decide (r1 < (0 : Int))) then some (-1 : Int) else some r1)
abbrev ct_laws_szShelf (N : Nat) : CT := ⟨184, (.pr (.d tShelf) (.d I)), (.t I), fun a => x_laws_szShelf N a.1 a.2⟩
theorem c_laws_szShelf (N : Nat) : CTok Try.prog (ct_laws_szShelf N) :=
  CT_ok (Γ := [.c (ct_laws_szItemS N)]) (Θ := []) (Λ := ([] : List (LC (DenR (.t I))))) (by kernel_rfl) mixed ⟨c_laws_szItemS N, trivial⟩ (by kernel_rfl)
    trivial (by kernel_rfl) (fun a => by kernel_rfl)

/-- a round -/
def B_laws_szShelfS_L0 (N : Nat) {Ω : Type} (kx : DenS (.d 1 I) → Option Ω) (kr : Int → Option Ω) (rec_ : DenS (.pr (.d 0 (.sl tShelf)) (.pr (.d 1 I) (.d 5 I))) → Option Ω) : DenS (.pr (.d 0 (.sl tShelf)) (.pr (.d 1 I) (.d 5 I))) → Option Ω := fun (s0, s1, s5) =>
  (bif (decide (s5 < (s0.length : Int))) then (bif (decide (0 ≤ s5) && decide (s5 < s0.length)) then (x_laws_szShelf N (s0.getD s5.toNat (dft tShelf)) s1).bind fun r1 => (bif (decide (r1 < (0 : Int))) then kr (-1 : Int) else rec_ (s0, r1, (wrap64 (s5 + (1 : Int))))) else none) else kx s1)
/-- loop.example/g00474/laws.szShelfS -/
def x_laws_szShelfS (N : Nat) (a0 : (List (Den tShelf))) (a1 : Int) : Option Int :=
  (bif (decide ((wrap64 (a1 - (a0.length : Int))) < (0 : Int))) then some (-1 : Int) else iter (B_laws_szShelfS_L0 N (fun x2 => some x2) (fun ρ3 => some (ρ3))) N (a0, (wrap64 (a1 - (a0.length : Int))), (0 : Int)))
abbrev ct_laws_szShelfS (N : Nat) : CT := ⟨126, (.pr (.d (.sl tShelf)) (.d I)), (.t I), fun a => x_laws_szShelfS N a.1 a.2⟩
theorem c_laws_szShelfS (N : Nat) : CTok Try.prog (ct_laws_szShelfS N) :=
  CT_ok (Γ := [.c (ct_laws_szShelf N)]) (Θ := []) (Λ := ([⟨0, 0, (.pr (.d 0 (.sl tShelf)) (.pr (.d 1 I) (.d 5 I))), (.d 1 I), fun {Ω} kx kr => iter (B_laws_szShelfS_L0 N kx kr) N⟩] : List (LC (DenR (.t I))))) (by kernel_rfl) mixed ⟨c_laws_szShelf N, trivial⟩ (by kernel_rfl)
    ⟨LoopEq.mk N (fun Ω kx kr => B_laws_szShelfS_L0 N kx kr) (fun Ω g kx kr s => by kernel_rfl), trivial⟩ (by kernel_rfl) (fun a => by kernel_rfl)

/-- loop.example/g00474/laws.szPeer -/
def x_laws_szPeer (N : Nat) (a0 : (Den tPeer)) (a1 : Int) : Option Int :=
  (x_laws_szIntS N a0.2.2.2.1 a1).bind fun r1 => (bif (decide (r1 < (0 : Int))) then some (-1 : Int) else (x_laws_szIntS N a0.2.2.2.2.1 r1).bind fun r2 => (bif (decide (r2 < (0 : Int))) then some (-1 : Int) else (x_laws_szShelfS N a0.2.2.2.2.2 r2).bind fun r3 => (bif (decide (r3 < (0 : Int))) then some (-1 : Int) else some r3)))
abbrev ct_laws_szPeer (N : Nat) : CT := ⟨54, (.pr (.d tPeer) (.d I)), (.t I), fun a => x_laws_szPeer N a.1 a.2⟩
theorem c_laws_szPeer (N : Nat) : CTok Try.prog (ct_laws_szPeer N) :=
  CT_ok (Γ := [.c (ct_laws_szIntS N), .c (ct_laws_szShelfS N)]) (Θ := []) (Λ := ([] : List (LC (DenR (.t I))))) (by kernel_rfl) mixed ⟨c_laws_szIntS N, ⟨c_laws_szShelfS N, trivial⟩⟩ (by kernel_rfl)
    trivial (by kernel_rfl) (fun a => by kernel_rfl)

/-- a round -/
def B_laws_szPeerS_L0 (N : Nat) {Ω : Type} (kx : DenS (.d 1 I) → Option Ω) (kr : Int → Option Ω) (rec_ : DenS (.pr (.d 0 (.sl tPeer)) (.pr (.d 1 I) (.d 5 I))) → Option Ω) : DenS (.pr (.d 0 (.sl tPeer)) (.pr (.d 1 I) (.d 5 I))) → Option Ω := fun (s0, s1, s5) =>
  (bif (decide (s5 < (s0.length : Int))) then (bif (decide (0 ≤ s5) && decide (s5 < s0.length)) then (x_laws_szPeer N (s0.getD s5.toNat (dft tPeer)) s1).bind fun r1 => (bif (decide (r1 < (0 : Int))) then kr (-1 : Int) else rec_ (s0, r1, (wrap64 (s5 + (1 : Int))))) else none) else kx s1)
/-- loop.example/g00474/laws.szPeerS -/
def x_laws_szPeerS (N : Nat) (a0 : (List (Den tPeer))) (a1 : Int) : Option Int :=
  (bif (decide ((wrap64 (a1 - (a0.length : Int))) < (0 : Int))) then some (-1 : Int) else iter (B_laws_szPeerS_L0 N (fun x2 => some x2) (fun ρ3 => some (ρ3))) N (a0, (wrap64 (a1 - (a0.length : Int))), (0 : Int)))
abbrev ct_laws_szPeerS (N : Nat) : CT := ⟨75, (.pr (.d (.sl tPeer)) (.d I)), (.t I), fun a => x_laws_szPeerS N a.1 a.2⟩
theorem c_laws_szPeerS (N : Nat) : CTok Try.prog (ct_laws_szPeerS N) :=
  CT_ok (Γ := [.c (ct_laws_szPeer N)]) (Θ := []) (Λ := ([⟨0, 0, (.pr (.d 0 (.sl tPeer)) (.pr (.d 1 I) (.d 5 I))), (.d 1 I), fun {Ω} kx kr => iter (B_laws_szPeerS_L0 N kx kr) N⟩] : List (LC (DenR (.t I))))) (by kernel_rfl) mixed ⟨c_laws_szPeer N, trivial⟩ (by kernel_rfl)
    ⟨LoopEq.mk N (fun Ω kx kr => B_laws_szPeerS_L0 N kx kr) (fun Ω g kx kr s => by kernel_rfl), trivial⟩ (by kernel_rfl) (fun a => by kernel_rfl)

/-- loop.example/g00474/laws.szRing -/
def x_laws_szRing (N : Nat) (a0 : (Den tRing)) (a1 : Int) : Option Int :=
  (x_laws_szPeerS N a0 a1).bind fun r1 => (bif (decide (r1 < (0 : Int))) then some (-1 : Int) else some r1)
abbrev ct_laws_szRing (N : Nat) : CT := ⟨22, (.pr (.d tRing) (.d I)), (.t I), fun a => x_laws_szRing N a.1 a.2⟩
theorem c_laws_szRing (N : Nat) : CTok Try.prog (ct_laws_szRing N) :=
  CT_ok (Γ := [.c (ct_laws_szPeerS N)]) (Θ := []) (Λ := ([] : List (LC (DenR (.t I))))) (by kernel_rfl) mixed ⟨c_laws_szPeerS N, trivial⟩ (by kernel_rfl)
    trivial (by kernel_rfl) (fun a => by kernel_rfl)

/-- a round -/
def B_laws_toIntS_L0 (N : Nat) {Ω : Type} (kx : DenS (.o 3 I) → Option Ω) (kr : (List Int) → Option Ω) (rec_ : DenS (.pr (.d 0 (.sl I)) (.pr (.o 3 I) (.d 4 I))) → Option Ω) : DenS (.pr (.d 0 (.sl I)) (.pr (.o 3 I) (.d 4 I))) → Option Ω := fun (s0, s3, s4) =>
  (bif (decide (s4 < (s0.length : Int))) then (bif (decide (0 ≤ s4) && decide (s4 < s0.length)) then (bif (decide (0 ≤ s4) && decide (s4 < s3.length)) then rec_ (s0, (s3.set s4.toNat (s0.getD s4.toNat (0 : Int))), (wrap64 (s4 + (1 : Int)))) else none) else none) else kx s3)
/-- loop.example/g00474/laws.toIntS -/
def x_laws_toIntS (N : Nat) (a0 : (List Int)) : Option (List Int) :=
  (bif (decide ((a0.length : Int) = (a0.length : Int)) && (decide (0 ≤ (a0.length : Int)) && (decide ((a0.length : Int) * (8 : Nat) ≤ 140737488355328) && decide ((a0.length : Int) ≤ 9223372036854775807)))) then iter (B_laws_toIntS_L0 N (fun x1 => some x1) (fun ρ2 => some (ρ2))) N (a0, (List.replicate (a0.length : Int).toNat (0 : Int)), (0 : Int)) else none)
abbrev ct_laws_toIntS (N : Nat) : CT := ⟨50, (.d (.sl I)), (.t (.sl I)), fun a => x_laws_toIntS N a⟩
theorem c_laws_toIntS (N : Nat) : CTok Try.prog (ct_laws_toIntS N) :=
  CT_ok (Γ := []) (Θ := [(7, I)]) (Λ := ([⟨0, 0, (.pr (.d 0 (.sl I)) (.pr (.o 3 I) (.d 4 I))), (.o 3 I), fun {Ω} kx kr => iter (B_laws_toIntS_L0 N kx kr) N⟩] : List (LC (DenR (.t (.sl I)))))) (by kernel_rfl) mixed trivial (by kernel_rfl)
    ⟨LoopEq.mk N (fun Ω kx kr => B_laws_toIntS_L0 N kx kr) (fun Ω g kx kr s => by kernel_rfl), trivial⟩ (by kernel_rfl) (fun a => by kernel_rfl)

/-- loop.example/g00474/laws.toItem -/
def x_laws_toItem (N : Nat) (a0 : (Den tItem)) : Option (Den tItem) :=
  some a0
abbrev ct_laws_toItem (N : Nat) : CT := ⟨133, (.d tItem), (.t tItem), fun a => x_laws_toItem N a⟩
theorem c_laws_toItem (N : Nat) : CTok Try.prog (ct_laws_toItem N) :=
  CT_ok (Γ := []) (Θ := []) (Λ := ([] : List (LC (DenR (.t tItem))))) (by kernel_rfl) mixed trivial (by kernel_rfl)
    trivial (by kernel_rfl) (fun a => by kernel_rfl)

/-- a round -/
def B_laws_toItemS_L0 (N : Nat) {Ω : Type} (kx : DenS (.o 3 tItem) → Option Ω) (kr : (List (Den tItem)) → Option Ω) (rec_ : DenS (.pr (.d 0 (.sl tItem)) (.pr (.o 3 tItem) (.d 4 I))) → Option Ω) : DenS (.pr (.d 0 (.sl tItem)) (.pr (.o 3 tItem) (.d 4 I))) → Option Ω := fun (s0, s3, s4) =>
  (bif (decide (s4 < (s0.length : Int))) then (bif (decide (0 ≤ s4) && decide (s4 < s0.length)) then (x_laws_toItem N (s0.getD s4.toNat (dft tItem))).bind fun r1 => (bif (decide (0 ≤ s4) && decide (s4 < s3.length)) then rec_ (s0, (s3.set s4.toNat r1), (wrap64 (s4 + (1 : Int)))) else none) else none) else kx s3)
/-- loop.example/g00474/laws.toItemS -/
def x_laws_toItemS (N : Nat) (a0 : (List (Den tItem))) : Option (List (Den tItem)) :=
  (bif (decide ((a0.length : Int) = (a0.length : Int)) && (decide (0 ≤ (a0.length : Int)) && (decide ((a0.length : Int) * (24 : Nat) ≤ 140737488355328) && decide ((a0.length : Int) ≤ 9223372036854775807)))) then iter (B_laws_toItemS_L0 N (fun x2 => some x2) (fun ρ3 => some (ρ3))) N (a0, (List.replicate (a0.length : Int).toNat (dft tItem)), (0 : Int)) else none)
abbrev ct_laws_toItemS (N : Nat) : CT := ⟨58, (.d (.sl tItem)), (.t (.sl tItem)), fun a => x_laws_toItemS N a⟩
theorem c_laws_toItemS (N : Nat) : CTok Try.prog (ct_laws_toItemS N) :=
  CT_ok (Γ := [.c (ct_laws_toItem N)]) (Θ := [(7, tItem)]) (Λ := ([⟨0, 0, (.pr (.d 0 (.sl tItem)) (.pr (.o 3 tItem) (.d 4 I))), (.o 3 tItem), fun {Ω} kx kr => iter (B_laws_toItemS_L0 N kx kr) N⟩] : List (LC (DenR (.t (.sl tItem)))))) (by kernel_rfl) mixed ⟨c_laws_toItem N, trivial⟩ (by kernel_rfl)
    ⟨LoopEq.mk N (fun Ω kx kr => B_laws_toItemS_L0 N kx kr) (fun Ω g kx kr s => by kernel_rfl), trivial⟩ (by kernel_rfl) (fun a => by kernel_rfl)

/-- loop.example/g00474/laws.toShelf -/
def x_laws_toShelf (N : Nat) (a0 : (Den tShelf)) : Option (Den tShelf) :=
  (x_laws_toItemS N a0.2).bind fun r1 => some (a0.1, r1)
abbrev ct_laws_toShelf (N : Nat) : CT := ⟨187, (.d tShelf), (.t tShelf), fun a => x_laws_toShelf N a⟩
theorem c_laws_toShelf (N : Nat) : CTok Try.prog (ct_laws_toShelf N) :=
  CT_ok (Γ := [.c (ct_laws_toItemS N)]) (Θ := []) (Λ := ([] : List (LC (DenR (.t tShelf))))) (by kernel_rfl) mixed ⟨c_laws_toItemS N, trivial⟩ (by kernel_rfl)
    trivial (by kernel_rfl) (fun a => by kernel_rfl)

/-- a round -/
def B_laws_toShelfS_L0 (N : Nat) {Ω : Type} (kx : DenS (.o 3 tShelf) → Option Ω) (kr : (List (Den tShelf)) → Option Ω) (rec_ : DenS (.pr (.d 0 (.sl tShelf)) (.pr (.o 3 tShelf) (.d 4 I))) → Option Ω) : DenS (.pr (.d 0 (.sl tShelf)) (.pr (.o 3 tShelf) (.d 4 I))) → Option Ω := fun (s0, s3, s4) =>
  (bif (decide (s4 < (s0.length : Int))) then (bif (decide (0 ≤ s4) && decide (s4 < s0.length)) then (x_laws_toShelf N (s0.getD s4.toNat (dft tShelf))).bind fun r1 => (bif (decide (0 ≤ s4) && decide (s4 < s3.length)) then rec_ (s0, (s3.set s4.toNat r1), (wrap64 (s4 + (1 : Int)))) else none) else none) else kx s3)
/-- loop.example/g00474/laws.toShelfS -/
def x_laws_toShelfS (N : Nat) (a0 : (List (Den tShelf))) : Option (List (Den tShelf)) :=
  (bif (decide ((a0.length : Int) = (a0.length : Int)) && (decide (0 ≤ (a0.length : Int)) && (decide ((a0.length : Int) * (32 : Nat) ≤ 140737488355328) && decide ((a0.length : Int) ≤ 9223372036854775807)))) then iter (B_laws_toShelfS_L0 N (fun x2 => some x2) (fun ρ3 => some (ρ3))) N (a0, (List.replicate (a0.length : Int).toNat (dft tShelf)), (0 : Int)) else none)
abbrev ct_laws_toShelfS (N : Nat) : CT := ⟨132, (.d (.sl tShelf)), (.t (.sl tShelf)), fun a => x_laws_toShelfS N a⟩
theorem c_laws_toShelfS (N : Nat) : CTok Try.prog (ct_laws_toShelfS N) :=
  CT_ok (Γ := [.c (ct_laws_toShelf N)]) (Θ := [(7, tShelf)]) (Λ := ([⟨0, 0, (.pr (.d 0 (.sl tShelf)) (.pr (.o 3 tShelf) (.d 4 I))), (.o 3 tShelf), fun {Ω} kx kr => iter (B_laws_toShelfS_L0 N kx kr) N⟩] : List (LC (DenR (.t (.sl tShelf)))))) (by kernel_rfl) mixed ⟨c_laws_toShelf N, trivial⟩ (by kernel_rfl)
    ⟨LoopEq.mk N (fun Ω kx kr => B_laws_toShelfS_L0 N kx kr) (fun Ω g kx kr s => by kernel_rfl), trivial⟩ (by kernel_rfl) (fun a => by kernel_rfl)

/-- loop.example/g00474/laws.toPeer -/
def x_laws_toPeer (N : Nat) (a0 : (Den tPeer)) : Option (Den tPeer) :=
  (x_laws_toIntS N a0.2.2.2.1).bind fun r1 => (x_laws_toIntS N a0.2.2.2.2.1).bind fun r2 => (x_laws_toShelfS N a0.2.2.2.2.2).bind fun r3 => some (a0.1, a0.2.1, a0.2.2.1, r1, r2, r3)
abbrev ct_laws_toPeer (N : Nat) : CT := ⟨57, (.d tPeer), (.t tPeer), fun a => x_laws_toPeer N a⟩
theorem c_laws_toPeer (N : Nat) : CTok Try.prog (ct_laws_toPeer N) :=
  CT_ok (Γ := [.c (ct_laws_toIntS N), .c (ct_laws_toShelfS N)]) (Θ := []) (Λ := ([] : List (LC (DenR (.t tPeer))))) (by kernel_rfl) mixed ⟨c_laws_toIntS N, ⟨c_laws_toShelfS N, trivial⟩⟩ (by kernel_rfl)
    trivial (by kernel_rfl) (fun a => by kernel_rfl)

/-- a round -/
def B_laws_toPeerS_L0 (N : Nat) {Ω : Type} (kx : DenS (.o 3 tPeer) → Option Ω) (kr : (List (Den tPeer)) → Option Ω) (rec_ : DenS (.pr (.d 0 (.sl tPeer)) (.pr (.o 3 tPeer) (.d 4 I))) → Option Ω) : DenS (.pr (.d 0 (.sl tPeer)) (.pr (.o 3 tPeer) (.d 4 I))) → Option Ω := fun (s0, s3, s4) =>
  (bif (decide (s4 < (s0.length : Int))) then (bif (decide (0 ≤ s4) && decide (s4 < s0.length)) then (x_laws_toPeer N (s0.getD s4.toNat (dft tPeer))).bind fun r1 => (bif (decide (0 ≤ s4) && decide (s4 < s3.length)) then rec_ (s0, (s3.set s4.toNat r1), (wrap64 (s4 + (1 : Int)))) else none) else none) else kx s3)
/-- loop.example/g00474/laws.toPeerS -/
def x_laws_toPeerS (N : Nat) (a0 : (List (Den tPeer))) : Option (List (Den tPeer)) :=
  (bif (decide ((a0.length : Int) = (a0.length : Int)) && (decide (0 ≤ (a0.length : Int)) && (decide ((a0.length : Int) * (96 : Nat) ≤ 140737488355328) && decide ((a0.length : Int) ≤ 9223372036854775807)))) then iter (B_laws_toPeerS_L0 N (fun x2 => some x2) (fun ρ3 => some (ρ3))) N (a0, (List.replicate (a0.length : Int).toNat (dft tPeer)), (0 : Int)) else none)
abbrev ct_laws_toPeerS (N : Nat) : CT := ⟨78, (.d (.sl tPeer)), (.t (.sl tPeer)), fun a => x_laws_toPeerS N a⟩
theorem c_laws_toPeerS (N : Nat) : CTok Try.prog (ct_laws_toPeerS N) :=
  CT_ok (Γ := [.c (ct_laws_toPeer N)]) (Θ := [(7, tPeer)]) (Λ := ([⟨0, 0, (.pr (.d 0 (.sl tPeer)) (.pr (.o 3 tPeer) (.d 4 I))), (.o 3 tPeer), fun {Ω} kx kr => iter (B_laws_toPeerS_L0 N kx kr) N⟩] : List (LC (DenR (.t (.sl tPeer)))))) (by kernel_rfl) mixed ⟨c_laws_toPeer N, trivial⟩ (by kernel_rfl)
    ⟨LoopEq.mk N (fun Ω kx kr => B_laws_toPeerS_L0 N kx kr) (fun Ω g kx kr s => by kernel_rfl), trivial⟩ (by kernel_rfl) (fun a => by kernel_rfl)

/-- loop.example/g00474/laws.toRing -/
def x_laws_toRing (N : Nat) (a0 : (Den tRing)) : Option (Den tRing) :=
  (x_laws_toPeerS N a0).bind fun r1 => some r1
abbrev ct_laws_toRing (N : Nat) : CT := ⟨24, (.d tRing), (.t tRing), fun a => x_laws_toRing N a⟩
theorem c_laws_toRing (N : Nat) : CTok Try.prog (ct_laws_toRing N) :=
  CT_ok (Γ := [.c (ct_laws_toPeerS N)]) (Θ := []) (Λ := ([] : List (LC (DenR (.t tRing))))) (by kernel_rfl) mixed ⟨c_laws_toPeerS N, trivial⟩ (by kernel_rfl)
    trivial (by kernel_rfl) (fun a => by kernel_rfl)

/-- a round -/
def B_spec_PeerAt_L0 (N : Nat) {Ω : Type} (kx : DenS .un → Option Ω) (kr : Int → Option Ω) (rec_ : DenS (.pr (.d 1 I) (.pr (.ip 2 tRing) (.d 5 I))) → Option Ω) : DenS (.pr (.d 1 I) (.pr (.ip 2 tRing) (.d 5 I))) → Option Ω := fun (s1, s2, s5) =>
  (bif (decide (s5 < (s2.length : Int))) then (bif (decide (0 ≤ s5) && decide (s5 < s2.length)) then (bif ((s2.getD s5.toNat (dft tPeer)).2).1 then (bif (decide (0 ≤ s5) && decide (s5 < s2.length)) then (bif (decide (((s2.getD s5.toNat (dft tPeer)).1) = s1)) then kr s5 else rec_ (s1, s2, (wrap64 (s5 + (1 : Int))))) else none) else rec_ (s1, s2, (wrap64 (s5 + (1 : Int))))) else none) else kx ())
/-- loop.example/g00474/spec.PeerAt -/
def x_spec_PeerAt (N : Nat) (a0 : (Den tRing)) (a1 : Int) : Option Int :=
  iter (B_spec_PeerAt_L0 N (fun _ => some (-1 : Int)) (fun ρ1 => some (ρ1))) N (a1, a0, (0 : Int))
abbrev ct_spec_PeerAt (N : Nat) : CT := ⟨76, (.pr (.d tRing) (.d I)), (.t I), fun a => x_spec_PeerAt N a.1 a.2⟩
theorem c_spec_PeerAt (N : Nat) : CTok Try.prog (ct_spec_PeerAt N) :=
  CT_ok (Γ := []) (Θ := []) (Λ := ([⟨0, 0, (.pr (.d 1 I) (.pr (.ip 2 tRing) (.d 5 I))), .un, fun {Ω} kx kr => iter (B_spec_PeerAt_L0 N kx kr) N⟩] : List (LC (DenR (.t I))))) (by kernel_rfl) mixed trivial (by kernel_rfl)
    ⟨LoopEq.mk N (fun Ω kx kr => B_spec_PeerAt_L0 N kx kr) (fun Ω g kx kr s => by kernel_rfl), trivial⟩ (by kernel_rfl) (fun a => by kernel_rfl)

/-- a round -/
def B_spec_l08Has_L0 (N : Nat) {Ω : Type} (kx : DenS .un → Option Ω) (kr : Bool → Option Ω) (rec_ : DenS (.pr (.d 0 (.sl I)) (.pr (.d 1 I) (.d 5 I))) → Option Ω) : DenS (.pr (.d 0 (.sl I)) (.pr (.d 1 I) (.d 5 I))) → Option Ω := fun (s0, s1, s5) =>
  (bif (decide (s5 < (s0.length : Int))) then (bif (decide (0 ≤ s5) && decide (s5 < s0.length)) then (bif (decide ((s0.getD s5.toNat (0 : Int)) = s1)) then kr true else rec_ (s0, s1, (wrap64 (s5 + (1 : Int))))) else none) else kx ())
/-- loop.example/g00474/spec.l08Has -/
def x_spec_l08Has (N : Nat) (a0 : (List Int)) (a1 : Int) : Option Bool :=
  iter (B_spec_l08Has_L0 N (fun _ => some false) (fun ρ1 => some (ρ1))) N (a0, a1, (0 : Int))
abbrev ct_spec_l08Has (N : Nat) : CT := ⟨77, (.pr (.d (.sl I)) (.d I)), (.t .bl), fun a => x_spec_l08Has N a.1 a.2⟩
theorem c_spec_l08Has (N : Nat) : CTok Try.prog (ct_spec_l08Has N) :=
  CT_ok (Γ := []) (Θ := []) (Λ := ([⟨0, 0, (.pr (.d 0 (.sl I)) (.pr (.d 1 I) (.d 5 I))), .un, fun {Ω} kx kr => iter (B_spec_l08Has_L0 N kx kr) N⟩] : List (LC (DenR (.t .bl))))) (by kernel_rfl) mixed trivial (by kernel_rfl)
    ⟨LoopEq.mk N (fun Ω kx kr => B_spec_l08Has_L0 N kx kr) (fun Ω g kx kr s => by kernel_rfl), trivial⟩ (by kernel_rfl) (fun a => by kernel_rfl)

/-- a round -/
def B_spec_HoldersOf_L0 (N : Nat) {Ω : Type} (kx : DenS (.o 6 I) → Option Ω) (kr : (List Int) → Option Ω) (rec_ : DenS (.pr (.ip 2 tRing) (.pr (.d 5 I) (.pr (.o 6 I) (.d 7 I)))) → Option Ω) : DenS (.pr (.ip 2 tRing) (.pr (.d 5 I) (.pr (.o 6 I) (.d 7 I)))) → Option Ω := fun (s2, s5, s6, s7) =>
  (bif (decide (0 ≤ s5) && decide (s5 < s2.length)) then (bif (decide (s7 < ((((((s2.getD s5.toNat (dft tPeer)).2).2).2).1).length : Int))) then (bif (decide ((s6.length : Int) < (3 : Int))) then (bif (decide (0 ≤ s5) && decide (s5 < s2.length)) then (bif (decide (0 ≤ s7) && decide (s7 < (((((s2.getD s5.toNat (dft tPeer)).2).2).2).1).length)) then (x_spec_PeerAt N s2 ((((((s2.getD s5.toNat (dft tPeer)).2).2).2).1).getD s7.toNat (0 : Int))).bind fun r2 => (bif (decide ((0 : Int) ≤ r2)) then (x_spec_l08Has N s6 ((((((s2.getD s5.toNat (dft tPeer)).2).2).2).1).getD s7.toNat (0 : Int))).bind fun r3 => (bif (!r3) then (bif (decide ((s6.length + [((((((s2.getD s5.toNat (dft tPeer)).2).2).2).1).getD s7.toNat (0 : Int))].length) * 8 ≤ 140737488355328)) then rec_ (s2, s5, (s6 ++ [((((((s2.getD s5.toNat (dft tPeer)).2).2).2).1).getD s7.toNat (0 : Int))]), (wrap64 (s7 + (1 : Int)))) else none) else rec_ (s2, s5, s6, (wrap64 (s7 + (1 : Int))))) else rec_ (s2, s5, s6, (wrap64 (s7 + (1 : Int))))) else none) else none) else kx s6) else kx s6) else none)
/-- loop.example/g00474/spec.HoldersOf -/
def x_spec_HoldersOf (N : Nat) (a0 : (Den tRing)) (a1 : Int) : Option (List Int) :=
  (x_spec_PeerAt N a0 a1).bind fun r1 => (bif (decide (r1 < (0 : Int))) then some [] else iter (B_spec_HoldersOf_L0 N (fun x4 => some x4) (fun ρ5 => some (ρ5))) N (a0, r1, [a1], (0 : Int)))
abbrev ct_spec_HoldersOf (N : Nat) : CT := ⟨23, (.pr (.d tRing) (.d I)), (.t (.sl I)), fun a => x_spec_HoldersOf N a.1 a.2⟩
theorem c_spec_HoldersOf (N : Nat) : CTok Try.prog (ct_spec_HoldersOf N) :=
  CT_ok (Γ := [.c (ct_spec_PeerAt N), .c (ct_spec_l08Has N)]) (Θ := [(14, I), (16, I), (54, I)]) (Λ := ([⟨0, 0, (.pr (.ip 2 tRing) (.pr (.d 5 I) (.pr (.o 6 I) (.d 7 I)))), (.o 6 I), fun {Ω} kx kr => iter (B_spec_HoldersOf_L0 N kx kr) N⟩] : List (LC (DenR (.t (.sl I)))))) (by kernel_rfl) mixed ⟨c_spec_PeerAt N, ⟨c_spec_l08Has N, trivial⟩⟩ (by kernel_rfl)
    ⟨LoopEq.mk N (fun Ω kx kr => B_spec_HoldersOf_L0 N kx kr) (fun Ω g kx kr s => by kernel_rfl), trivial⟩ (by kernel_rfl) (fun a => by kernel_rfl)

/-- loop.example/g00474/impl.peerHere$1 -/
def x_impl_peerHere_1 (N : Nat) (a0 : (Den tPeer)) (a1 : Int) : Option Bool :=
  (bif a0.2.1 then some (decide (a0.1 = a1)) else some false)
abbrev ct_impl_peerHere_1 (N : Nat) : CT := ⟨154, (.pr (.d tPeer) (.ip I)), (.t .bl), fun a => x_impl_peerHere_1 N a.1 a.2⟩
theorem c_impl_peerHere_1 (N : Nat) : CTok Try.prog (ct_impl_peerHere_1 N) :=
  CT_ok (Γ := []) (Θ := []) (Λ := ([] : List (LC (DenR (.t .bl))))) (by kernel_rfl) mixed trivial (by kernel_rfl)
    trivial (by kernel_rfl) (fun a => by kernel_rfl)

/-- a round -/
def B_slices_IndexFunc_impl_Peer_impl_Peer__impl_peerHere_1_L0 (N : Nat) {Ω : Type} (kx : DenS .un → Option Ω) (kr : Int → Option Ω) (rec_ : DenS (.pr (.d 0 (.sl tPeer)) (.pr (.fn 1 154 (.ip I)) (.pr (.d 7 I) (.d 8 I)))) → Option Ω) : DenS (.pr (.d 0 (.sl tPeer)) (.pr (.fn 1 154 (.ip I)) (.pr (.d 7 I) (.d 8 I)))) → Option Ω := fun (s0, s1, s7, s8) =>
  (bif (decide (s8 < s7)) then (bif (decide (0 ≤ s8) && decide (s8 < s0.length)) then (x_impl_peerHere_1 N (s0.getD s8.toNat (dft tPeer)) s1).bind fun r1 => (bif r1 then kr s8 else rec_ (s0, s1, s7, (wrap64 (s8 + (1 : Int))))) else none) else kx ())
/-- slices.IndexFunc[[]loop.example/g00474/impl.Peer,loop.example/g00474/impl.Peer] -/
def x_slices_IndexFunc_impl_Peer_impl_Peer__impl_peerHere_1 (N : Nat) (a0 : (List (Den tPeer))) (a1 : Int) : Option Int :=
  iter (B_slices_IndexFunc_impl_Peer_impl_Peer__impl_peerHere_1_L0 N (fun _ => some (-1 : Int)) (fun ρ2 => some (ρ2))) N (a0, a1, (a0.length : Int), (0 : Int))
abbrev ct_slices_IndexFunc_impl_Peer_impl_Peer__impl_peerHere_1 (N : Nat) : CT := ⟨153, (.pr (.d (.sl tPeer)) (.fn 154 (.ip I))), (.t I), fun a => x_slices_IndexFunc_impl_Peer_impl_Peer__impl_peerHere_1 N a.1 a.2⟩
theorem c_slices_IndexFunc_impl_Peer_impl_Peer__impl_peerHere_1 (N : Nat) : CTok Try.prog (ct_slices_IndexFunc_impl_Peer_impl_Peer__impl_peerHere_1 N) :=
  CT_ok (Γ := [.c (ct_impl_peerHere_1 N)]) (Θ := []) (Λ := ([⟨0, 0, (.pr (.d 0 (.sl tPeer)) (.pr (.fn 1 154 (.ip I)) (.pr (.d 7 I) (.d 8 I)))), .un, fun {Ω} kx kr => iter (B_slices_IndexFunc_impl_Peer_impl_Peer__impl_peerHere_1_L0 N kx kr) N⟩] : List (LC (DenR (.t I))))) (by kernel_rfl) mixed ⟨c_impl_peerHere_1 N, trivial⟩ (by kernel_rfl)
    ⟨LoopEq.mk N (fun Ω kx kr => B_slices_IndexFunc_impl_Peer_impl_Peer__impl_peerHere_1_L0 N kx kr) (fun Ω g kx kr s => by kernel_rfl), trivial⟩ (by kernel_rfl) (fun a => by kernel_rfl)

/-- loop.example/g00474/impl.peerHere -/
def x_impl_peerHere (N : Nat) (a0 : (Den tRing)) (a1 : Int) : Option Int :=
  (x_slices_IndexFunc_impl_Peer_impl_Peer__impl_peerHere_1 N a0 a1).bind fun r1 => some r1
abbrev ct_impl_peerHere (N : Nat) : CT := ⟨79, (.pr (.d tRing) (.d I)), (.t I), fun a => x_impl_peerHere N a.1 a.2⟩
theorem c_impl_peerHere (N : Nat) : CTok Try.prog (ct_impl_peerHere N) :=
  CT_ok (Γ := [.c (ct_slices_IndexFunc_impl_Peer_impl_Peer__impl_peerHere_1 N)]) (Θ := []) (Λ := ([] : List (LC (DenR (.t I))))) (by kernel_rfl) mixed ⟨c_slices_IndexFunc_impl_Peer_impl_Peer__impl_peerHere_1 N, trivial⟩ (by kernel_rfl)
    trivial (by kernel_rfl) (fun a => by kernel_rfl)

/-- a round -/
def B_slices_Index_int_int_L0 (N : Nat) {Ω : Type} (kx : DenS .un → Option Ω) (kr : Int → Option Ω) (rec_ : DenS (.pr (.d 0 (.sl I)) (.pr (.d 1 I) (.pr (.d 7 I) (.d 8 I)))) → Option Ω) : DenS (.pr (.d 0 (.sl I)) (.pr (.d 1 I) (.pr (.d 7 I) (.d 8 I)))) → Option Ω := fun (s0, s1, s7, s8) =>
  (bif (decide (s8 < s7)) then (bif (decide (0 ≤ s8) && decide (s8 < s0.length)) then (bif (decide (s1 = (s0.getD s8.toNat (0 : Int)))) then kr s8 else rec_ (s0, s1, s7, (wrap64 (s8 + (1 : Int))))) else none) else kx ())
/-- slices.Index[[]int,int] -/
def x_slices_Index_int_int (N : Nat) (a0 : (List Int)) (a1 : Int) : Option Int :=
  iter (B_slices_Index_int_int_L0 N (fun _ => some (-1 : Int)) (fun ρ1 => some (ρ1))) N (a0, a1, (a0.length : Int), (0 : Int))
abbrev ct_slices_Index_int_int (N : Nat) : CT := ⟨155, (.pr (.d (.sl I)) (.d I)), (.t I), fun a => x_slices_Index_int_int N a.1 a.2⟩
theorem c_slices_Index_int_int (N : Nat) : CTok Try.prog (ct_slices_Index_int_int N) :=
  CT_ok (Γ := []) (Θ := []) (Λ := ([⟨0, 0, (.pr (.d 0 (.sl I)) (.pr (.d 1 I) (.pr (.d 7 I) (.d 8 I)))), .un, fun {Ω} kx kr => iter (B_slices_Index_int_int_L0 N kx kr) N⟩] : List (LC (DenR (.t I))))) (by kernel_rfl) mixed trivial (by kernel_rfl)
    ⟨LoopEq.mk N (fun Ω kx kr => B_slices_Index_int_int_L0 N kx kr) (fun Ω g kx kr s => by kernel_rfl), trivial⟩ (by kernel_rfl) (fun a => by kernel_rfl)

/-- slices.Contains[[]int,int] -/
def x_slices_Contains_int_int (N : Nat) (a0 : (List Int)) (a1 : Int) : Option Bool :=
  (x_slices_Index_int_int N a0 a1).bind fun r1 => some (decide ((0 : Int) ≤ r1))
abbrev ct_slices_Contains_int_int (N : Nat) : CT := ⟨80, (.pr (.d (.sl I)) (.d I)), (.t .bl), fun a => x_slices_Contains_int_int N a.1 a.2⟩
theorem c_slices_Contains_int_int (N : Nat) : CTok Try.prog (ct_slices_Contains_int_int N) :=
  CT_ok (Γ := [.c (ct_slices_Index_int_int N)]) (Θ := []) (Λ := ([] : List (LC (DenR (.t .bl))))) (by kernel_rfl) mixed ⟨c_slices_Index_int_int N, trivial⟩ (by kernel_rfl)
    trivial (by kernel_rfl) (fun a => by kernel_rfl)

/-- a round -/
def B_impl_HoldersOf_L0 (N : Nat) {Ω : Type} (kx : DenS (.o 6 I) → Option Ω) (kr : (List Int) → Option Ω) (rec_ : DenS (.pr (.ip 2 tRing) (.pr (.o 6 I) (.pr (.d 21 (.sl I)) (.pr (.d 22 I) (.d 23 I))))) → Option Ω) : DenS (.pr (.ip 2 tRing) (.pr (.o 6 I) (.pr (.d 21 (.sl I)) (.pr (.d 22 I) (.d 23 I))))) → Option Ω := fun (s2, s6, s21, s22, s23) =>
  (bif (decide (s23 < s22)) then (bif (decide (0 ≤ s23) && decide (s23 < s21.length)) then (x_impl_peerHere N s2 (s21.getD s23.toNat (0 : Int))).bind fun r2 => (bif (decide ((0 : Int) ≤ r2)) then (x_slices_Contains_int_int N s6 (s21.getD s23.toNat (0 : Int))).bind fun r3 => (bif (!r3) then (bif (decide ((s6.length : Int) < (3 : Int))) then (bif (decide ((s6.length + [(s21.getD s23.toNat (0 : Int))].length) * 8 ≤ 140737488355328)) then rec_ (s2, (s6 ++ [(s21.getD s23.toNat (0 : Int))]), s21, s22, (wrap64 (s23 + (1 : Int)))) else none) else rec_ (s2, s6, s21, s22, (wrap64 (s23 + (1 : Int))))) else rec_ (s2, s6, s21, s22, (wrap64 (s23 + (1 : Int))))) else rec_ (s2, s6, s21, s22, (wrap64 (s23 + (1 : Int))))) else none) else kx s6)
/-- loop.example/g00474/impl.HoldersOf -/
def x_impl_HoldersOf (N : Nat) (a0 : (Den tRing)) (a1 : Int) : Option (List Int) :=
  (x_impl_peerHere N a0 a1).bind fun r1 => (bif (decide (r1 < (0 : Int))) then some [] else (bif (decide (0 ≤ r1) && decide (r1 < a0.length)) then iter (B_impl_HoldersOf_L0 N (fun x4 => some x4) (fun ρ5 => some (ρ5))) N (a0, [a1], ((((a0.getD r1.toNat (dft tPeer)).2).2).2).1, ((((((a0.getD r1.toNat (dft tPeer)).2).2).2).1).length : Int), (0 : Int)) else none))
abbrev ct_impl_HoldersOf (N : Nat) : CT := ⟨25, (.pr (.d tRing) (.d I)), (.t (.sl I)), fun a => x_impl_HoldersOf N a.1 a.2⟩
theorem c_impl_HoldersOf (N : Nat) : CTok Try.prog (ct_impl_HoldersOf N) :=
  CT_ok (Γ := [.c (ct_impl_peerHere N), .c (ct_slices_Contains_int_int N)]) (Θ := [(15, I), (44, I)]) (Λ := ([⟨0, 0, (.pr (.ip 2 tRing) (.pr (.o 6 I) (.pr (.d 21 (.sl I)) (.pr (.d 22 I) (.d 23 I))))), (.o 6 I), fun {Ω} kx kr => iter (B_impl_HoldersOf_L0 N kx kr) N⟩] : List (LC (DenR (.t (.sl I)))))) (by kernel_rfl) mixed ⟨c_impl_peerHere N, ⟨c_slices_Contains_int_int N, trivial⟩⟩ (by kernel_rfl)
    ⟨LoopEq.mk N (fun Ω kx kr => B_impl_HoldersOf_L0 N kx kr) (fun Ω g kx kr s => by kernel_rfl), trivial⟩ (by kernel_rfl) (fun a => by kernel_rfl)

/-- a round -/
def B_laws_eqIntS_L0 (N : Nat) {Ω : Type} (kx : DenS .un → Option Ω) (kr : Bool → Option Ω) (rec_ : DenS (.pr (.d 0 (.sl I)) (.pr (.d 1 (.sl I)) (.d 5 I))) → Option Ω) : DenS (.pr (.d 0 (.sl I)) (.pr (.d 1 (.sl I)) (.d 5 I))) → Option Ω := fun (s0, s1, s5) =>
  (bif (decide (s5 < (s0.length : Int))) then (bif (decide (0 ≤ s5) && decide (s5 < s0.length)) then (bif (decide (0 ≤ s5) && decide (s5 < s1.length)) then (bif (!decide ((s0.getD s5.toNat (0 : Int)) = (s1.getD s5.toNat (0 : Int)))) then kr false else rec_ (s0, s1, (wrap64 (s5 + (1 : Int))))) else none) else none) else kx ())
/-- loop.example/g00474/laws.eqIntS -/
def x_laws_eqIntS (N : Nat) (a0 : (List Int)) (a1 : (List Int)) : Option Bool :=
  (bif (!decide ((a0.length : Int) = (a1.length : Int))) then some false else iter (B_laws_eqIntS_L0 N (fun _ => some true) (fun ρ1 => some (ρ1))) N (a0, a1, (0 : Int)))
abbrev ct_laws_eqIntS (N : Nat) : CT := ⟨26, (.pr (.d (.sl I)) (.d (.sl I))), (.t .bl), fun a => x_laws_eqIntS N a.1 a.2⟩
theorem c_laws_eqIntS (N : Nat) : CTok Try.prog (ct_laws_eqIntS N) :=
  CT_ok (Γ := []) (Θ := []) (Λ := ([⟨0, 0, (.pr (.d 0 (.sl I)) (.pr (.d 1 (.sl I)) (.d 5 I))), .un, fun {Ω} kx kr => iter (B_laws_eqIntS_L0 N kx kr) N⟩] : List (LC (DenR (.t .bl))))) (by kernel_rfl) mixed trivial (by kernel_rfl)
    ⟨LoopEq.mk N (fun Ω kx kr => B_laws_eqIntS_L0 N kx kr) (fun Ω g kx kr s => by kernel_rfl), trivial⟩ (by kernel_rfl) (fun a => by kernel_rfl)

/-- loop.example/g00474/laws.eqItem -/
def x_laws_eqItem (N : Nat) (a0 : (Den tItem)) (a1 : (Den tItem)) : Option Bool :=
  (bif (!decide (a0.1 = a1.1)) then some false else (bif (!(a0.2 == a1.2)) then some false else some true))
abbrev ct_laws_eqItem (N : Nat) : CT := ⟨139, (.pr (.d tItem) (.d tItem)), (.t .bl), fun a => x_laws_eqItem N a.1 a.2⟩
theorem c_laws_eqItem (N : Nat) : CTok Try.prog (ct_laws_eqItem N) :=
  CT_ok (Γ := []) (Θ := []) (Λ := ([] : List (LC (DenR (.t .bl))))) (by kernel_rfl) mixed trivial (by kernel_rfl)
    trivial (by kernel_rfl) (fun a => by kernel_rfl)

/-- a round -/
def B_laws_eqItemS_L0 (N : Nat) {Ω : Type} (kx : DenS .un → Option Ω) (kr : Bool → Option Ω) (rec_ : DenS (.pr (.d 0 (.sl tItem)) (.pr (.d 1 (.sl tItem)) (.d 5 I))) → Option Ω) : DenS (.pr (.d 0 (.sl tItem)) (.pr (.d 1 (.sl tItem)) (.d 5 I))) → Option Ω := fun (s0, s1, s5) =>
  (bif (decide (s5 < (s0.length : Int))) then (bif (decide (0 ≤ s5) && decide (s5 < s0.length)) then (bif (decide (0 ≤ s5) && decide (s5 < s1.length)) then (x_laws_eqItem N (s0.getD s5.toNat (dft tItem)) (s1.getD s5.toNat (dft tItem))).bind fun r1 => (bif (!r1) then kr false else rec_ (s0, s1, (wrap64 (s5 + (1 : Int))))) else none) else none) else kx ())
/-- loop.example/g00474/laws.eqItemS -/
def x_laws_eqItemS (N : Nat) (a0 : (List (Den tItem))) (a1 : (List (Den tItem))) : Option Bool :=
  (bif (!decide ((a0.length : Int) = (a1.length : Int))) then some false else iter (B_laws_eqItemS_L0 N (fun _ => some true) (fun ρ2 => some (ρ2))) N (a0, a1, (0 : Int)))
abbrev ct_laws_eqItemS (N : Nat) : CT := ⟨61, (.pr (.d (.sl tItem)) (.d (.sl tItem))), (.t .bl), fun a => x_laws_eqItemS N a.1 a.2⟩
theorem c_laws_eqItemS (N : Nat) : CTok Try.prog (ct_laws_eqItemS N) :=
  CT_ok (Γ := [.c (ct_laws_eqItem N)]) (Θ := []) (Λ := ([⟨0, 0, (.pr (.d 0 (.sl tItem)) (.pr (.d 1 (.sl tItem)) (.d 5 I))), .un, fun {Ω} kx kr => iter (B_laws_eqItemS_L0 N kx kr) N⟩] : List (LC (DenR (.t .bl))))) (by kernel_rfl) mixed ⟨c_laws_eqItem N, trivial⟩ (by kernel_rfl)
    ⟨LoopEq.mk N (fun Ω kx kr => B_laws_eqItemS_L0 N kx kr) (fun Ω g kx kr s => by kernel_rfl), trivial⟩ (by kernel_rfl) (fun a => by kernel_rfl)

/-- loop.example/g00474/laws.eqShelf -/
def x_laws_eqShelf (N : Nat) (a0 : (Den tShelf)) (a1 : (Den tShelf)) : Option Bool :=
  (bif (!decide (a0.1 = a1.1)) then some false else (x_laws_eqItemS N a0.2 a1.2).bind fun r1 => (bif (!r1) then some false else some true))
abbrev ct_laws_eqShelf (N : Nat) : CT := ⟨199, (.pr (.d tShelf) (.d tShelf)), (.t .bl), fun a => x_laws_eqShelf N a.1 a.2⟩
theorem c_laws_eqShelf (N : Nat) : CTok Try.prog (ct_laws_eqShelf N) :=
  CT_ok (Γ := [.c (ct_laws_eqItemS N)]) (Θ := []) (Λ := ([] : List (LC (DenR (.t .bl))))) (by kernel_rfl) mixed ⟨c_laws_eqItemS N, trivial⟩ (by kernel_rfl)
    trivial (by kernel_rfl) (fun a => by kernel_rfl)

/-- a round -/
def B_laws_eqShelfS_L0 (N : Nat) {Ω : Type} (kx : DenS .un → Option Ω) (kr : Bool → Option Ω) (rec_ : DenS (.pr (.d 0 (.sl tShelf)) (.pr (.d 1 (.sl tShelf)) (.d 5 I))) → Option Ω) : DenS (.pr (.d 0 (.sl tShelf)) (.pr (.d 1 (.sl tShelf)) (.d 5 I))) → Option Ω := fun (s0, s1, s5) =>
  (bif (decide (s5 < (s0.length : Int))) then (bif (decide (0 ≤ s5) && decide (s5 < s0.length)) then (bif (decide (0 ≤ s5) && decide (s5 < s1.length)) then (x_laws_eqShelf N (s0.getD s5.toNat (dft tShelf)) (s1.getD s5.toNat (dft tShelf))).bind fun r1 => (bif (!r1) then kr false else rec_ (s0, s1, (wrap64 (s5 + (1 : Int))))) else none) else none) else kx ())
/-- loop.example/g00474/laws.eqShelfS -/
def x_laws_eqShelfS (N : Nat) (a0 : (List (Den tShelf))) (a1 : (List (Den tShelf))) : Option Bool :=
  (bif (!decide ((a0.length : Int) = (a1.length : Int))) then some false else iter (B_laws_eqShelfS_L0 N (fun _ => some true) (fun ρ2 => some (ρ2))) N (a0, a1, (0 : Int)))
abbrev ct_laws_eqShelfS (N : Nat) : CT := ⟨138, (.pr (.d (.sl tShelf)) (.d (.sl tShelf))), (.t .bl), fun a => x_laws_eqShelfS N a.1 a.2⟩
theorem c_laws_eqShelfS (N : Nat) : CTok Try.prog (ct_laws_eqShelfS N) :=
  CT_ok (Γ := [.c (ct_laws_eqShelf N)]) (Θ := []) (Λ := ([⟨0, 0, (.pr (.d 0 (.sl tShelf)) (.pr (.d 1 (.sl tShelf)) (.d 5 I))), .un, fun {Ω} kx kr => iter (B_laws_eqShelfS_L0 N kx kr) N⟩] : List (LC (DenR (.t .bl))))) (by kernel_rfl) mixed ⟨c_laws_eqShelf N, trivial⟩ (by kernel_rfl)
    ⟨LoopEq.mk N (fun Ω kx kr => B_laws_eqShelfS_L0 N kx kr) (fun Ω g kx kr s => by kernel_rfl), trivial⟩ (by kernel_rfl) (fun a => by kernel_rfl)

/-- loop.example/g00474/laws.eqPeer -/
def x_laws_eqPeer (N : Nat) (a0 : (Den tPeer)) (a1 : (Den tPeer)) : Option Bool :=
  (bif (!decide (a0.1 = a1.1)) then some false else (bif (!(a0.2.1 == a1.2.1)) then some false else (bif (!decide (a0.2.2.1 = a1.2.2.1)) then some false else (x_laws_eqIntS N a0.2.2.2.1 a1.2.2.2.1).bind fun r1 => (bif (!r1) then some false else (x_laws_eqIntS N a0.2.2.2.2.1 a1.2.2.2.2.1).bind fun r2 => (bif (!r2) then some false else (x_laws_eqShelfS N a0.2.2.2.2.2 a1.2.2.2.2.2).bind fun r3 => (bif (!r3) then some false else some true))))))
abbrev ct_laws_eqPeer (N : Nat) : CT := ⟨60, (.pr (.d tPeer) (.d tPeer)), (.t .bl), fun a => x_laws_eqPeer N a.1 a.2⟩
theorem c_laws_eqPeer (N : Nat) : CTok Try.prog (ct_laws_eqPeer N) :=
  CT_ok (Γ := [.c (ct_laws_eqIntS N), .c (ct_laws_eqShelfS N)]) (Θ := []) (Λ := ([] : List (LC (DenR (.t .bl))))) (by kernel_rfl) mixed ⟨c_laws_eqIntS N, ⟨c_laws_eqShelfS N, trivial⟩⟩ (by kernel_rfl)
    trivial (by kernel_rfl) (fun a => by kernel_rfl)

/-- a round -/
def B_laws_eqPeerS_L0 (N : Nat) {Ω : Type} (kx : DenS .un → Option Ω) (kr : Bool → Option Ω) (rec_ : DenS (.pr (.d 0 (.sl tPeer)) (.pr (.d 1 (.sl tPeer)) (.d 5 I))) → Option Ω) : DenS (.pr (.d 0 (.sl tPeer)) (.pr (.d 1 (.sl tPeer)) (.d 5 I))) → Option Ω := fun (s0, s1, s5) =>
  (bif (decide (s5 < (s0.length : Int))) then (bif (decide (0 ≤ s5) && decide (s5 < s0.length)) then (bif (decide (0 ≤ s5) && decide (s5 < s1.length)) then (x_laws_eqPeer N (s0.getD s5.toNat (dft tPeer)) (s1.getD s5.toNat (dft tPeer))).bind fun r1 => (bif (!r1) then kr false else rec_ (s0, s1, (wrap64 (s5 + (1 : Int))))) else none) else none) else kx ())
/-- loop.example/g00474/laws.eqPeerS -/
def x_laws_eqPeerS (N : Nat) (a0 : (List (Den tPeer))) (a1 : (List (Den tPeer))) : Option Bool :=
  (bif (!decide ((a0.length : Int) = (a1.length : Int))) then some false else iter (B_laws_eqPeerS_L0 N (fun _ => some true) (fun ρ2 => some (ρ2))) N (a0, a1, (0 : Int)))
abbrev ct_laws_eqPeerS (N : Nat) : CT := ⟨81, (.pr (.d (.sl tPeer)) (.d (.sl tPeer))), (.t .bl), fun a => x_laws_eqPeerS N a.1 a.2⟩
theorem c_laws_eqPeerS (N : Nat) : CTok Try.prog (ct_laws_eqPeerS N) :=
  CT_ok (Γ := [.c (ct_laws_eqPeer N)]) (Θ := []) (Λ := ([⟨0, 0, (.pr (.d 0 (.sl tPeer)) (.pr (.d 1 (.sl tPeer)) (.d 5 I))), .un, fun {Ω} kx kr => iter (B_laws_eqPeerS_L0 N kx kr) N⟩] : List (LC (DenR (.t .bl))))) (by kernel_rfl) mixed ⟨c_laws_eqPeer N, trivial⟩ (by kernel_rfl)
    ⟨LoopEq.mk N (fun Ω kx kr => B_laws_eqPeerS_L0 N kx kr) (fun Ω g kx kr s => by kernel_rfl), trivial⟩ (by kernel_rfl) (fun a => by kernel_rfl)

/-- loop.example/g00474/laws.eqRing -/
def x_laws_eqRing (N : Nat) (a0 : (Den tRing)) (a1 : (Den tRing)) : Option Bool :=
  (x_laws_eqPeerS N a0 a1).bind fun r1 => (bif (!r1) then some false else some true)
abbrev ct_laws_eqRing (N : Nat) : CT := ⟨27, (.pr (.d tRing) (.d tRing)), (.t .bl), fun a => x_laws_eqRing N a.1 a.2⟩
theorem c_laws_eqRing (N : Nat) : CTok Try.prog (ct_laws_eqRing N) :=
  CT_ok (Γ := [.c (ct_laws_eqPeerS N)]) (Θ := []) (Λ := ([] : List (LC (DenR (.t .bl))))) (by kernel_rfl) mixed ⟨c_laws_eqPeerS N, trivial⟩ (by kernel_rfl)
    trivial (by kernel_rfl) (fun a => by kernel_rfl)

/-- a round -/
def B_laws_markIntS_L0 (N : Nat) {Ω : Type} (kx : DenS (.pr (.o 0 I) (.d 1 I)) → Option Ω) (kr : (Int × DenW (.pr (.o 0 I) (.d 1 I))) → Option Ω) (rec_ : DenS (.pr (.o 0 I) (.pr (.d 1 I) (.d 5 I))) → Option Ω) : DenS (.pr (.o 0 I) (.pr (.d 1 I) (.d 5 I))) → Option Ω := fun (s0, s1, s5) =>
  (bif (decide (s5 < (s0.length : Int))) then (bif (decide (0 ≤ s5) && decide (s5 < s0.length)) then rec_ ((s0.set s5.toNat s1), (wrap64 (s1 + (1 : Int))), (wrap64 (s5 + (1 : Int)))) else none) else kx (s0, s1))
/-- loop.example/g00474/laws.markIntS -/
def x_laws_markIntS (N : Nat) (a0 : (List Int)) (a1 : Int) : Option (Int × DenW (.pr (.o 0 I) (.d 1 I))) :=
  (iter (B_laws_markIntS_L0 N (fun (x1, x2) => some (x2, x1, ())) (fun ρ3 => some (ρ3))) N (a0, a1, (0 : Int))).bind fun r => bif (Nat.beq a0.length r.2.1.length && true) then some r else none
abbrev cm_laws_markIntS (N : Nat) : CM := ⟨29, (.pr (.o 0 I) (.d 1 I)), (.t I), fun a => x_laws_markIntS N a.1 a.2⟩
theorem c_laws_markIntS (N : Nat) : CMok Try.prog (cm_laws_markIntS N) :=
  CM_ok (Γ := []) (Θ := []) (Λ := ([⟨0, 1, (.pr (.o 0 I) (.pr (.d 1 I) (.d 5 I))), (.pr (.o 0 I) (.d 1 I)), fun {Ω} kx kr => iter (B_laws_markIntS_L0 N kx kr) N⟩] : List (LC (DenR (.t I) × DenW (.pr (.o 0 I) (.d 1 I)))))) (by kernel_rfl) mixed trivial (by kernel_rfl)
    ⟨LoopEq.mk N (fun Ω kx kr => B_laws_markIntS_L0 N kx kr) (fun Ω g kx kr s => by kernel_rfl), trivial⟩ (by kernel_rfl) (fun a => by kernel_rfl)

/-- a round -/
def B_laws_markText_L0 (N : Nat) {Ω : Type} (kx : DenS (.d 3 .tx) → Option Ω) (kr : ByteArray → Option Ω) (rec_ : DenS (.pr (.d 0 I) (.d 3 .tx)) → Option Ω) : DenS (.pr (.d 0 I) (.d 3 .tx)) → Option Ω := fun (s0, s3) =>
  (bif (decide ((0 : Int) < s0)) then (bif (decide ((txt [((wrap64 ((48 : Int) + (s0.tmod (10 : Int)))) % 256)]).size + s3.size ≤ 4611686018427387904)) then rec_ ((wrap64 (s0.tdiv (10 : Int))), ((txt [((wrap64 ((48 : Int) + (s0.tmod (10 : Int)))) % 256)]) ++ s3)) else none) else kx s3)
/-- loop.example/g00474/laws.markText -/
def x_laws_markText (N : Nat) (a0 : Int) : Option ByteArray :=
  (bif (decide (a0 ≤ (0 : Int))) then some (⟨#[109, 48]⟩ : ByteArray) else iter (B_laws_markText_L0 N (fun x1 => (bif (decide ((⟨#[109]⟩ : ByteArray).size + x1.size ≤ 4611686018427387904)) then some ((⟨#[109]⟩ : ByteArray) ++ x1) else none)) (fun ρ2 => some (ρ2))) N (a0, ByteArray.empty))
abbrev ct_laws_markText (N : Nat) : CT := ⟨141, (.d I), (.t .tx), fun a => x_laws_markText N a⟩
theorem c_laws_markText (N : Nat) : CTok Try.prog (ct_laws_markText N) :=
  CT_ok (Γ := []) (Θ := [(12, (.i .u8))]) (Λ := ([⟨0, 0, (.pr (.d 0 I) (.d 3 .tx)), (.d 3 .tx), fun {Ω} kx kr => iter (B_laws_markText_L0 N kx kr) N⟩] : List (LC (DenR (.t .tx))))) (by kernel_rfl) mixed trivial (by kernel_rfl)
    ⟨LoopEq.mk N (fun Ω kx kr => B_laws_markText_L0 N kx kr) (fun Ω g kx kr s => by kernel_rfl), trivial⟩ (by kernel_rfl) (fun a => by kernel_rfl)

/-- a round -/
def B_laws_markItemS_L0 (N : Nat) {Ω : Type} (kx : DenS (.pr (.o 0 tItem) (.d 1 I)) → Option Ω) (kr : (Int × DenW (.pr (.o 0 tItem) (.d 1 I))) → Option Ω) (rec_ : DenS (.pr (.o 0 tItem) (.pr (.d 1 I) (.d 5 I))) → Option Ω) : DenS (.pr (.o 0 tItem) (.pr (.d 1 I) (.d 5 I))) → Option Ω := fun (s0, s1, s5) =>
  (bif (decide (s5 < (s0.length : Int))) then (x_laws_markText N s1).bind fun r1 => (bif (decide (0 ≤ s5) && decide (s5 < s0.length)) then (bif (decide (0 ≤ s5) && decide (s5 < (s0.set s5.toNat (r1, (s0.getD s5.toNat (dft tItem)).2)).length)) then (let l2 : List (Den tItem) := ((s0.set s5.toNat (r1, (s0.getD s5.toNat (dft tItem)).2)).set s5.toNat (((s0.set s5.toNat (r1, (s0.getD s5.toNat (dft tItem)).2)).getD s5.toNat (dft tItem)).1, (decide (((wrap64 (s1 + (1 : Int))).tmod (3 : Int)) = (0 : Int))))); rec_ (l2, (wrap64 ((wrap64 (s1 + (1 : Int))) + (1 : Int))), (wrap64 (s5 + (1 : Int))))) else none) else none) else kx (s0, s1))
/-- loop.example/g00474/laws.markItemS -/
def x_laws_markItemS (N : Nat) (a0 : (List (Den tItem))) (a1 : Int) : Option (Int × DenW (.pr (.o 0 tItem) (.d 1 I))) :=
  (iter (B_laws_markItemS_L0 N (fun (x3, x4) => some (x4, x3, ())) (fun ρ5 => some (ρ5))) N (a0, a1, (0 : Int))).bind fun r => bif (Nat.beq a0.length r.2.1.length && true) then some r else none
abbrev cm_laws_markItemS (N : Nat) : CM := ⟨63, (.pr (.o 0 tItem) (.d 1 I)), (.t I), fun a => x_laws_markItemS N a.1 a.2⟩
theorem c_laws_markItemS (N : Nat) : CMok Try.prog (cm_laws_markItemS N) :=
  CM_ok (Γ := [.c (ct_laws_markText N)]) (Θ := []) (Λ := ([⟨0, 1, (.pr (.o 0 tItem) (.pr (.d 1 I) (.d 5 I))), (.pr (.o 0 tItem) (.d 1 I)), fun {Ω} kx kr => iter (B_laws_markItemS_L0 N kx kr) N⟩] : List (LC (DenR (.t I) × DenW (.pr (.o 0 tItem) (.d 1 I)))))) (by kernel_rfl) mixed ⟨c_laws_markText N, trivial⟩ (by kernel_rfl)
    ⟨LoopEq.mk N (fun Ω kx kr => B_laws_markItemS_L0 N kx kr) (fun Ω g kx kr s => by kernel_rfl), trivial⟩ (by kernel_rfl) (fun a => by kernel_rfl)

/-- a round -/
def B_laws_markShelfS_L0 (N : Nat) {Ω : Type} (kx : DenS (.pr (.o 0 tShelf) (.d 1 I)) → Option Ω) (kr : (Int × DenW (.pr (.o 0 tShelf) (.d 1 I))) → Option Ω) (rec_ : DenS (.pr (.o 0 tShelf) (.pr (.d 1 I) (.d 5 I))) → Option Ω) : DenS (.pr (.o 0 tShelf) (.pr (.d 1 I) (.d 5 I))) → Option Ω := fun (s0, s1, s5) =>
  (bif (decide (s5 < (s0.length : Int))) then (bif (decide (0 ≤ s5) && decide (s5 < s0.length)) then (bif (decide (0 ≤ s5) && decide (s5 < (s0.set s5.toNat (s1, (s0.getD s5.toNat (dft tShelf)).2)).length)) then (bif (Nat.beq s5.toNat s5.toNat) then (x_laws_markItemS N (((s0.set s5.toNat (s1, (s0.getD s5.toNat (dft tShelf)).2)).getD s5.toNat (dft tShelf)).2) (wrap64 (s1 + (1 : Int)))).bind fun r1 => rec_ (((s0.set s5.toNat (s1, (s0.getD s5.toNat (dft tShelf)).2)).set s5.toNat (((s0.set s5.toNat (s1, (s0.getD s5.toNat (dft tShelf)).2)).getD s5.toNat (dft tShelf)).1, r1.2.1)), r1.1, (wrap64 (s5 + (1 : Int)))) else none) else none) else none) else kx (s0, s1))
/-- loop.example/g00474/laws.markShelfS -/
def x_laws_markShelfS (N : Nat) (a0 : (List (Den tShelf))) (a1 : Int) : Option (Int × DenW (.pr (.o 0 tShelf) (.d 1 I))) :=
  (iter (B_laws_markShelfS_L0 N (fun (x2, x3) => some (x3, x2, ())) (fun ρ4 => some (ρ4))) N (a0, a1, (0 : Int))).bind fun r => bif (Nat.beq a0.length r.2.1.length && true) then some r else none
abbrev cm_laws_markShelfS (N : Nat) : CM := ⟨140, (.pr (.o 0 tShelf) (.d 1 I)), (.t I), fun a => x_laws_markShelfS N a.1 a.2⟩
theorem c_laws_markShelfS (N : Nat) : CMok Try.prog (cm_laws_markShelfS N) :=
  CM_ok (Γ := [.m (cm_laws_markItemS N)]) (Θ := []) (Λ := ([⟨0, 1, (.pr (.o 0 tShelf) (.pr (.d 1 I) (.d 5 I))), (.pr (.o 0 tShelf) (.d 1 I)), fun {Ω} kx kr => iter (B_laws_markShelfS_L0 N kx kr) N⟩] : List (LC (DenR (.t I) × DenW (.pr (.o 0 tShelf) (.d 1 I)))))) (by kernel_rfl) mixed ⟨c_laws_markItemS N, trivial⟩ (by kernel_rfl)
    ⟨LoopEq.mk N (fun Ω kx kr => B_laws_markShelfS_L0 N kx kr) (fun Ω g kx kr s => by kernel_rfl), trivial⟩ (by kernel_rfl) (fun a => by kernel_rfl)

/-- a round -/
def B_laws_markPeerS_L0 (N : Nat) {Ω : Type} (kx : DenS (.pr (.o 0 tPeer) (.d 1 I)) → Option Ω) (kr : (Int × DenW (.pr (.o 0 tPeer) (.d 1 I))) → Option Ω) (rec_ : DenS (.pr (.o 0 tPeer) (.pr (.d 1 I) (.d 5 I))) → Option Ω) : DenS (.pr (.o 0 tPeer) (.pr (.d 1 I) (.d 5 I))) → Option Ω := fun (s0, s1, s5) =>
  (bif (decide (s5 < (s0.length : Int))) then (bif (decide (0 ≤ s5) && decide (s5 < s0.length)) then (bif (decide (0 ≤ s5) && decide (s5 < (s0.set s5.toNat (s1, (s0.getD s5.toNat (dft tPeer)).2)).length)) then (let l1 : List (Den tPeer) := ((s0.set s5.toNat (s1, (s0.getD s5.toNat (dft tPeer)).2)).set s5.toNat (((s0.set s5.toNat (s1, (s0.getD s5.toNat (dft tPeer)).2)).getD s5.toNat (dft tPeer)).1, (decide (((wrap64 (s1 + (1 : Int))).tmod (3 : Int)) = (0 : Int))), (((s0.set s5.toNat (s1, (s0.getD s5.toNat (dft tPeer)).2)).getD s5.toNat (dft tPeer)).2).2)); (bif (decide (0 ≤ s5) && decide (s5 < l1.length)) then (let l2 : List (Den tPeer) := (l1.set s5.toNat ((l1.getD s5.toNat (dft tPeer)).1, ((l1.getD s5.toNat (dft tPeer)).2).1, (wrap64 ((wrap64 (s1 + (1 : Int))) + (1 : Int))), (((l1.getD s5.toNat (dft tPeer)).2).2).2)); (bif (decide (0 ≤ s5) && decide (s5 < l2.length)) then (bif (Nat.beq s5.toNat s5.toNat) then (x_laws_markIntS N (((((l2.getD s5.toNat (dft tPeer)).2).2).2).1) (wrap64 ((wrap64 ((wrap64 (s1 + (1 : Int))) + (1 : Int))) + (1 : Int)))).bind fun r3 => (bif (decide (0 ≤ s5) && decide (s5 < (l2.set s5.toNat ((l2.getD s5.toNat (dft tPeer)).1, ((l2.getD s5.toNat (dft tPeer)).2).1, (((l2.getD s5.toNat (dft tPeer)).2).2).1, r3.2.1, ((((l2.getD s5.toNat (dft tPeer)).2).2).2).2)).length)) then (bif (Nat.beq s5.toNat s5.toNat) then (x_laws_markIntS N (((((((l2.set s5.toNat ((l2.getD s5.toNat (dft tPeer)).1, ((l2.getD s5.toNat (dft tPeer)).2).1, (((l2.getD s5.toNat (dft tPeer)).2).2).1, r3.2.1, ((((l2.getD s5.toNat (dft tPeer)).2).2).2).2)).getD s5.toNat (dft tPeer)).2).2).2).2).1) r3.1).bind fun r4 => (bif (decide (0 ≤ s5) && decide (s5 < ((l2.set s5.toNat ((l2.getD s5.toNat (dft tPeer)).1, ((l2.getD s5.toNat (dft tPeer)).2).1, (((l2.getD s5.toNat (dft tPeer)).2).2).1, r3.2.1, ((((l2.getD s5.toNat (dft tPeer)).2).2).2).2)).set s5.toNat (((l2.set s5.toNat ((l2.getD s5.toNat (dft tPeer)).1, ((l2.getD s5.toNat (dft tPeer)).2).1, (((l2.getD s5.toNat (dft tPeer)).2).2).1, r3.2.1, ((((l2.getD s5.toNat (dft tPeer)).2).2).2).2)).getD s5.toNat (dft tPeer)).1, (((l2.set s5.toNat ((l2.getD s5.toNat (dft tPeer)).1, ((l2.getD s5.toNat (dft tPeer)).2).1, (((l2.getD s5.toNat (dft tPeer)).2).2).1, r3.2.1, ((((l2.getD s5.toNat (dft tPeer)).2).2).2).2)).getD s5.toNat (dft tPeer)).2).1, ((((l2.set s5.toNat ((l2.getD s5.toNat (dft tPeer)).1, ((l2.getD s5.toNat (dft tPeer)).2).1, (((l2.getD s5.toNat (dft tPeer)).2).2).1, r3.2.1, ((((l2.getD s5.toNat (dft tPeer)).2).2).2).2)).getD s5.toNat (dft tPeer)).2).2).1, (((((l2.set s5.toNat ((l2.getD s5.toNat (dft tPeer)).1, ((l2.getD s5.toNat (dft tPeer)).2).1, (((l2.getD s5.toNat (dft tPeer)).2).2).1, r3.2.1, ((((l2.getD s5.toNat (dft tPeer)).2).2).2).2)).getD s5.toNat (dft tPeer)).2).2).2).1, r4.2.1, ((((((l2.set s5.toNat ((l2.getD s5.toNat (dft tPeer)).1, ((l2.getD s5.toNat (dft tPeer)).2).1, (((l2.getD s5.toNat (dft tPeer)).2).2).1, r3.2.1, ((((l2.getD s5.toNat (dft tPeer)).2).2).2).2)).getD s5.toNat (dft tPeer)).2).2).2).2).2)).length)) then (bif (Nat.beq s5.toNat s5.toNat) then (x_laws_markShelfS N ((((((((l2.set s5.toNat ((l2.getD s5.toNat (dft tPeer)).1, ((l2.getD s5.toNat (dft tPeer)).2).1, (((l2.getD s5.toNat (dft tPeer)).2).2).1, r3.2.1, ((((l2.getD s5.toNat (dft tPeer)).2).2).2).2)).set s5.toNat (((l2.set s5.toNat ((l2.getD s5.toNat (dft tPeer)).1, ((l2.getD s5.toNat (dft tPeer)).2).1, (((l2.getD s5.toNat (dft tPeer)).2).2).1, r3.2.1, ((((l2.getD s5.toNat (dft tPeer)).2).2).2).2)).getD s5.toNat (dft tPeer)).1, (((l2.set s5.toNat ((l2.getD s5.toNat (dft tPeer)).1, ((l2.getD s5.toNat (dft tPeer)).2).1, (((l2.getD s5.toNat (dft tPeer)).2).2).1, r3.2.1, ((((l2.getD s5.toNat (dft tPeer)).2).2).2).2)).getD s5.toNat (dft tPeer)).2).1, ((((l2.set s5.toNat ((l2.getD s5.toNat (dft tPeer)).1, ((l2.getD s5.toNat (dft tPeer)).2).1, (((l2.getD s5.toNat (dft tPeer)).2).2).1, r3.2.1, ((((l2.getD s5.toNat (dft tPeer)).2).2).2).2)).getD s5.toNat (dft tPeer)).2).2).1, (((((l2.set s5.toNat ((l2.getD s5.toNat (dft tPeer)).1, ((l2.getD s5.toNat (dft tPeer)).2).1, (((l2.getD s5.toNat (dft tPeer)).2).2).1, r3.2.1, ((((l2.getD s5.toNat (dft tPeer)).2).2).2).2)).getD s5.toNat (dft tPeer)).2).2).2).1, r4.2.1, ((((((l2.set s5.toNat ((l2.getD s5.toNat (dft tPeer)).1, ((l2.getD s5.toNat (dft tPeer)).2).1, (((l2.getD s5.toNat (dft tPeer)).2).2).1, r3.2.1, ((((l2.getD s5.toNat (dft tPeer)).2).2).2).2)).getD s5.toNat (dft tPeer)).2).2).2).2).2)).getD s5.toNat (dft tPeer)).2).2).2).2).2) r4.1).bind fun r5 => rec_ ((((l2.set s5.toNat ((l2.getD s5.toNat (dft tPeer)).1, ((l2.getD s5.toNat (dft tPeer)).2).1, (((l2.getD s5.toNat (dft tPeer)).2).2).1, r3.2.1, ((((l2.getD s5.toNat (dft tPeer)).2).2).2).2)).set s5.toNat (((l2.set s5.toNat ((l2.getD s5.toNat (dft tPeer)).1, ((l2.getD s5.toNat (dft tPeer)).2).1, (((l2.getD s5.toNat (dft tPeer)).2).2).1, r3.2.1, ((((l2.getD s5.toNat (dft tPeer)).2).2).2).2)).getD s5.toNat (dft tPeer)).1, (((l2.set s5.toNat ((l2.getD s5.toNat (dft tPeer)).1, ((l2.getD s5.toNat (dft tPeer)).2).1, (((l2.getD s5.toNat (dft tPeer)).2).2).1, r3.2.1, ((((l2.getD s5.toNat (dft tPeer)).2).2).2).2)).getD s5.toNat (dft tPeer)).2).1, ((((l2.set s5.toNat ((l2.getD s5.toNat (dft tPeer)).1, ((l2.getD s5.toNat (dft tPeer)).2).1, (((l2.getD s5.toNat (dft tPeer)).2).2).1, r3.2.1, ((((l2.getD s5.toNat (dft tPeer)).2).2).2).2)).getD s5.toNat (dft tPeer)).2).2).1, (((((l2.set s5.toNat ((l2.getD s5.toNat (dft tPeer)).1, ((l2.getD s5.toNat (dft tPeer)).2).1, (((l2.getD s5.toNat (dft tPeer)).2).2).1, r3.2.1, ((((l2.getD s5.toNat (dft tPeer)).2).2).2).2)).getD s5.toNat (dft tPeer)).2).2).2).1, r4.2.1, ((((((l2.set s5.toNat ((l2.getD s5.toNat (dft tPeer)).1, ((l2.getD s5.toNat (dft tPeer)).2).1, (((l2.getD s5.toNat (dft tPeer)).2).2).1, r3.2.1, ((((l2.getD s5.toNat (dft tPeer)).2).2).2).2)).getD s5.toNat (dft tPeer)).2).2).2).2).2)).set s5.toNat ((((l2.set s5.toNat ((l2.getD s5.toNat (dft tPeer)).1, ((l2.getD s5.toNat (dft tPeer)).2).1, (((l2.getD s5.toNat (dft tPeer)).2).2).1, r3.2.1, ((((l2.getD s5.toNat (dft tPeer)).2).2).2).2)).set s5.toNat (((l2.set s5.toNat ((l2.getD s5.toNat (dft tPeer)).1, ((l2.getD s5.toNat (dft tPeer)).2).1, (((l2.getD s5.toNat (dft tPeer)).2).2).1, r3.2.1, ((((l2.getD s5.toNat (dft tPeer)).2).2).2).2)).getD s5.toNat (dft tPeer)).1, (((l2.set s5.toNat ((l2.getD s5.toNat (dft tPeer)).1, ((l2.getD s5.toNat (dft tPeer)).2).1, (((l2.getD s5.toNat (dft tPeer)).2).2).1, r3.2.1, ((((l2.getD s5.toNat (dft tPeer)).2).2).2).2)).getD s5.toNat (dft tPeer)).2).1, ((((l2.set s5.toNat ((l2.getD s5.toNat (dft tPeer)).1, ((l2.getD s5.toNat (dft tPeer)).2).1, (((l2.getD s5.toNat (dft tPeer)).2).2).1, r3.2.1, ((((l2.getD s5.toNat (dft tPeer)).2).2).2).2)).getD s5.toNat (dft tPeer)).2).2).1, (((((l2.set s5.toNat ((l2.getD s5.toNat (dft tPeer)).1, ((l2.getD s5.toNat (dft tPeer)).2).1, (((l2.getD s5.toNat (dft tPeer)).2).2).1, r3.2.1, ((((l2.getD s5.toNat (dft tPeer)).2).2).2).2)).getD s5.toNat (dft tPeer)).2).2).2).1, r4.2.1, ((((((l2.set s5.toNat ((l2.getD s5.toNat (dft tPeer)).1, ((l2.getD s5.toNat (dft tPeer)).2).1, (((l2.getD s5.toNat (dft tPeer)).2).2).1, r3.2.1, ((((l2.getD s5.toNat (dft tPeer)).2).2).2).2)).getD s5.toNat (dft tPeer)).2).2).2).2).2)).getD s5.toNat (dft tPeer)).1, ((((l2.set s5.toNat ((l2.getD s5.toNat (dft tPeer)).1, ((l2.getD s5.toNat (dft tPeer)).2).1, (((l2.getD s5.toNat (dft tPeer)).2).2).1, r3.2.1, ((((l2.getD s5.toNat (dft tPeer)).2).2).2).2)).set s5.toNat (((l2.set s5.toNat ((l2.getD s5.toNat (dft tPeer)).1, ((l2.getD s5.toNat (dft tPeer)).2).1, (((l2.getD s5.toNat (dft tPeer)).2).2).1, r3.2.1, ((((l2.getD s5.toNat (dft tPeer)).2).2).2).2)).getD s5.toNat (dft tPeer)).1, (((l2.set s5.toNat ((l2.getD s5.toNat (dft tPeer)).1, ((l2.getD s5.toNat (dft tPeer)).2).1, (((l2.getD s5.toNat (dft tPeer)).2).2).1, r3.2.1, ((((l2.getD s5.toNat (dft tPeer)).2).2).2).2)).getD s5.toNat (dft tPeer)).2).1, ((((l2.set s5.toNat ((l2.getD s5.toNat (dft tPeer)).1, ((l2.getD s5.toNat (dft tPeer)).2).1, (((l2.getD s5.toNat (dft tPeer)).2).2).1, r3.2.1, ((((l2.getD s5.toNat (dft tPeer)).2).2).2).2)).getD s5.toNat (dft tPeer)).2).2).1, (((((l2.set s5.toNat ((l2.getD s5.toNat (dft tPeer)).1, ((l2.getD s5.toNat (dft tPeer)).2).1, (((l2.getD s5.toNat (dft tPeer)).2).2).1, r3.2.1, ((((l2.getD s5.toNat (dft tPeer)).2).2).2).2)).getD s5.toNat (dft tPeer)).2).2).2).1, r4.2.1, ((((((l2.set s5.toNat ((l2.getD s5.toNat (dft tPeer)).1, ((l2.getD s5.toNat (dft tPeer)).2).1, (((l2.getD s5.toNat (dft tPeer)).2).2).1, r3.2.1, ((((l2.getD s5.toNat (dft tPeer)).2).2).2).2)).getD s5.toNat (dft tPeer)).2).2).2).2).2)).getD s5.toNat (dft tPeer)).2).1, (((((l2.set s5.toNat ((l2.getD s5.toNat (dft tPeer)).1, ((l2.getD s5.toNat (dft tPeer)).2).1, (((l2.getD s5.toNat (dft tPeer)).2).2).1, r3.2.1, ((((l2.getD s5.toNat (dft tPeer)).2).2).2).2)).set s5.toNat (((l2.set s5.toNat ((l2.getD s5.toNat (dft tPeer)).1, ((l2.getD s5.toNat (dft tPeer)).2).1, (((l2.getD s5.toNat (dft tPeer)).2).2).1, r3.2.1, ((((l2.getD s5.toNat (dft tPeer)).2).2).2).2)).getD s5.toNat (dft tPeer)).1, (((l2.set s5.toNat ((l2.getD s5.toNat (dft tPeer)).1, ((l2.getD s5.toNat (dft tPeer)).2).1, (((l2.getD s5.toNat (dft tPeer)).2).2).1, r3.2.1, ((((l2.getD s5.toNat (dft tPeer)).2).2).2).2)).getD s5.toNat (dft tPeer)).2).1, ((((l2.set s5.toNat ((l2.getD s5.toNat (dft tPeer)).1, ((l2.getD s5.toNat (dft tPeer)).2).1, (((l2.getD s5.toNat (dft tPeer)).2).2).1, r3.2.1, ((((l2.getD s5.toNat (dft tPeer)).2).2).2).2)).getD s5.toNat (dft tPeer)).2).2).1, (((((l2.set s5.toNat ((l2.getD s5.toNat (dft tPeer)).1, ((l2.getD s5.toNat (dft tPeer)).2).1, (((l2.getD s5.toNat (dft tPeer)).2).2).1, r3.2.1, ((((l2.getD s5.toNat (dft tPeer)).2).2).2).2)).getD s5.toNat (dft tPeer)).2).2).2).1, r4.2.1, ((((((l2.set s5.toNat ((l2.getD s5.toNat (dft tPeer)).1, ((l2.getD s5.toNat (dft tPeer)).2).1, (((l2.getD s5.toNat (dft tPeer)).2).2).1, r3.2.1, ((((l2.getD s5.toNat (dft tPeer)).2).2).2).2)).getD s5.toNat (dft tPeer)).2).2).2).2).2)).getD s5.toNat (dft tPeer)).2).2).1, ((((((l2.set s5.toNat ((l2.getD s5.toNat (dft tPeer)).1, ((l2.getD s5.toNat (dft tPeer)).2).1, (((l2.getD s5.toNat (dft tPeer)).2).2).1, r3.2.1, ((((l2.getD s5.toNat (dft tPeer)).2).2).2).2)).set s5.toNat (((l2.set s5.toNat ((l2.getD s5.toNat (dft tPeer)).1, ((l2.getD s5.toNat (dft tPeer)).2).1, (((l2.getD s5.toNat (dft tPeer)).2).2).1, r3.2.1, ((((l2.getD s5.toNat (dft tPeer)).2).2).2).2)).getD s5.toNat (dft tPeer)).1, (((l2.set s5.toNat ((l2.getD s5.toNat (dft tPeer)).1, ((l2.getD s5.toNat (dft tPeer)).2).1, (((l2.getD s5.toNat (dft tPeer)).2).2).1, r3.2.1, ((((l2.getD s5.toNat (dft tPeer)).2).2).2).2)).getD s5.toNat (dft tPeer)).2).1, ((((l2.set s5.toNat ((l2.getD s5.toNat (dft tPeer)).1, ((l2.getD s5.toNat (dft tPeer)).2).1, (((l2.getD s5.toNat (dft tPeer)).2).2).1, r3.2.1, ((((l2.getD s5.toNat (dft tPeer)).2).2).2).2)).getD s5.toNat (dft tPeer)).2).2).1, (((((l2.set s5.toNat ((l2.getD s5.toNat (dft tPeer)).1, ((l2.getD s5.toNat (dft tPeer)).2).1, (((l2.getD s5.toNat (dft tPeer)).2).2).1, r3.2.1, ((((l2.getD s5.toNat (dft tPeer)).2).2).2).2)).getD s5.toNat (dft tPeer)).2).2).2).1, r4.2.1, ((((((l2.set s5.toNat ((l2.getD s5.toNat (dft tPeer)).1, ((l2.getD s5.toNat (dft tPeer)).2).1, (((l2.getD s5.toNat (dft tPeer)).2).2).1, r3.2.1, ((((l2.getD s5.toNat (dft tPeer)).2).2).2).2)).getD s5.toNat (dft tPeer)).2).2).2).2).2)).getD s5.toNat (dft tPeer)).2).2).2).1, (((((((l2.set s5.toNat ((l2.getD s5.toNat (dft tPeer)).1, ((l2.getD s5.toNat (dft tPeer)).2).1, (((l2.getD s5.toNat (dft tPeer)).2).2).1, r3.2.1, ((((l2.getD s5.toNat (dft tPeer)).2).2).2).2)).set s5.toNat (((l2.set s5.toNat ((l2.getD s5.toNat (dft tPeer)).1, ((l2.getD s5.toNat (dft tPeer)).2).1, (((l2.getD s5.toNat (dft tPeer)).2).2).1, r3.2.1, ((((l2.getD s5.toNat (dft tPeer)).2).2).2).2)).getD s5.toNat (dft tPeer)).1, (((l2.set s5.toNat ((l2.getD s5.toNat (dft tPeer)).1, ((l2.getD s5.toNat (dft tPeer)).2).1, (((l2.getD s5.toNat (dft tPeer)).2).2).1, r3.2.1, ((((l2.getD s5.toNat (dft tPeer)).2).2).2).2)).getD s5.toNat (dft tPeer)).2).1, ((((l2.set s5.toNat ((l2.getD s5.toNat (dft tPeer)).1, ((l2.getD s5.toNat (dft tPeer)).2).1, (((l2.getD s5.toNat (dft tPeer)).2).2).1, r3.2.1, ((((l2.getD s5.toNat (dft tPeer)).2).2).2).2)).getD s5.toNat (dft tPeer)).2).2).1, (((((l2.set s5.toNat ((l2.getD s5.toNat (dft tPeer)).1, ((l2.getD s5.toNat (dft tPeer)).2).1, (((l2.getD s5.toNat (dft tPeer)).2).2).1, r3.2.1, ((((l2.getD s5.toNat (dft tPeer)).2).2).2).2)).getD s5.toNat (dft tPeer)).2).2).2).1, r4.2.1, ((((((l2.set s5.toNat ((l2.getD s5.toNat (dft tPeer)).1, ((l2.getD s5.toNat (dft tPeer)).2).1, (((l2.getD s5.toNat (dft tPeer)).2).2).1, r3.2.1, ((((l2.getD s5.toNat (dft tPeer)).2).2).2).2)).getD s5.toNat (dft tPeer)).2).2).2).2).2)).getD s5.toNat (dft tPeer)).2).2).2).2).1, r5.2.1)), r5.1, (wrap64 (s5 + (1 : Int)))) else none) else none) else none) else none) else none) else none)) else none)) else none) else none) else kx (s0, s1))
/-- loop.example/g00474/laws.markPeerS -/
def x_laws_markPeerS (N : Nat) (a0 : (List (Den tPeer))) (a1 : Int) : Option (Int × DenW (.pr (.o 0 tPeer) (.d 1 I))) :=
  (iter (B_laws_markPeerS_L0 N (fun (x6, x7) => some (x7, x6, ())) (fun ρ8 => some (ρ8))) N (a0, a1, (0 : Int))).bind fun r => bif (Nat.beq a0.length r.2.1.length && true) then some r else none
abbrev cm_laws_markPeerS (N : Nat) : CM := ⟨82, (.pr (.o 0 tPeer) (.d 1 I)), (.t I), fun a => x_laws_markPeerS N a.1 a.2⟩
theorem c_laws_markPeerS (N : Nat) : CMok Try.prog (cm_laws_markPeerS N) :=
  CM_ok (Γ := [.m (cm_laws_markIntS N), .m (cm_laws_markShelfS N)]) (Θ := []) (Λ := ([⟨0, 1, (.pr (.o 0 tPeer) (.pr (.d 1 I) (.d 5 I))), (.pr (.o 0 tPeer) (.d 1 I)), fun {Ω} kx kr => iter (B_laws_markPeerS_L0 N kx kr) N⟩] : List (LC (DenR (.t I) × DenW (.pr (.o 0 tPeer) (.d 1 I)))))) (by kernel_rfl) mixed ⟨c_laws_markIntS N, ⟨c_laws_markShelfS N, trivial⟩⟩ (by kernel_rfl)
    ⟨LoopEq.mk N (fun Ω kx kr => B_laws_markPeerS_L0 N kx kr) (fun Ω g kx kr s => by kernel_rfl), trivial⟩ (by kernel_rfl) (fun a => by kernel_rfl)

/-- loop.example/g00474/laws.markRing -/
def x_laws_markRing (N : Nat) (a0 : (Den tRing)) (a1 : Int) : Option (Int × DenW (.pr (.ow 0 tRing) (.d 1 I))) :=
  ((x_laws_markPeerS N a0 a1).bind fun r1 => some (r1.1, r1.2.1, ())).bind fun r => bif (Nat.beq a0.length r.2.1.length && true) then some r else none
abbrev cm_laws_markRing (N : Nat) : CM := ⟨28, (.pr (.ow 0 tRing) (.d 1 I)), (.t I), fun a => x_laws_markRing N a.1 a.2⟩
theorem c_laws_markRing (N : Nat) : CMok Try.prog (cm_laws_markRing N) :=
  CM_ok (Γ := [.m (cm_laws_markPeerS N)]) (Θ := []) (Λ := ([] : List (LC (DenR (.t I) × DenW (.pr (.ow 0 tRing) (.d 1 I)))))) (by kernel_rfl) mixed ⟨c_laws_markPeerS N, trivial⟩ (by kernel_rfl)
    trivial (by kernel_rfl) (fun a => by kernel_rfl)

/-- a round -/
def B_laws_heldIntS_L0 (N : Nat) {Ω : Type} (kx : DenS (.d 1 I) → Option Ω) (kr : Int → Option Ω) (rec_ : DenS (.pr (.d 0 (.sl I)) (.pr (.d 1 I) (.d 5 I))) → Option Ω) : DenS (.pr (.d 0 (.sl I)) (.pr (.d 1 I) (.d 5 I))) → Option Ω := fun (s0, s1, s5) =>
  (bif (decide (s5 < (s0.length : Int))) then (bif (decide (0 ≤ s5) && decide (s5 < s0.length)) then (bif (!decide ((s0.getD s5.toNat (0 : Int)) = s1)) then kr (-1 : Int) else rec_ (s0, (wrap64 (s1 + (1 : Int))), (wrap64 (s5 + (1 : Int))))) else none) else kx s1)
/-- loop.example/g00474/laws.heldIntS -/
def x_laws_heldIntS (N : Nat) (a0 : (List Int)) (a1 : Int) : Option Int :=
  iter (B_laws_heldIntS_L0 N (fun x1 => some x1) (fun ρ2 => some (ρ2))) N (a0, a1, (0 : Int))
abbrev ct_laws_heldIntS (N : Nat) : CT := ⟨30, (.pr (.d (.sl I)) (.d I)), (.t I), fun a => x_laws_heldIntS N a.1 a.2⟩
theorem c_laws_heldIntS (N : Nat) : CTok Try.prog (ct_laws_heldIntS N) :=
  CT_ok (Γ := []) (Θ := []) (Λ := ([⟨0, 0, (.pr (.d 0 (.sl I)) (.pr (.d 1 I) (.d 5 I))), (.d 1 I), fun {Ω} kx kr => iter (B_laws_heldIntS_L0 N kx kr) N⟩] : List (LC (DenR (.t I))))) (by kernel_rfl) mixed trivial (by kernel_rfl)
    ⟨LoopEq.mk N (fun Ω kx kr => B_laws_heldIntS_L0 N kx kr) (fun Ω g kx kr s => by kernel_rfl), trivial⟩ (by kernel_rfl) (fun a => by kernel_rfl)

/-- loop.example/g00474/laws.FnExactHoldersOf -/
def x_laws_FnExactHoldersOf (N : Nat) (a0 : (Den tRing)) (a1 : Int) : Option Bool :=
  (x_laws_szRing N a0 (1048576 : Int)).bind fun r1 => (bif (decide (r1 < (0 : Int))) then some true else (x_laws_toRing N a0).bind fun r2 => (x_spec_HoldersOf N r2 a1).bind fun r3 => (x_laws_toRing N a0).bind fun r4 => (x_impl_HoldersOf N r4 a1).bind fun r5 => (x_laws_eqIntS N r5 r3).bind fun r6 => (bif (!r6) then some false else (x_laws_toRing N a0).bind fun r7 => (x_laws_eqRing N r4 r7).bind fun r8 => (bif (!r8) then some false else (x_laws_markRing N r4 (1 : Int)).bind fun r9 => (bif (decide (r9.1 < (0 : Int))) then some false else (x_laws_eqIntS N r5 r3).bind fun r10 => (bif (!r10) then some false else (x_laws_markIntS N r5 (1 : Int)).bind fun r11 => (x_laws_heldIntS N r11.2.1 (1 : Int)).bind fun r12 => (bif (decide (r12 < (0 : Int))) then some false else (bif (!decide (r12 = r11.1)) then some false else (x_laws_toRing N a0).bind fun r13 => (x_impl_HoldersOf N r13 a1).bind fun r14 => (x_laws_eqIntS N r14 r3).bind fun r15 => (bif (!r15) then some false else (x_laws_heldIntS N r11.2.1 (1 : Int)).bind fun r16 => (bif (decide (r16 < (0 : Int))) then some false else (bif (!decide (r16 = r11.1)) then some false else some true))))))))))
abbrev ct_laws_FnExactHoldersOf (N : Nat) : CT := ⟨4, (.pr (.d tRing) (.d I)), (.t .bl), fun a => x_laws_FnExactHoldersOf N a.1 a.2⟩
theorem c_laws_FnExactHoldersOf (N : Nat) : CTok Try.prog (ct_laws_FnExactHoldersOf N) :=
  CT_ok (Γ := [.c (ct_laws_szRing N), .c (ct_laws_toRing N), .c (ct_spec_HoldersOf N), .c (ct_impl_HoldersOf N), .c (ct_laws_eqIntS N), .c (ct_laws_eqRing N), .m (cm_laws_markRing N), .m (cm_laws_markIntS N), .c (ct_laws_heldIntS N)]) (Θ := []) (Λ := ([] : List (LC (DenR (.t .bl))))) (by kernel_rfl) mixed ⟨c_laws_szRing N, ⟨c_laws_toRing N, ⟨c_spec_HoldersOf N, ⟨c_impl_HoldersOf N, ⟨c_laws_eqIntS N, ⟨c_laws_eqRing N, ⟨c_laws_markRing N, ⟨c_laws_markIntS N, ⟨c_laws_heldIntS N, trivial⟩⟩⟩⟩⟩⟩⟩⟩⟩ (by kernel_rfl)
    trivial (by kernel_rfl) (fun a => by kernel_rfl)

end Go.Proofs.Ytcmlapepofgkpaa.C
