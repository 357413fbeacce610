/- Each function of the program that is reached computes the datum printed here: no condition beyond the arguments that its contract names. -/
import Derived.Test.YtdjaokdklbidaaaNxp
import Derived.Test.YtdjaokdklbidaaaChecked
import Derived.KernelRfl
namespace Go.Proofs.Ytdjaokdklbidaaa.C
open Go Go.Proofs.Ytdjaokdklbidaaa.Nx Go.RowKit
set_option maxRecDepth 100000
set_option linter.unusedVariables false
abbrev I : Ty := .i .i64
abbrev tRole : Ty := (.st (.pr I I))
abbrev tCred : Ty := (.st (.pr I (.pr tRole (.pr I (.pr tRole (.pr tRole (.pr I I)))))))
abbrev tEvent : Ty := (.st (.pr I (.pr I (.pr I (.pr tCred .tx)))))
theorem mixed : Try.prog.follows .mixedOrders = true := by kernel_rfl

/-- loop.example/g00474/laws.szEvent -/
def x_laws_szEvent (N : Nat) (a0 : (Den tEvent)) (a1 : Int) : Option Int :=
  (bif (decide ((wrap64 (a1 - (a0.2.2.2.2.size : Int))) < (0 : Int))) then some (-1 : Int) else some (wrap64 (a1 - (a0.2.2.2.2.size : Int))))
abbrev ct_laws_szEvent (N : Nat) : CT := ⟨25, (.pr (.d tEvent) (.d I)), (.t I), fun a => x_laws_szEvent N a.1 a.2⟩
theorem c_laws_szEvent (N : Nat) : CTok Try.prog (ct_laws_szEvent N) :=
  CT_ok (Γ := []) (Θ := []) (Λ := ([] : List (LC (DenR (.t I))))) (by kernel_rfl) mixed trivial (by kernel_rfl)
    trivial (by kernel_rfl) (fun a => by kernel_rfl)

/-- loop.example/g00474/laws.toRole -/
def x_laws_toRole (N : Nat) (a0 : (Den tRole)) : Option (Den tRole) :=
  some a0
abbrev ct_laws_toRole (N : Nat) : CT := ⟨103, (.d tRole), (.t tRole), fun a => x_laws_toRole N a⟩
theorem c_laws_toRole (N : Nat) : CTok Try.prog (ct_laws_toRole N) :=
  CT_ok (Γ := []) (Θ := []) (Λ := ([] : List (LC (DenR (.t tRole))))) (by kernel_rfl) mixed trivial (by kernel_rfl)
    trivial (by kernel_rfl) (fun a => by kernel_rfl)

/-- loop.example/g00474/laws.toCred -/
def x_laws_toCred (N : Nat) (a0 : (Den tCred)) : Option (Den tCred) :=
  (x_laws_toRole N a0.2.1).bind fun r1 => (x_laws_toRole N a0.2.2.2.1).bind fun r2 => (x_laws_toRole N a0.2.2.2.2.1).bind fun r3 => some (a0.1, r1, a0.2.2.1, r2, r3, a0.2.2.2.2.2)
abbrev ct_laws_toCred (N : Nat) : CT := ⟨65, (.d tCred), (.t tCred), fun a => x_laws_toCred N a⟩
theorem c_laws_toCred (N : Nat) : CTok Try.prog (ct_laws_toCred N) :=
  CT_ok (Γ := [ct_laws_toRole N]) (Θ := []) (Λ := ([] : List (LC (DenR (.t tCred))))) (by kernel_rfl) mixed ⟨c_laws_toRole N, trivial⟩ (by kernel_rfl)
    trivial (by kernel_rfl) (fun a => by kernel_rfl)

/-- loop.example/g00474/laws.toEvent -/
def x_laws_toEvent (N : Nat) (a0 : (Den tEvent)) : Option (Den tEvent) :=
  (x_laws_toCred N a0.2.2.2.1).bind fun r1 => some (a0.1, a0.2.1, a0.2.2.1, r1, a0.2.2.2.2)
abbrev ct_laws_toEvent (N : Nat) : CT := ⟨27, (.d tEvent), (.t tEvent), fun a => x_laws_toEvent N a⟩
theorem c_laws_toEvent (N : Nat) : CTok Try.prog (ct_laws_toEvent N) :=
  CT_ok (Γ := [ct_laws_toCred N]) (Θ := []) (Λ := ([] : List (LC (DenR (.t tEvent))))) (by kernel_rfl) mixed ⟨c_laws_toCred N, trivial⟩ (by kernel_rfl)
    trivial (by kernel_rfl) (fun a => by kernel_rfl)

/-- loop.example/g00474/spec.l01In -/
def x_spec_l01In (N : Nat) (a0 : Int) (a1 : Int) (a2 : Int) : Option Bool :=
  (bif (decide (a1 ≤ a0)) then some (decide (a0 ≤ a2)) else some false)
abbrev ct_spec_l01In (N : Nat) : CT := ⟨62, (.pr (.d I) (.pr (.d I) (.d I))), (.t .bl), fun a => x_spec_l01In N a.1 a.2.1 a.2.2⟩
theorem c_spec_l01In (N : Nat) : CTok Try.prog (ct_spec_l01In N) :=
  CT_ok (Γ := []) (Θ := []) (Λ := ([] : List (LC (DenR (.t .bl))))) (by kernel_rfl) mixed trivial (by kernel_rfl)
    trivial (by kernel_rfl) (fun a => by kernel_rfl)

/-- loop.example/g00474/spec.l14Credless -/
def x_spec_l14Credless (N : Nat) (a0 : Int) : Option Bool :=
  (bif (!decide (a0 = (7 : Int))) then (bif (!decide (a0 = (8 : Int))) then some (!decide (a0 = (9 : Int))) else some false) else some false)
abbrev ct_spec_l14Credless (N : Nat) : CT := ⟨63, (.d I), (.t .bl), fun a => x_spec_l14Credless N a⟩
theorem c_spec_l14Credless (N : Nat) : CTok Try.prog (ct_spec_l14Credless N) :=
  CT_ok (Γ := []) (Θ := []) (Λ := ([] : List (LC (DenR (.t .bl))))) (by kernel_rfl) mixed trivial (by kernel_rfl)
    trivial (by kernel_rfl) (fun a => by kernel_rfl)

/-- loop.example/g00474/spec.RoleOk -/
def x_spec_RoleOk (N : Nat) (a0 : (Den tRole)) : Option Bool :=
  (x_spec_l01In N a0.1 (0 : Int) (5 : Int)).bind fun r1 => (bif r1 then (x_spec_l01In N a0.2 (0 : Int) (3 : Int)).bind fun r2 => some r2 else some false)
abbrev ct_spec_RoleOk (N : Nat) : CT := ⟨102, (.d tRole), (.t .bl), fun a => x_spec_RoleOk N a⟩
theorem c_spec_RoleOk (N : Nat) : CTok Try.prog (ct_spec_RoleOk N) :=
  CT_ok (Γ := [ct_spec_l01In N]) (Θ := []) (Λ := ([] : List (LC (DenR (.t .bl))))) (by kernel_rfl) mixed ⟨c_spec_l01In N, trivial⟩ (by kernel_rfl)
    trivial (by kernel_rfl) (fun a => by kernel_rfl)

/-- loop.example/g00474/spec.CredOk -/
def x_spec_CredOk (N : Nat) (a0 : (Den tCred)) : Option Bool :=
  (x_spec_RoleOk N a0.2.1).bind fun r1 => (bif (!r1) then some false else (x_spec_l01In N a0.2.2.2.2.2.1 (1 : Int) (9999 : Int)).bind fun r2 => (bif (!r2) then some false else (x_spec_l01In N a0.2.2.2.2.2.2 (0 : Int) (99 : Int)).bind fun r3 => (bif (!r3) then some false else (bif (decide (a0.1 = (1 : Int))) then (x_spec_l01In N a0.2.2.1 (0 : Int) (5 : Int)).bind fun r4 => (bif r4 then (bif (decide (a0.2.2.2.1.1 = (0 : Int)) && decide (a0.2.2.2.1.2 = (0 : Int))) then some (decide (a0.2.2.2.2.1.1 = (0 : Int)) && decide (a0.2.2.2.2.1.2 = (0 : Int))) else some false) else some false) else (bif (decide (a0.1 = (2 : Int))) then (bif (decide (a0.2.2.1 = (0 : Int))) then (x_spec_RoleOk N a0.2.2.2.1).bind fun r5 => (bif r5 then some (decide (a0.2.2.2.2.1.1 = (0 : Int)) && decide (a0.2.2.2.2.1.2 = (0 : Int))) else some false) else some false) else (bif (decide (a0.1 = (3 : Int))) then (bif (decide (a0.2.2.1 = (0 : Int))) then (x_spec_RoleOk N a0.2.2.2.1).bind fun r6 => (bif r6 then (x_spec_RoleOk N a0.2.2.2.2.1).bind fun r7 => (bif r7 then some (decide (a0.2.2.2.2.1.1 = (0 : Int))) else some false) else some false) else some false) else (bif (decide (a0.1 = (4 : Int))) then (bif (decide (a0.2.2.1 = (0 : Int))) then (x_spec_RoleOk N a0.2.2.2.1).bind fun r8 => (bif r8 then (x_spec_RoleOk N a0.2.2.2.2.1).bind fun r9 => some r9 else some false) else some false) else some false)))))))
abbrev ct_spec_CredOk (N : Nat) : CT := ⟨64, (.d tCred), (.t .bl), fun a => x_spec_CredOk N a⟩
theorem c_spec_CredOk (N : Nat) : CTok Try.prog (ct_spec_CredOk N) :=
  CT_ok (Γ := [ct_spec_RoleOk N, ct_spec_l01In N]) (Θ := []) (Λ := ([] : List (LC (DenR (.t .bl))))) (by kernel_rfl) mixed ⟨c_spec_RoleOk N, ⟨c_spec_l01In N, trivial⟩⟩ (by kernel_rfl)
    trivial (by kernel_rfl) (fun a => by kernel_rfl)

/-- loop.example/g00474/spec.EventOk -/
def x_spec_EventOk (N : Nat) (a0 : (Den tEvent)) : Option Bool :=
  (x_spec_l01In N a0.1 (1 : Int) (11 : Int)).bind fun r1 => (bif (!r1) then some false else (bif (decide (a0.2.1 < (0 : Int))) then some false else (bif (decide (a0.2.2.1 < (0 : Int))) then some false else (x_spec_l14Credless N a0.1).bind fun r2 => (bif (!(r2 == (decide (a0.2.2.2.1.1 = (0 : Int)) && (decide (a0.2.2.2.1.2.1.1 = (0 : Int)) && (decide (a0.2.2.2.1.2.1.2 = (0 : Int)) && (decide (a0.2.2.2.1.2.2.1 = (0 : Int)) && (decide (a0.2.2.2.1.2.2.2.1.1 = (0 : Int)) && (decide (a0.2.2.2.1.2.2.2.1.2 = (0 : Int)) && (decide (a0.2.2.2.1.2.2.2.2.1.1 = (0 : Int)) && (decide (a0.2.2.2.1.2.2.2.2.1.2 = (0 : Int)) && (decide (a0.2.2.2.1.2.2.2.2.2.1 = (0 : Int)) && decide (a0.2.2.2.1.2.2.2.2.2.2 = (0 : Int))))))))))))) then some false else (x_spec_l14Credless N a0.1).bind fun r3 => (bif (!r3) then (x_spec_CredOk N a0.2.2.2.1).bind fun r4 => (bif (!r4) then some false else (bif (decide (a0.1 = (9 : Int))) then (bif (!decide (a0.2.2.2.1.1 = (1 : Int))) then some false else (bif (decide (a0.1 = (11 : Int))) then some (decide ((a0.2.2.2.2.size : Int) ≤ (600 : Int))) else some (decide (a0.2.2.2.2 = ByteArray.empty)))) else (bif (decide (a0.1 = (11 : Int))) then some (decide ((a0.2.2.2.2.size : Int) ≤ (600 : Int))) else some (decide (a0.2.2.2.2 = ByteArray.empty))))) else (bif (decide (a0.1 = (9 : Int))) then (bif (!decide (a0.2.2.2.1.1 = (1 : Int))) then some false else (bif (decide (a0.1 = (11 : Int))) then some (decide ((a0.2.2.2.2.size : Int) ≤ (600 : Int))) else some (decide (a0.2.2.2.2 = ByteArray.empty)))) else (bif (decide (a0.1 = (11 : Int))) then some (decide ((a0.2.2.2.2.size : Int) ≤ (600 : Int))) else some (decide (a0.2.2.2.2 = ByteArray.empty)))))))))
abbrev ct_spec_EventOk (N : Nat) : CT := ⟨26, (.d tEvent), (.t .bl), fun a => x_spec_EventOk N a⟩
theorem c_spec_EventOk (N : Nat) : CTok Try.prog (ct_spec_EventOk N) :=
  CT_ok (Γ := [ct_spec_l01In N, ct_spec_l14Credless N, ct_spec_CredOk N]) (Θ := []) (Λ := ([] : List (LC (DenR (.t .bl))))) (by kernel_rfl) mixed ⟨c_spec_l01In N, ⟨c_spec_l14Credless N, ⟨c_spec_CredOk N, trivial⟩⟩⟩ (by kernel_rfl)
    trivial (by kernel_rfl) (fun a => by kernel_rfl)

/-- loop.example/g00474/impl.in -/
def x_impl_in (N : Nat) (a0 : Int) (a1 : Int) (a2 : Int) : Option Bool :=
  (bif (decide (a1 ≤ a0)) then some (decide (a0 ≤ a2)) else some false)
abbrev ct_impl_in (N : Nat) : CT := ⟨66, (.pr (.d I) (.pr (.d I) (.d I))), (.t .bl), fun a => x_impl_in N a.1 a.2.1 a.2.2⟩
theorem c_impl_in (N : Nat) : CTok Try.prog (ct_impl_in N) :=
  CT_ok (Γ := []) (Θ := []) (Λ := ([] : List (LC (DenR (.t .bl))))) (by kernel_rfl) mixed trivial (by kernel_rfl)
    trivial (by kernel_rfl) (fun a => by kernel_rfl)

/-- loop.example/g00474/impl.RoleOk -/
def x_impl_RoleOk (N : Nat) (a0 : (Den tRole)) : Option Bool :=
  (x_impl_in N a0.1 (0 : Int) (5 : Int)).bind fun r1 => (bif r1 then (x_impl_in N a0.2 (0 : Int) (3 : Int)).bind fun r2 => some r2 else some false)
abbrev ct_impl_RoleOk (N : Nat) : CT := ⟨104, (.d tRole), (.t .bl), fun a => x_impl_RoleOk N a⟩
theorem c_impl_RoleOk (N : Nat) : CTok Try.prog (ct_impl_RoleOk N) :=
  CT_ok (Γ := [ct_impl_in N]) (Θ := []) (Λ := ([] : List (LC (DenR (.t .bl))))) (by kernel_rfl) mixed ⟨c_impl_in N, trivial⟩ (by kernel_rfl)
    trivial (by kernel_rfl) (fun a => by kernel_rfl)

/-- loop.example/g00474/impl.isPerson -/
def x_impl_isPerson (N : Nat) (a0 : Int) : Option Bool :=
  (x_impl_in N a0 (0 : Int) (5 : Int)).bind fun r1 => some r1
abbrev ct_impl_isPerson (N : Nat) : CT := ⟨105, (.d I), (.t .bl), fun a => x_impl_isPerson N a⟩
theorem c_impl_isPerson (N : Nat) : CTok Try.prog (ct_impl_isPerson N) :=
  CT_ok (Γ := [ct_impl_in N]) (Θ := []) (Λ := ([] : List (LC (DenR (.t .bl))))) (by kernel_rfl) mixed ⟨c_impl_in N, trivial⟩ (by kernel_rfl)
    trivial (by kernel_rfl) (fun a => by kernel_rfl)

/-- loop.example/g00474/impl.CredOk -/
def x_impl_CredOk (N : Nat) (a0 : (Den tCred)) : Option Bool :=
  (x_impl_RoleOk N a0.2.1).bind fun r1 => (bif (!r1) then some false else (x_impl_in N a0.2.2.2.2.2.1 (1 : Int) (9999 : Int)).bind fun r2 => (bif (!r2) then some false else (x_impl_in N a0.2.2.2.2.2.2 (0 : Int) (99 : Int)).bind fun r3 => (bif (!r3) then some false else (bif (decide (a0.1 = (1 : Int))) then (x_impl_isPerson N a0.2.2.1).bind fun r4 => (bif r4 then (bif (decide (a0.2.2.2.1.1 = (0 : Int)) && decide (a0.2.2.2.1.2 = (0 : Int))) then some (decide (a0.2.2.2.2.1.1 = (0 : Int)) && decide (a0.2.2.2.2.1.2 = (0 : Int))) else some false) else some false) else (bif (decide (a0.1 = (2 : Int))) then (bif (decide (a0.2.2.1 = (0 : Int))) then (x_impl_RoleOk N a0.2.2.2.1).bind fun r5 => (bif r5 then some (decide (a0.2.2.2.2.1.1 = (0 : Int)) && decide (a0.2.2.2.2.1.2 = (0 : Int))) else some false) else some false) else (bif (decide (a0.1 = (3 : Int))) then (bif (decide (a0.2.2.1 = (0 : Int))) then (x_impl_RoleOk N a0.2.2.2.1).bind fun r6 => (bif r6 then (x_impl_RoleOk N a0.2.2.2.2.1).bind fun r7 => (bif r7 then some (decide (a0.2.2.2.2.1.1 = (0 : Int))) else some false) else some false) else some false) else (bif (decide (a0.1 = (4 : Int))) then (bif (decide (a0.2.2.1 = (0 : Int))) then (x_impl_RoleOk N a0.2.2.2.1).bind fun r8 => (bif r8 then (x_impl_RoleOk N a0.2.2.2.2.1).bind fun r9 => some r9 else some false) else some false) else some false)))))))
abbrev ct_impl_CredOk (N : Nat) : CT := ⟨67, (.d tCred), (.t .bl), fun a => x_impl_CredOk N a⟩
theorem c_impl_CredOk (N : Nat) : CTok Try.prog (ct_impl_CredOk N) :=
  CT_ok (Γ := [ct_impl_RoleOk N, ct_impl_in N, ct_impl_isPerson N]) (Θ := []) (Λ := ([] : List (LC (DenR (.t .bl))))) (by kernel_rfl) mixed ⟨c_impl_RoleOk N, ⟨c_impl_in N, ⟨c_impl_isPerson N, trivial⟩⟩⟩ (by kernel_rfl)
    trivial (by kernel_rfl) (fun a => by kernel_rfl)

/-- loop.example/g00474/impl.EventOk -/
def x_impl_EventOk (N : Nat) (a0 : (Den tEvent)) : Option Bool :=
  (x_impl_in N a0.1 (1 : Int) (11 : Int)).bind fun r1 => (bif (!r1) then some false else (bif (decide (a0.2.1 < (0 : Int))) then some false else (bif (decide (a0.2.2.1 < (0 : Int))) then some false else (bif (decide ((600 : Int) < (a0.2.2.2.2.size : Int))) then some false else (bif (!decide (a0.2.2.2.2 = ByteArray.empty)) then (bif (!decide (a0.1 = (11 : Int))) then some false else (bif (decide (a0.1 = (7 : Int))) then (bif (decide (a0.1 = (7 : Int))) then (x_impl_CredOk N a0.2.2.2.1).bind fun r2 => some r2 else (bif (decide (a0.1 = (9 : Int))) then (x_impl_CredOk N a0.2.2.2.1).bind fun r3 => (bif r3 then some (decide (a0.2.2.2.1.1 = (1 : Int))) else some false) else some (decide (a0.2.2.2.1.1 = (0 : Int)) && (decide (a0.2.2.2.1.2.1.1 = (0 : Int)) && (decide (a0.2.2.2.1.2.1.2 = (0 : Int)) && (decide (a0.2.2.2.1.2.2.1 = (0 : Int)) && (decide (a0.2.2.2.1.2.2.2.1.1 = (0 : Int)) && (decide (a0.2.2.2.1.2.2.2.1.2 = (0 : Int)) && (decide (a0.2.2.2.1.2.2.2.2.1.1 = (0 : Int)) && (decide (a0.2.2.2.1.2.2.2.2.1.2 = (0 : Int)) && (decide (a0.2.2.2.1.2.2.2.2.2.1 = (0 : Int)) && decide (a0.2.2.2.1.2.2.2.2.2.2 = (0 : Int))))))))))))) else (bif (decide (a0.1 = (8 : Int))) then (x_impl_CredOk N a0.2.2.2.1).bind fun r4 => some r4 else (bif (decide (a0.1 = (9 : Int))) then (x_impl_CredOk N a0.2.2.2.1).bind fun r5 => (bif r5 then some (decide (a0.2.2.2.1.1 = (1 : Int))) else some false) else some (decide (a0.2.2.2.1.1 = (0 : Int)) && (decide (a0.2.2.2.1.2.1.1 = (0 : Int)) && (decide (a0.2.2.2.1.2.1.2 = (0 : Int)) && (decide (a0.2.2.2.1.2.2.1 = (0 : Int)) && (decide (a0.2.2.2.1.2.2.2.1.1 = (0 : Int)) && (decide (a0.2.2.2.1.2.2.2.1.2 = (0 : Int)) && (decide (a0.2.2.2.1.2.2.2.2.1.1 = (0 : Int)) && (decide (a0.2.2.2.1.2.2.2.2.1.2 = (0 : Int)) && (decide (a0.2.2.2.1.2.2.2.2.2.1 = (0 : Int)) && decide (a0.2.2.2.1.2.2.2.2.2.2 = (0 : Int))))))))))))))) else (bif (decide (a0.1 = (7 : Int))) then (bif (decide (a0.1 = (7 : Int))) then (x_impl_CredOk N a0.2.2.2.1).bind fun r6 => some r6 else (bif (decide (a0.1 = (9 : Int))) then (x_impl_CredOk N a0.2.2.2.1).bind fun r7 => (bif r7 then some (decide (a0.2.2.2.1.1 = (1 : Int))) else some false) else some (decide (a0.2.2.2.1.1 = (0 : Int)) && (decide (a0.2.2.2.1.2.1.1 = (0 : Int)) && (decide (a0.2.2.2.1.2.1.2 = (0 : Int)) && (decide (a0.2.2.2.1.2.2.1 = (0 : Int)) && (decide (a0.2.2.2.1.2.2.2.1.1 = (0 : Int)) && (decide (a0.2.2.2.1.2.2.2.1.2 = (0 : Int)) && (decide (a0.2.2.2.1.2.2.2.2.1.1 = (0 : Int)) && (decide (a0.2.2.2.1.2.2.2.2.1.2 = (0 : Int)) && (decide (a0.2.2.2.1.2.2.2.2.2.1 = (0 : Int)) && decide (a0.2.2.2.1.2.2.2.2.2.2 = (0 : Int))))))))))))) else (bif (decide (a0.1 = (8 : Int))) then (x_impl_CredOk N a0.2.2.2.1).bind fun r8 => some r8 else (bif (decide (a0.1 = (9 : Int))) then (x_impl_CredOk N a0.2.2.2.1).bind fun r9 => (bif r9 then some (decide (a0.2.2.2.1.1 = (1 : Int))) else some false) else some (decide (a0.2.2.2.1.1 = (0 : Int)) && (decide (a0.2.2.2.1.2.1.1 = (0 : Int)) && (decide (a0.2.2.2.1.2.1.2 = (0 : Int)) && (decide (a0.2.2.2.1.2.2.1 = (0 : Int)) && (decide (a0.2.2.2.1.2.2.2.1.1 = (0 : Int)) && (decide (a0.2.2.2.1.2.2.2.1.2 = (0 : Int)) && (decide (a0.2.2.2.1.2.2.2.2.1.1 = (0 : Int)) && (decide (a0.2.2.2.1.2.2.2.2.1.2 = (0 : Int)) && (decide (a0.2.2.2.1.2.2.2.2.2.1 = (0 : Int)) && decide (a0.2.2.2.1.2.2.2.2.2.2 = (0 : Int)))))))))))))))))))
abbrev ct_impl_EventOk (N : Nat) : CT := ⟨28, (.d tEvent), (.t .bl), fun a => x_impl_EventOk N a⟩
theorem c_impl_EventOk (N : Nat) : CTok Try.prog (ct_impl_EventOk N) :=
  CT_ok (Γ := [ct_impl_in N, ct_impl_CredOk N]) (Θ := []) (Λ := ([] : List (LC (DenR (.t .bl))))) (by kernel_rfl) mixed ⟨c_impl_in N, ⟨c_impl_CredOk N, trivial⟩⟩ (by kernel_rfl)
    trivial (by kernel_rfl) (fun a => by kernel_rfl)

/-- loop.example/g00474/laws.FnExactEventOk -/
def x_laws_FnExactEventOk (N : Nat) (a0 : (Den tEvent)) : Option Bool :=
  (x_laws_szEvent N a0 (1048576 : Int)).bind fun r1 => (bif (decide (r1 < (0 : Int))) then some true else (x_laws_toEvent N a0).bind fun r2 => (x_spec_EventOk N r2).bind fun r3 => (x_laws_toEvent N a0).bind fun r4 => (x_impl_EventOk N r4).bind fun r5 => (bif (!(r5 == r3)) then some false else some true))
abbrev ct_laws_FnExactEventOk (N : Nat) : CT := ⟨7, (.d tEvent), (.t .bl), fun a => x_laws_FnExactEventOk N a⟩
theorem c_laws_FnExactEventOk (N : Nat) : CTok Try.prog (ct_laws_FnExactEventOk N) :=
  CT_ok (Γ := [ct_laws_szEvent N, ct_laws_toEvent N, ct_spec_EventOk N, ct_impl_EventOk N]) (Θ := []) (Λ := ([] : List (LC (DenR (.t .bl))))) (by kernel_rfl) mixed ⟨c_laws_szEvent N, ⟨c_laws_toEvent N, ⟨c_spec_EventOk N, ⟨c_impl_EventOk N, trivial⟩⟩⟩⟩ (by kernel_rfl)
    trivial (by kernel_rfl) (fun a => by kernel_rfl)

end Go.Proofs.Ytdjaokdklbidaaa.C
