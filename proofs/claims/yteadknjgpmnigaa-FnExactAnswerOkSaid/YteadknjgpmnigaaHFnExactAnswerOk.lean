/- Each function of the program that is reached computes the datum printed here: no condition beyond the arguments that its contract names. -/
import Derived.Test.YteadknjgpmnigaaNxp
import Derived.Test.YteadknjgpmnigaaChecked
import Derived.KernelRfl
namespace Go.Proofs.Yteadknjgpmnigaa.C
open Go Go.Proofs.Yteadknjgpmnigaa.Nx Go.RowKit
set_option maxRecDepth 100000
set_option linter.unusedVariables false
abbrev I : Ty := .i .i64
abbrev tRole : Ty := (.st (.pr I I))
abbrev tFact : Ty := (.st (.pr tRole I))
abbrev tCred : Ty := (.st (.pr I (.pr tRole (.pr I (.pr tRole (.pr tRole (.pr I I)))))))
abbrev tStep : Ty := (.st (.pr tCred (.pr tFact (.sl I))))
abbrev tAnswer : Ty := (.st (.pr .bl (.pr (.sl tStep) (.pr I (.pr .bl .bl)))))
theorem mixed : Try.prog.follows .mixedOrders = true := by kernel_rfl

/-- loop.example/g00474/laws.szIntS -/
def x_laws_szIntS (N : Nat) (a0 : (List Int)) (a1 : Int) : Option Int :=
  (bif (decide ((wrap64 (a1 - (a0.length : Int))) < (0 : Int))) then some (-1 : Int) else some (wrap64 (a1 - (a0.length : Int))))
abbrev ct_laws_szIntS (N : Nat) : CT := ⟨166, (.pr (.d (.sl I)) (.d I)), (.t I), fun a => x_laws_szIntS N a.1 a.2⟩
theorem c_laws_szIntS (N : Nat) : CTok Try.prog (ct_laws_szIntS N) :=
  CT_ok (Γ := []) (Θ := []) (Λ := ([] : List (LC (DenR (.t I))))) (by kernel_rfl) mixed trivial (by kernel_rfl)
    trivial (by kernel_rfl) (fun a => by kernel_rfl)

/-- loop.example/g00474/laws.szStep -/
def x_laws_szStep (N : Nat) (a0 : (Den tStep)) (a1 : Int) : Option Int :=
  (x_laws_szIntS N a0.2.2 a1).bind fun r1 => (bif (decide (r1 < (0 : Int))) then some (-1 : Int) else some r1)
abbrev ct_laws_szStep (N : Nat) : CT := ⟨95, (.pr (.d tStep) (.d I)), (.t I), fun a => x_laws_szStep N a.1 a.2⟩
theorem c_laws_szStep (N : Nat) : CTok Try.prog (ct_laws_szStep N) :=
  CT_ok (Γ := [ct_laws_szIntS N]) (Θ := []) (Λ := ([] : List (LC (DenR (.t I))))) (by kernel_rfl) mixed ⟨c_laws_szIntS N, trivial⟩ (by kernel_rfl)
    trivial (by kernel_rfl) (fun a => by kernel_rfl)

/-- a round -/
def B_laws_szStepS_L0 (N : Nat) {Ω : Type} (kx : DenS (.d 1 I) → Option Ω) (kr : Int → Option Ω) (rec_ : DenS (.pr (.d 0 (.sl tStep)) (.pr (.d 1 I) (.d 5 I))) → Option Ω) : DenS (.pr (.d 0 (.sl tStep)) (.pr (.d 1 I) (.d 5 I))) → Option Ω := fun (s0, s1, s5) =>
  (bif (decide (s5 < (s0.length : Int))) then (bif (decide (0 ≤ s5) && decide (s5 < s0.length)) then (x_laws_szStep N (s0.getD s5.toNat (dft tStep)) s1).bind fun r1 => (bif (decide (r1 < (0 : Int))) then kr (-1 : Int) else rec_ (s0, r1, (wrap64 (s5 + (1 : Int))))) else none) else kx s1)
/-- loop.example/g00474/laws.szStepS -/
def x_laws_szStepS (N : Nat) (a0 : (List (Den tStep))) (a1 : Int) : Option Int :=
  (bif (decide ((wrap64 (a1 - (a0.length : Int))) < (0 : Int))) then some (-1 : Int) else iter (B_laws_szStepS_L0 N (fun x2 => some x2) (fun ρ3 => some (ρ3))) N (a0, (wrap64 (a1 - (a0.length : Int))), (0 : Int)))
abbrev ct_laws_szStepS (N : Nat) : CT := ⟨20, (.pr (.d (.sl tStep)) (.d I)), (.t I), fun a => x_laws_szStepS N a.1 a.2⟩
theorem c_laws_szStepS (N : Nat) : CTok Try.prog (ct_laws_szStepS N) :=
  CT_ok (Γ := [ct_laws_szStep N]) (Θ := []) (Λ := ([⟨0, (.pr (.d 0 (.sl tStep)) (.pr (.d 1 I) (.d 5 I))), (.d 1 I), fun {Ω} kx kr => iter (B_laws_szStepS_L0 N kx kr) N⟩] : List (LC (DenR (.t I))))) (by kernel_rfl) mixed ⟨c_laws_szStep N, trivial⟩ (by kernel_rfl)
    ⟨LoopEq.mk N (fun Ω kx kr => B_laws_szStepS_L0 N kx kr) (fun Ω g kx kr s => by kernel_rfl), trivial⟩ (by kernel_rfl) (fun a => by kernel_rfl)

/-- loop.example/g00474/laws.szAnswer -/
def x_laws_szAnswer (N : Nat) (a0 : (Den tAnswer)) (a1 : Int) : Option Int :=
  (x_laws_szStepS N a0.2.1 a1).bind fun r1 => (bif (decide (r1 < (0 : Int))) then some (-1 : Int) else some r1)
abbrev ct_laws_szAnswer (N : Nat) : CT := ⟨63, (.pr (.d tAnswer) (.d I)), (.t I), fun a => x_laws_szAnswer N a.1 a.2⟩
theorem c_laws_szAnswer (N : Nat) : CTok Try.prog (ct_laws_szAnswer N) :=
  CT_ok (Γ := [ct_laws_szStepS N]) (Θ := []) (Λ := ([] : List (LC (DenR (.t I))))) (by kernel_rfl) mixed ⟨c_laws_szStepS N, trivial⟩ (by kernel_rfl)
    trivial (by kernel_rfl) (fun a => by kernel_rfl)

/-- loop.example/g00474/laws.toRole -/
def x_laws_toRole (N : Nat) (a0 : (Den tRole)) : Option (Den tRole) :=
  some a0
abbrev ct_laws_toRole (N : Nat) : CT := ⟨23, (.d tRole), (.t tRole), fun a => x_laws_toRole N a⟩
theorem c_laws_toRole (N : Nat) : CTok Try.prog (ct_laws_toRole N) :=
  CT_ok (Γ := []) (Θ := []) (Λ := ([] : List (LC (DenR (.t tRole))))) (by kernel_rfl) mixed trivial (by kernel_rfl)
    trivial (by kernel_rfl) (fun a => by kernel_rfl)

/-- loop.example/g00474/laws.toCred -/
def x_laws_toCred (N : Nat) (a0 : (Den tCred)) : Option (Den tCred) :=
  (x_laws_toRole N a0.2.1).bind fun r1 => (x_laws_toRole N a0.2.2.2.1).bind fun r2 => (x_laws_toRole N a0.2.2.2.2.1).bind fun r3 => some (a0.1, r1, a0.2.2.1, r2, r3, a0.2.2.2.2.2)
abbrev ct_laws_toCred (N : Nat) : CT := ⟨86, (.d tCred), (.t tCred), fun a => x_laws_toCred N a⟩
theorem c_laws_toCred (N : Nat) : CTok Try.prog (ct_laws_toCred N) :=
  CT_ok (Γ := [ct_laws_toRole N]) (Θ := []) (Λ := ([] : List (LC (DenR (.t tCred))))) (by kernel_rfl) mixed ⟨c_laws_toRole N, trivial⟩ (by kernel_rfl)
    trivial (by kernel_rfl) (fun a => by kernel_rfl)

/-- loop.example/g00474/laws.toFact -/
def x_laws_toFact (N : Nat) (a0 : (Den tFact)) : Option (Den tFact) :=
  (x_laws_toRole N a0.1).bind fun r1 => some (r1, a0.2)
abbrev ct_laws_toFact (N : Nat) : CT := ⟨168, (.d tFact), (.t tFact), fun a => x_laws_toFact N a⟩
theorem c_laws_toFact (N : Nat) : CTok Try.prog (ct_laws_toFact N) :=
  CT_ok (Γ := [ct_laws_toRole N]) (Θ := []) (Λ := ([] : List (LC (DenR (.t tFact))))) (by kernel_rfl) mixed ⟨c_laws_toRole N, trivial⟩ (by kernel_rfl)
    trivial (by kernel_rfl) (fun a => by kernel_rfl)

/-- a round -/
def B_laws_toIntS_L0 (N : Nat) {Ω : Type} (kx : DenS (.o 3 I) → Option Ω) (kr : (List Int) → Option Ω) (rec_ : DenS (.pr (.d 0 (.sl I)) (.pr (.o 3 I) (.d 4 I))) → Option Ω) : DenS (.pr (.d 0 (.sl I)) (.pr (.o 3 I) (.d 4 I))) → Option Ω := fun (s0, s3, s4) =>
  (bif (decide (s4 < (s0.length : Int))) then (bif (decide (0 ≤ s4) && decide (s4 < s0.length)) then (bif (decide (0 ≤ s4) && decide (s4 < s3.length)) then rec_ (s0, (s3.set s4.toNat (s0.getD s4.toNat (0 : Int))), (wrap64 (s4 + (1 : Int)))) else none) else none) else kx s3)
/-- loop.example/g00474/laws.toIntS -/
def x_laws_toIntS (N : Nat) (a0 : (List Int)) : Option (List Int) :=
  (bif (decide ((a0.length : Int) = (a0.length : Int)) && (decide (0 ≤ (a0.length : Int)) && (decide ((a0.length : Int) * (8 : Nat) ≤ 140737488355328) && decide ((a0.length : Int) ≤ 9223372036854775807)))) then iter (B_laws_toIntS_L0 N (fun x1 => some x1) (fun ρ2 => some (ρ2))) N (a0, (List.replicate (a0.length : Int).toNat (0 : Int)), (0 : Int)) else none)
abbrev ct_laws_toIntS (N : Nat) : CT := ⟨80, (.d (.sl I)), (.t (.sl I)), fun a => x_laws_toIntS N a⟩
theorem c_laws_toIntS (N : Nat) : CTok Try.prog (ct_laws_toIntS N) :=
  CT_ok (Γ := []) (Θ := [(7, I)]) (Λ := ([⟨0, (.pr (.d 0 (.sl I)) (.pr (.o 3 I) (.d 4 I))), (.o 3 I), fun {Ω} kx kr => iter (B_laws_toIntS_L0 N kx kr) N⟩] : List (LC (DenR (.t (.sl I)))))) (by kernel_rfl) mixed trivial (by kernel_rfl)
    ⟨LoopEq.mk N (fun Ω kx kr => B_laws_toIntS_L0 N kx kr) (fun Ω g kx kr s => by kernel_rfl), trivial⟩ (by kernel_rfl) (fun a => by kernel_rfl)

/-- loop.example/g00474/laws.toStep -/
def x_laws_toStep (N : Nat) (a0 : (Den tStep)) : Option (Den tStep) :=
  (x_laws_toCred N a0.1).bind fun r1 => (x_laws_toFact N a0.2.1).bind fun r2 => (x_laws_toIntS N a0.2.2).bind fun r3 => some (r1, r2, r3)
abbrev ct_laws_toStep (N : Nat) : CT := ⟨98, (.d tStep), (.t tStep), fun a => x_laws_toStep N a⟩
theorem c_laws_toStep (N : Nat) : CTok Try.prog (ct_laws_toStep N) :=
  CT_ok (Γ := [ct_laws_toCred N, ct_laws_toFact N, ct_laws_toIntS N]) (Θ := []) (Λ := ([] : List (LC (DenR (.t tStep))))) (by kernel_rfl) mixed ⟨c_laws_toCred N, ⟨c_laws_toFact N, ⟨c_laws_toIntS N, trivial⟩⟩⟩ (by kernel_rfl)
    trivial (by kernel_rfl) (fun a => by kernel_rfl)

/-- a round -/
def B_laws_toStepS_L0 (N : Nat) {Ω : Type} (kx : DenS (.o 3 tStep) → Option Ω) (kr : (List (Den tStep)) → Option Ω) (rec_ : DenS (.pr (.d 0 (.sl tStep)) (.pr (.o 3 tStep) (.d 4 I))) → Option Ω) : DenS (.pr (.d 0 (.sl tStep)) (.pr (.o 3 tStep) (.d 4 I))) → Option Ω := fun (s0, s3, s4) =>
  (bif (decide (s4 < (s0.length : Int))) then (bif (decide (0 ≤ s4) && decide (s4 < s0.length)) then (x_laws_toStep N (s0.getD s4.toNat (dft tStep))).bind fun r1 => (bif (decide (0 ≤ s4) && decide (s4 < s3.length)) then rec_ (s0, (s3.set s4.toNat r1), (wrap64 (s4 + (1 : Int)))) else none) else none) else kx s3)
/-- loop.example/g00474/laws.toStepS -/
def x_laws_toStepS (N : Nat) (a0 : (List (Den tStep))) : Option (List (Den tStep)) :=
  (bif (decide ((a0.length : Int) = (a0.length : Int)) && (decide (0 ≤ (a0.length : Int)) && (decide ((a0.length : Int) * (128 : Nat) ≤ 140737488355328) && decide ((a0.length : Int) ≤ 9223372036854775807)))) then iter (B_laws_toStepS_L0 N (fun x2 => some x2) (fun ρ3 => some (ρ3))) N (a0, (List.replicate (a0.length : Int).toNat (dft tStep)), (0 : Int)) else none)
abbrev ct_laws_toStepS (N : Nat) : CT := ⟨22, (.d (.sl tStep)), (.t (.sl tStep)), fun a => x_laws_toStepS N a⟩
theorem c_laws_toStepS (N : Nat) : CTok Try.prog (ct_laws_toStepS N) :=
  CT_ok (Γ := [ct_laws_toStep N]) (Θ := [(7, tStep)]) (Λ := ([⟨0, (.pr (.d 0 (.sl tStep)) (.pr (.o 3 tStep) (.d 4 I))), (.o 3 tStep), fun {Ω} kx kr => iter (B_laws_toStepS_L0 N kx kr) N⟩] : List (LC (DenR (.t (.sl tStep)))))) (by kernel_rfl) mixed ⟨c_laws_toStep N, trivial⟩ (by kernel_rfl)
    ⟨LoopEq.mk N (fun Ω kx kr => B_laws_toStepS_L0 N kx kr) (fun Ω g kx kr s => by kernel_rfl), trivial⟩ (by kernel_rfl) (fun a => by kernel_rfl)

/-- loop.example/g00474/laws.toAnswer -/
def x_laws_toAnswer (N : Nat) (a0 : (Den tAnswer)) : Option (Den tAnswer) :=
  (x_laws_toStepS N a0.2.1).bind fun r1 => some (a0.1, r1, a0.2.2)
abbrev ct_laws_toAnswer (N : Nat) : CT := ⟨65, (.d tAnswer), (.t tAnswer), fun a => x_laws_toAnswer N a⟩
theorem c_laws_toAnswer (N : Nat) : CTok Try.prog (ct_laws_toAnswer N) :=
  CT_ok (Γ := [ct_laws_toStepS N]) (Θ := []) (Λ := ([] : List (LC (DenR (.t tAnswer))))) (by kernel_rfl) mixed ⟨c_laws_toStepS N, trivial⟩ (by kernel_rfl)
    trivial (by kernel_rfl) (fun a => by kernel_rfl)

/-- a round -/
def B_spec_CredsIn_L2 (N : Nat) {Ω : Type} (kx : DenS (.pr (.d 0 (.sl tStep)) (.pr (.o 3 tCred) (.pr (.d 4 I) (.d 5 .bl)))) → Option Ω) (kr : (List (Den tCred)) → Option Ω) (rec_ : DenS (.pr (.d 0 (.sl tStep)) (.pr (.o 3 tCred) (.pr (.d 4 I) (.pr (.d 5 .bl) (.d 6 I))))) → Option Ω) : DenS (.pr (.d 0 (.sl tStep)) (.pr (.o 3 tCred) (.pr (.d 4 I) (.pr (.d 5 .bl) (.d 6 I))))) → Option Ω := fun (s0, s3, s4, s5, s6) =>
  (bif (decide (s6 < (s3.length : Int))) then (bif s5 then rec_ (s0, s3, s4, true, (wrap64 (s6 + (1 : Int)))) else (bif (decide (0 ≤ s6) && decide (s6 < s3.length)) then (bif (decide (0 ≤ s4) && decide (s4 < s0.length)) then rec_ (s0, s3, s4, (decide (((s3.getD s6.toNat (dft tCred)).1) = (((s0.getD s4.toNat (dft tStep)).1).1)) && (decide (((((s3.getD s6.toNat (dft tCred)).2).1).1) = (((((s0.getD s4.toNat (dft tStep)).1).2).1).1)) && (decide (((((s3.getD s6.toNat (dft tCred)).2).1).2) = (((((s0.getD s4.toNat (dft tStep)).1).2).1).2)) && (decide (((((s3.getD s6.toNat (dft tCred)).2).2).1) = (((((s0.getD s4.toNat (dft tStep)).1).2).2).1)) && (decide (((((((s3.getD s6.toNat (dft tCred)).2).2).2).1).1) = (((((((s0.getD s4.toNat (dft tStep)).1).2).2).2).1).1)) && (decide (((((((s3.getD s6.toNat (dft tCred)).2).2).2).1).2) = (((((((s0.getD s4.toNat (dft tStep)).1).2).2).2).1).2)) && (decide ((((((((s3.getD s6.toNat (dft tCred)).2).2).2).2).1).1) = ((((((((s0.getD s4.toNat (dft tStep)).1).2).2).2).2).1).1)) && (decide ((((((((s3.getD s6.toNat (dft tCred)).2).2).2).2).1).2) = ((((((((s0.getD s4.toNat (dft tStep)).1).2).2).2).2).1).2)) && (decide ((((((((s3.getD s6.toNat (dft tCred)).2).2).2).2).2).1) = ((((((((s0.getD s4.toNat (dft tStep)).1).2).2).2).2).2).1)) && decide ((((((((s3.getD s6.toNat (dft tCred)).2).2).2).2).2).2) = ((((((((s0.getD s4.toNat (dft tStep)).1).2).2).2).2).2).2))))))))))), (wrap64 (s6 + (1 : Int)))) else none) else none)) else kx (s0, s3, s4, s5))
/-- a round -/
def B_spec_CredsIn_L0 (N : Nat) {Ω : Type} (kx : DenS (.o 3 tCred) → Option Ω) (kr : (List (Den tCred)) → Option Ω) (rec_ : DenS (.pr (.d 0 (.sl tStep)) (.pr (.o 3 tCred) (.d 4 I))) → Option Ω) : DenS (.pr (.d 0 (.sl tStep)) (.pr (.o 3 tCred) (.d 4 I))) → Option Ω := fun (s0, s3, s4) =>
  (bif (decide (s4 < (s0.length : Int))) then iter (B_spec_CredsIn_L2 N (fun (x1, x2, x3, x4) => (bif (!x4) then (bif (decide (0 ≤ x3) && decide (x3 < x1.length)) then (bif (decide ((x2.length + [(x1.getD x3.toNat (dft tStep)).1].length) * 80 ≤ 140737488355328)) then rec_ (x1, (x2 ++ [(x1.getD x3.toNat (dft tStep)).1]), (wrap64 (x3 + (1 : Int)))) else none) else none) else rec_ (x1, x2, (wrap64 (x3 + (1 : Int)))))) (fun ρ5 => kr (ρ5))) N (s0, s3, s4, false, (0 : Int)) else kx s3)
/-- loop.example/g00474/spec.CredsIn -/
def x_spec_CredsIn (N : Nat) (a0 : (List (Den tStep))) : Option (List (Den tCred)) :=
  iter (B_spec_CredsIn_L0 N (fun x6 => some x6) (fun ρ7 => some (ρ7))) N (a0, [], (0 : Int))
abbrev ct_spec_CredsIn (N : Nat) : CT := ⟨26, (.d (.sl tStep)), (.t (.sl tCred)), fun a => x_spec_CredsIn N a⟩
theorem c_spec_CredsIn (N : Nat) : CTok Try.prog (ct_spec_CredsIn N) :=
  CT_ok (Γ := []) (Θ := [(7, tCred), (41, tCred)]) (Λ := ([⟨0, (.pr (.d 0 (.sl tStep)) (.pr (.o 3 tCred) (.d 4 I))), (.o 3 tCred), fun {Ω} kx kr => iter (B_spec_CredsIn_L0 N kx kr) N⟩, ⟨2, (.pr (.d 0 (.sl tStep)) (.pr (.o 3 tCred) (.pr (.d 4 I) (.pr (.d 5 .bl) (.d 6 I))))), (.pr (.d 0 (.sl tStep)) (.pr (.o 3 tCred) (.pr (.d 4 I) (.d 5 .bl)))), fun {Ω} kx kr => iter (B_spec_CredsIn_L2 N kx kr) N⟩] : List (LC (DenR (.t (.sl tCred)))))) (by kernel_rfl) mixed trivial (by kernel_rfl)
    ⟨LoopEq.mk N (fun Ω kx kr => B_spec_CredsIn_L0 N kx kr) (fun Ω g kx kr s => by kernel_rfl), ⟨LoopEq.mk N (fun Ω kx kr => B_spec_CredsIn_L2 N kx kr) (fun Ω g kx kr s => by kernel_rfl), trivial⟩⟩ (by kernel_rfl) (fun a => by kernel_rfl)

/-- loop.example/g00474/spec.l01In -/
def x_spec_l01In (N : Nat) (a0 : Int) (a1 : Int) (a2 : Int) : Option Bool :=
  (bif (decide (a1 ≤ a0)) then some (decide (a0 ≤ a2)) else some false)
abbrev ct_spec_l01In (N : Nat) : CT := ⟨96, (.pr (.d I) (.pr (.d I) (.d I))), (.t .bl), fun a => x_spec_l01In N a.1 a.2.1 a.2.2⟩
theorem c_spec_l01In (N : Nat) : CTok Try.prog (ct_spec_l01In N) :=
  CT_ok (Γ := []) (Θ := []) (Λ := ([] : List (LC (DenR (.t .bl))))) (by kernel_rfl) mixed trivial (by kernel_rfl)
    trivial (by kernel_rfl) (fun a => by kernel_rfl)

/-- loop.example/g00474/spec.RoleOk -/
def x_spec_RoleOk (N : Nat) (a0 : (Den tRole)) : Option Bool :=
  (x_spec_l01In N a0.1 (0 : Int) (5 : Int)).bind fun r1 => (bif r1 then (x_spec_l01In N a0.2 (0 : Int) (3 : Int)).bind fun r2 => some r2 else some false)
abbrev ct_spec_RoleOk (N : Nat) : CT := ⟨201, (.d tRole), (.t .bl), fun a => x_spec_RoleOk N a⟩
theorem c_spec_RoleOk (N : Nat) : CTok Try.prog (ct_spec_RoleOk N) :=
  CT_ok (Γ := [ct_spec_l01In N]) (Θ := []) (Λ := ([] : List (LC (DenR (.t .bl))))) (by kernel_rfl) mixed ⟨c_spec_l01In N, trivial⟩ (by kernel_rfl)
    trivial (by kernel_rfl) (fun a => by kernel_rfl)

/-- loop.example/g00474/spec.CredOk -/
def x_spec_CredOk (N : Nat) (a0 : (Den tCred)) : Option Bool :=
  (x_spec_RoleOk N a0.2.1).bind fun r1 => (bif (!r1) then some false else (x_spec_l01In N a0.2.2.2.2.2.1 (1 : Int) (9999 : Int)).bind fun r2 => (bif (!r2) then some false else (x_spec_l01In N a0.2.2.2.2.2.2 (0 : Int) (99 : Int)).bind fun r3 => (bif (!r3) then some false else (bif (decide (a0.1 = (1 : Int))) then (x_spec_l01In N a0.2.2.1 (0 : Int) (5 : Int)).bind fun r4 => (bif r4 then (bif (decide (a0.2.2.2.1.1 = (0 : Int)) && decide (a0.2.2.2.1.2 = (0 : Int))) then some (decide (a0.2.2.2.2.1.1 = (0 : Int)) && decide (a0.2.2.2.2.1.2 = (0 : Int))) else some false) else some false) else (bif (decide (a0.1 = (2 : Int))) then (bif (decide (a0.2.2.1 = (0 : Int))) then (x_spec_RoleOk N a0.2.2.2.1).bind fun r5 => (bif r5 then some (decide (a0.2.2.2.2.1.1 = (0 : Int)) && decide (a0.2.2.2.2.1.2 = (0 : Int))) else some false) else some false) else (bif (decide (a0.1 = (3 : Int))) then (bif (decide (a0.2.2.1 = (0 : Int))) then (x_spec_RoleOk N a0.2.2.2.1).bind fun r6 => (bif r6 then (x_spec_RoleOk N a0.2.2.2.2.1).bind fun r7 => (bif r7 then some (decide (a0.2.2.2.2.1.1 = (0 : Int))) else some false) else some false) else some false) else (bif (decide (a0.1 = (4 : Int))) then (bif (decide (a0.2.2.1 = (0 : Int))) then (x_spec_RoleOk N a0.2.2.2.1).bind fun r8 => (bif r8 then (x_spec_RoleOk N a0.2.2.2.2.1).bind fun r9 => some r9 else some false) else some false) else some false)))))))
abbrev ct_spec_CredOk (N : Nat) : CT := ⟨157, (.d tCred), (.t .bl), fun a => x_spec_CredOk N a⟩
theorem c_spec_CredOk (N : Nat) : CTok Try.prog (ct_spec_CredOk N) :=
  CT_ok (Γ := [ct_spec_RoleOk N, ct_spec_l01In N]) (Θ := []) (Λ := ([] : List (LC (DenR (.t .bl))))) (by kernel_rfl) mixed ⟨c_spec_RoleOk N, ⟨c_spec_l01In N, trivial⟩⟩ (by kernel_rfl)
    trivial (by kernel_rfl) (fun a => by kernel_rfl)

/-- a round -/
def B_spec_l07Shown_L0 (N : Nat) {Ω : Type} (kx : DenS .un → Option Ω) (kr : Bool → Option Ω) (rec_ : DenS (.pr (.d 0 (.sl tStep)) (.pr (.d 1 I) (.pr (.ip 5 tFact) (.d 7 I)))) → Option Ω) : DenS (.pr (.d 0 (.sl tStep)) (.pr (.d 1 I) (.pr (.ip 5 tFact) (.d 7 I)))) → Option Ω := fun (s0, s1, s5, s7) =>
  (bif (decide (0 ≤ s1) && decide (s1 < s0.length)) then (bif (decide (s7 < ((((s0.getD s1.toNat (dft tStep)).2).2).length : Int))) then (bif (decide (0 ≤ s1) && decide (s1 < s0.length)) then (bif (decide (0 ≤ s7) && decide (s7 < (((s0.getD s1.toNat (dft tStep)).2).2).length)) then (x_spec_l01In N ((((s0.getD s1.toNat (dft tStep)).2).2).getD s7.toNat (0 : Int)) (0 : Int) (wrap64 (s1 - (1 : Int)))).bind fun r1 => (bif r1 then (bif (decide (0 ≤ ((((s0.getD s1.toNat (dft tStep)).2).2).getD s7.toNat (0 : Int))) && decide (((((s0.getD s1.toNat (dft tStep)).2).2).getD s7.toNat (0 : Int)) < s0.length)) then (bif (decide ((((((s0.getD ((((s0.getD s1.toNat (dft tStep)).2).2).getD s7.toNat (0 : Int)).toNat (dft tStep)).2).1).1).1) = s5.1.1) && (decide ((((((s0.getD ((((s0.getD s1.toNat (dft tStep)).2).2).getD s7.toNat (0 : Int)).toNat (dft tStep)).2).1).1).2) = s5.1.2) && decide (((((s0.getD ((((s0.getD s1.toNat (dft tStep)).2).2).getD s7.toNat (0 : Int)).toNat (dft tStep)).2).1).2) = s5.2))) then kr true else rec_ (s0, s1, s5, (wrap64 (s7 + (1 : Int))))) else none) else rec_ (s0, s1, s5, (wrap64 (s7 + (1 : Int))))) else none) else none) else kx ()) else none)
/-- loop.example/g00474/spec.l07Shown -/
def x_spec_l07Shown (N : Nat) (a0 : (List (Den tStep))) (a1 : Int) (a2 : (Den tFact)) : Option Bool :=
  iter (B_spec_l07Shown_L0 N (fun _ => some false) (fun ρ2 => some (ρ2))) N (a0, a1, a2, (0 : Int))
abbrev ct_spec_l07Shown (N : Nat) : CT := ⟨167, (.pr (.d (.sl tStep)) (.pr (.d I) (.d tFact))), (.t .bl), fun a => x_spec_l07Shown N a.1 a.2.1 a.2.2⟩
theorem c_spec_l07Shown (N : Nat) : CTok Try.prog (ct_spec_l07Shown N) :=
  CT_ok (Γ := [ct_spec_l01In N]) (Θ := []) (Λ := ([⟨0, (.pr (.d 0 (.sl tStep)) (.pr (.d 1 I) (.pr (.ip 5 tFact) (.d 7 I)))), .un, fun {Ω} kx kr => iter (B_spec_l07Shown_L0 N kx kr) N⟩] : List (LC (DenR (.t .bl))))) (by kernel_rfl) mixed ⟨c_spec_l01In N, trivial⟩ (by kernel_rfl)
    ⟨LoopEq.mk N (fun Ω kx kr => B_spec_l07Shown_L0 N kx kr) (fun Ω g kx kr s => by kernel_rfl), trivial⟩ (by kernel_rfl) (fun a => by kernel_rfl)

/-- a round -/
def B_spec_StepOk_L0 (N : Nat) {Ω : Type} (kx : DenS (.pr (.d 0 (.sl tStep)) (.pr (.d 1 I) (.pr (.ip 5 tStep) (.bx 6 tCred)))) → Option Ω) (kr : Bool → Option Ω) (rec_ : DenS (.pr (.d 0 (.sl tStep)) (.pr (.d 1 I) (.pr (.ip 5 tStep) (.pr (.bx 6 tCred) (.d 7 I))))) → Option Ω) : DenS (.pr (.d 0 (.sl tStep)) (.pr (.d 1 I) (.pr (.ip 5 tStep) (.pr (.bx 6 tCred) (.d 7 I))))) → Option Ω := fun (s0, s1, s5, s6, s7) =>
  (bif (decide (s7 < (s5.2.2.length : Int))) then (bif (decide (0 ≤ s7) && decide (s7 < s5.2.2.length)) then (x_spec_l01In N (s5.2.2.getD s7.toNat (0 : Int)) (0 : Int) (wrap64 (s1 - (1 : Int)))).bind fun r3 => (bif (!r3) then kr false else rec_ (s0, s1, s5, s6, (wrap64 (s7 + (1 : Int))))) else none) else kx (s0, s1, s5, s6))
/-- loop.example/g00474/spec.StepOk -/
def x_spec_StepOk (N : Nat) (a0 : (List (Den tStep))) (a1 : Int) : Option Bool :=
  (x_spec_l01In N a1 (0 : Int) (wrap64 ((a0.length : Int) - (1 : Int)))).bind fun r1 => (bif (!r1) then some false else (bif (decide (0 ≤ a1) && decide (a1 < a0.length)) then (x_spec_CredOk N (((a0.getD a1.toNat (dft tStep)).1).1, (((((a0.getD a1.toNat (dft tStep)).1).2).1).1, ((((a0.getD a1.toNat (dft tStep)).1).2).1).2), ((((a0.getD a1.toNat (dft tStep)).1).2).2).1, (((((((a0.getD a1.toNat (dft tStep)).1).2).2).2).1).1, ((((((a0.getD a1.toNat (dft tStep)).1).2).2).2).1).2), ((((((((a0.getD a1.toNat (dft tStep)).1).2).2).2).2).1).1, (((((((a0.getD a1.toNat (dft tStep)).1).2).2).2).2).1).2), (((((((a0.getD a1.toNat (dft tStep)).1).2).2).2).2).2).1, (((((((a0.getD a1.toNat (dft tStep)).1).2).2).2).2).2).2)).bind fun r2 => (bif (!r2) then some false else (bif (!(decide ((((((a0.getD a1.toNat (dft tStep)).2).1).1).1) = (((((a0.getD a1.toNat (dft tStep)).1).2).1).1)) && decide ((((((a0.getD a1.toNat (dft tStep)).2).1).1).2) = (((((a0.getD a1.toNat (dft tStep)).1).2).1).2)))) then some false else iter (B_spec_StepOk_L0 N (fun (x4, x5, x6, x7) => (bif (decide (x7.1 = (1 : Int))) then (bif (decide (x6.2.1.2 = x7.2.2.1)) then some (decide ((x6.2.2.length : Int) = (0 : Int))) else some false) else (bif (decide (x7.1 = (2 : Int))) then (bif (decide ((x6.2.2.length : Int) = (1 : Int))) then (x_spec_l07Shown N x4 x5 (x7.2.2.2.1, x6.2.1.2)).bind fun r8 => some r8 else some false) else (bif (decide (x7.1 = (4 : Int))) then (bif (decide ((x6.2.2.length : Int) = (2 : Int))) then (bif (decide (0 ≤ (0 : Int)) && decide ((0 : Int) < x6.2.2.length)) then (bif (decide (0 ≤ (x6.2.2.getD (0 : Int).toNat (0 : Int))) && decide ((x6.2.2.getD (0 : Int).toNat (0 : Int)) < x4.length)) then (bif (decide ((((((x4.getD (x6.2.2.getD (0 : Int).toNat (0 : Int)).toNat (dft tStep)).2).1).1).1) = x7.2.2.2.1.1) && (decide ((((((x4.getD (x6.2.2.getD (0 : Int).toNat (0 : Int)).toNat (dft tStep)).2).1).1).2) = x7.2.2.2.1.2) && decide (((((x4.getD (x6.2.2.getD (0 : Int).toNat (0 : Int)).toNat (dft tStep)).2).1).2) = x6.2.1.2))) then (bif (decide (0 ≤ (1 : Int)) && decide ((1 : Int) < x6.2.2.length)) then (bif (decide (0 ≤ (x6.2.2.getD (1 : Int).toNat (0 : Int))) && decide ((x6.2.2.getD (1 : Int).toNat (0 : Int)) < x4.length)) then some (decide ((((((x4.getD (x6.2.2.getD (1 : Int).toNat (0 : Int)).toNat (dft tStep)).2).1).1).1) = x7.2.2.2.2.1.1) && (decide ((((((x4.getD (x6.2.2.getD (1 : Int).toNat (0 : Int)).toNat (dft tStep)).2).1).1).2) = x7.2.2.2.2.1.2) && decide (((((x4.getD (x6.2.2.getD (1 : Int).toNat (0 : Int)).toNat (dft tStep)).2).1).2) = x6.2.1.2))) else none) else none) else some false) else none) else none) else some false) else (bif (!decide ((x6.2.2.length : Int) = (2 : Int))) then some false else (bif (decide (0 ≤ (0 : Int)) && decide ((0 : Int) < x6.2.2.length)) then (bif (decide (0 ≤ (x6.2.2.getD (0 : Int).toNat (0 : Int))) && decide ((x6.2.2.getD (0 : Int).toNat (0 : Int)) < x4.length)) then (bif (!(decide ((((((x4.getD (x6.2.2.getD (0 : Int).toNat (0 : Int)).toNat (dft tStep)).2).1).1).1) = x7.2.2.2.1.1) && decide ((((((x4.getD (x6.2.2.getD (0 : Int).toNat (0 : Int)).toNat (dft tStep)).2).1).1).2) = x7.2.2.2.1.2))) then some false else (bif (decide (0 ≤ (0 : Int)) && decide ((0 : Int) < x6.2.2.length)) then (bif (decide (0 ≤ (x6.2.2.getD (0 : Int).toNat (0 : Int))) && decide ((x6.2.2.getD (0 : Int).toNat (0 : Int)) < x4.length)) then (bif (decide (0 ≤ (1 : Int)) && decide ((1 : Int) < x6.2.2.length)) then (bif (decide (0 ≤ (x6.2.2.getD (1 : Int).toNat (0 : Int))) && decide ((x6.2.2.getD (1 : Int).toNat (0 : Int)) < x4.length)) then some (decide ((((((x4.getD (x6.2.2.getD (1 : Int).toNat (0 : Int)).toNat (dft tStep)).2).1).1).1) = ((((x4.getD (x6.2.2.getD (0 : Int).toNat (0 : Int)).toNat (dft tStep)).2).1).2)) && (decide ((((((x4.getD (x6.2.2.getD (1 : Int).toNat (0 : Int)).toNat (dft tStep)).2).1).1).2) = x7.2.2.2.2.1.2) && decide (((((x4.getD (x6.2.2.getD (1 : Int).toNat (0 : Int)).toNat (dft tStep)).2).1).2) = x6.2.1.2))) else none) else none) else none) else none)) else none) else none)))))) (fun ρ9 => some (ρ9))) N (a0, a1, ((((a0.getD a1.toNat (dft tStep)).1).1, (((((a0.getD a1.toNat (dft tStep)).1).2).1).1, ((((a0.getD a1.toNat (dft tStep)).1).2).1).2), ((((a0.getD a1.toNat (dft tStep)).1).2).2).1, (((((((a0.getD a1.toNat (dft tStep)).1).2).2).2).1).1, ((((((a0.getD a1.toNat (dft tStep)).1).2).2).2).1).2), ((((((((a0.getD a1.toNat (dft tStep)).1).2).2).2).2).1).1, (((((((a0.getD a1.toNat (dft tStep)).1).2).2).2).2).1).2), (((((((a0.getD a1.toNat (dft tStep)).1).2).2).2).2).2).1, (((((((a0.getD a1.toNat (dft tStep)).1).2).2).2).2).2).2), ((((((a0.getD a1.toNat (dft tStep)).2).1).1).1, ((((a0.getD a1.toNat (dft tStep)).2).1).1).2), (((a0.getD a1.toNat (dft tStep)).2).1).2), ((a0.getD a1.toNat (dft tStep)).2).2), (((a0.getD a1.toNat (dft tStep)).1).1, (((((a0.getD a1.toNat (dft tStep)).1).2).1).1, ((((a0.getD a1.toNat (dft tStep)).1).2).1).2), ((((a0.getD a1.toNat (dft tStep)).1).2).2).1, (((((((a0.getD a1.toNat (dft tStep)).1).2).2).2).1).1, ((((((a0.getD a1.toNat (dft tStep)).1).2).2).2).1).2), ((((((((a0.getD a1.toNat (dft tStep)).1).2).2).2).2).1).1, (((((((a0.getD a1.toNat (dft tStep)).1).2).2).2).2).1).2), (((((((a0.getD a1.toNat (dft tStep)).1).2).2).2).2).2).1, (((((((a0.getD a1.toNat (dft tStep)).1).2).2).2).2).2).2), (0 : Int)))) else none))
abbrev ct_spec_StepOk (N : Nat) : CT := ⟨97, (.pr (.d (.sl tStep)) (.d I)), (.t .bl), fun a => x_spec_StepOk N a.1 a.2⟩
theorem c_spec_StepOk (N : Nat) : CTok Try.prog (ct_spec_StepOk N) :=
  CT_ok (Γ := [ct_spec_l01In N, ct_spec_CredOk N, ct_spec_l07Shown N]) (Θ := []) (Λ := ([⟨0, (.pr (.d 0 (.sl tStep)) (.pr (.d 1 I) (.pr (.ip 5 tStep) (.pr (.bx 6 tCred) (.d 7 I))))), (.pr (.d 0 (.sl tStep)) (.pr (.d 1 I) (.pr (.ip 5 tStep) (.bx 6 tCred)))), fun {Ω} kx kr => iter (B_spec_StepOk_L0 N kx kr) N⟩] : List (LC (DenR (.t .bl))))) (by kernel_rfl) mixed ⟨c_spec_l01In N, ⟨c_spec_CredOk N, ⟨c_spec_l07Shown N, trivial⟩⟩⟩ (by kernel_rfl)
    ⟨LoopEq.mk N (fun Ω kx kr => B_spec_StepOk_L0 N kx kr) (fun Ω g kx kr s => by kernel_rfl), trivial⟩ (by kernel_rfl) (fun a => by kernel_rfl)

/-- a round -/
def B_spec_ProofOk_L0 (N : Nat) {Ω : Type} (kx : DenS .un → Option Ω) (kr : Bool → Option Ω) (rec_ : DenS (.pr (.d 0 (.sl tStep)) (.pr (.d 7 I) (.d 8 I))) → Option Ω) : DenS (.pr (.d 0 (.sl tStep)) (.pr (.d 7 I) (.d 8 I))) → Option Ω := fun (s0, s7, s8) =>
  (bif (decide (s8 < s7)) then (x_spec_StepOk N s0 s8).bind fun r2 => (bif (!r2) then kr false else rec_ (s0, s7, (wrap64 (s8 + (1 : Int))))) else kx ())
/-- loop.example/g00474/spec.ProofOk -/
def x_spec_ProofOk (N : Nat) (a0 : (List (Den tStep))) (a1 : (Den tRole)) (a2 : Int) : Option Bool :=
  (x_spec_l01In N (a0.length : Int) (1 : Int) (200 : Int)).bind fun r1 => (bif (!r1) then some false else (bif (decide (0 ≤ (wrap64 ((a0.length : Int) - (1 : Int)))) && decide ((wrap64 ((a0.length : Int) - (1 : Int))) < a0.length)) then (bif (!(decide ((((((a0.getD (wrap64 ((a0.length : Int) - (1 : Int))).toNat (dft tStep)).2).1).1).1) = a1.1) && (decide ((((((a0.getD (wrap64 ((a0.length : Int) - (1 : Int))).toNat (dft tStep)).2).1).1).2) = a1.2) && decide (((((a0.getD (wrap64 ((a0.length : Int) - (1 : Int))).toNat (dft tStep)).2).1).2) = a2)))) then some false else iter (B_spec_ProofOk_L0 N (fun _ => some true) (fun ρ3 => some (ρ3))) N (a0, (a0.length : Int), (0 : Int))) else none))
abbrev ct_spec_ProofOk (N : Nat) : CT := ⟨21, (.pr (.d (.sl tStep)) (.pr (.d tRole) (.d I))), (.t .bl), fun a => x_spec_ProofOk N a.1 a.2.1 a.2.2⟩
theorem c_spec_ProofOk (N : Nat) : CTok Try.prog (ct_spec_ProofOk N) :=
  CT_ok (Γ := [ct_spec_l01In N, ct_spec_StepOk N]) (Θ := []) (Λ := ([⟨0, (.pr (.d 0 (.sl tStep)) (.pr (.d 7 I) (.d 8 I))), .un, fun {Ω} kx kr => iter (B_spec_ProofOk_L0 N kx kr) N⟩] : List (LC (DenR (.t .bl))))) (by kernel_rfl) mixed ⟨c_spec_l01In N, ⟨c_spec_StepOk N, trivial⟩⟩ (by kernel_rfl)
    ⟨LoopEq.mk N (fun Ω kx kr => B_spec_ProofOk_L0 N kx kr) (fun Ω g kx kr s => by kernel_rfl), trivial⟩ (by kernel_rfl) (fun a => by kernel_rfl)

/-- a round -/
def B_spec_Alive_L0 (N : Nat) {Ω : Type} (kx : DenS (.o 5 tCred) → Option Ω) (kr : (List (Den tCred)) → Option Ω) (rec_ : DenS (.pr (.d 0 (.sl tCred)) (.pr (.d 1 I) (.pr (.o 5 tCred) (.d 6 I)))) → Option Ω) : DenS (.pr (.d 0 (.sl tCred)) (.pr (.d 1 I) (.pr (.o 5 tCred) (.d 6 I)))) → Option Ω := fun (s0, s1, s5, s6) =>
  (bif (decide (s6 < (s0.length : Int))) then (bif (decide (0 ≤ s6) && decide (s6 < s0.length)) then (x_spec_CredOk N (s0.getD s6.toNat (dft tCred))).bind fun r1 => (bif r1 then (bif (decide (0 ≤ s6) && decide (s6 < s0.length)) then (bif (decide (s1 ≤ (((((((s0.getD s6.toNat (dft tCred)).2).2).2).2).2).1))) then (bif (decide (0 ≤ s6) && decide (s6 < s0.length)) then (bif (decide ((s5.length + [(s0.getD s6.toNat (dft tCred))].length) * 80 ≤ 140737488355328)) then rec_ (s0, s1, (s5 ++ [(s0.getD s6.toNat (dft tCred))]), (wrap64 (s6 + (1 : Int)))) else none) else none) else rec_ (s0, s1, s5, (wrap64 (s6 + (1 : Int))))) else none) else rec_ (s0, s1, s5, (wrap64 (s6 + (1 : Int))))) else none) else kx s5)
/-- loop.example/g00474/spec.Alive -/
def x_spec_Alive (N : Nat) (a0 : (List (Den tCred))) (a1 : Int) : Option (List (Den tCred)) :=
  iter (B_spec_Alive_L0 N (fun x2 => some x2) (fun ρ3 => some (ρ3))) N (a0, a1, [], (0 : Int))
abbrev ct_spec_Alive (N : Nat) : CT := ⟨133, (.pr (.d (.sl tCred)) (.d I)), (.t (.sl tCred)), fun a => x_spec_Alive N a.1 a.2⟩
theorem c_spec_Alive (N : Nat) : CTok Try.prog (ct_spec_Alive N) :=
  CT_ok (Γ := [ct_spec_CredOk N]) (Θ := [(7, tCred), (33, tCred)]) (Λ := ([⟨0, (.pr (.d 0 (.sl tCred)) (.pr (.d 1 I) (.pr (.o 5 tCred) (.d 6 I)))), (.o 5 tCred), fun {Ω} kx kr => iter (B_spec_Alive_L0 N kx kr) N⟩] : List (LC (DenR (.t (.sl tCred)))))) (by kernel_rfl) mixed ⟨c_spec_CredOk N, trivial⟩ (by kernel_rfl)
    ⟨LoopEq.mk N (fun Ω kx kr => B_spec_Alive_L0 N kx kr) (fun Ω g kx kr s => by kernel_rfl), trivial⟩ (by kernel_rfl) (fun a => by kernel_rfl)

/-- loop.example/g00474/spec.AnswerOk -/
def x_spec_AnswerOk (N : Nat) (a0 : (Den tAnswer)) (a1 : (Den tRole)) (a2 : Int) (a3 : Int) : Option Bool :=
  (bif (!a0.1) then some (decide ((a0.2.1.length : Int) = (0 : Int))) else (x_spec_CredsIn N a0.2.1).bind fun r1 => (x_spec_ProofOk N a0.2.1 a1 a2).bind fun r2 => (bif r2 then (x_spec_Alive N r1 a3).bind fun r3 => some (decide ((r3.length : Int) = (r1.length : Int))) else some false))
abbrev ct_spec_AnswerOk (N : Nat) : CT := ⟨64, (.pr (.d tAnswer) (.pr (.d tRole) (.pr (.d I) (.d I)))), (.t .bl), fun a => x_spec_AnswerOk N a.1 a.2.1 a.2.2.1 a.2.2.2⟩
theorem c_spec_AnswerOk (N : Nat) : CTok Try.prog (ct_spec_AnswerOk N) :=
  CT_ok (Γ := [ct_spec_CredsIn N, ct_spec_ProofOk N, ct_spec_Alive N]) (Θ := []) (Λ := ([] : List (LC (DenR (.t .bl))))) (by kernel_rfl) mixed ⟨c_spec_CredsIn N, ⟨c_spec_ProofOk N, ⟨c_spec_Alive N, trivial⟩⟩⟩ (by kernel_rfl)
    trivial (by kernel_rfl) (fun a => by kernel_rfl)

/-- a round -/
def B_slices_Index_impl_Cred_impl_Cred_L0 (N : Nat) {Ω : Type} (kx : DenS .un → Option Ω) (kr : Int → Option Ω) (rec_ : DenS (.pr (.d 0 (.sl tCred)) (.pr (.ip 3 tCred) (.pr (.d 7 I) (.d 8 I)))) → Option Ω) : DenS (.pr (.d 0 (.sl tCred)) (.pr (.ip 3 tCred) (.pr (.d 7 I) (.d 8 I)))) → Option Ω := fun (s0, s3, s7, s8) =>
  (bif (decide (s8 < s7)) then (bif (decide (0 ≤ s8) && decide (s8 < s0.length)) then (bif (decide (s3.1 = ((s0.getD s8.toNat (dft tCred)).1)) && (decide (s3.2.1.1 = ((((s0.getD s8.toNat (dft tCred)).2).1).1)) && (decide (s3.2.1.2 = ((((s0.getD s8.toNat (dft tCred)).2).1).2)) && (decide (s3.2.2.1 = ((((s0.getD s8.toNat (dft tCred)).2).2).1)) && (decide (s3.2.2.2.1.1 = ((((((s0.getD s8.toNat (dft tCred)).2).2).2).1).1)) && (decide (s3.2.2.2.1.2 = ((((((s0.getD s8.toNat (dft tCred)).2).2).2).1).2)) && (decide (s3.2.2.2.2.1.1 = (((((((s0.getD s8.toNat (dft tCred)).2).2).2).2).1).1)) && (decide (s3.2.2.2.2.1.2 = (((((((s0.getD s8.toNat (dft tCred)).2).2).2).2).1).2)) && (decide (s3.2.2.2.2.2.1 = (((((((s0.getD s8.toNat (dft tCred)).2).2).2).2).2).1)) && decide (s3.2.2.2.2.2.2 = (((((((s0.getD s8.toNat (dft tCred)).2).2).2).2).2).2))))))))))) then kr s8 else rec_ (s0, s3, s7, (wrap64 (s8 + (1 : Int))))) else none) else kx ())
/-- slices.Index[[]loop.example/g00474/impl.Cred,loop.example/g00474/impl.Cred] -/
def x_slices_Index_impl_Cred_impl_Cred (N : Nat) (a0 : (List (Den tCred))) (a1 : (Den tCred)) : Option Int :=
  iter (B_slices_Index_impl_Cred_impl_Cred_L0 N (fun _ => some (-1 : Int)) (fun ρ1 => some (ρ1))) N (a0, a1, (a0.length : Int), (0 : Int))
abbrev ct_slices_Index_impl_Cred_impl_Cred (N : Nat) : CT := ⟨170, (.pr (.d (.sl tCred)) (.d tCred)), (.t I), fun a => x_slices_Index_impl_Cred_impl_Cred N a.1 a.2⟩
theorem c_slices_Index_impl_Cred_impl_Cred (N : Nat) : CTok Try.prog (ct_slices_Index_impl_Cred_impl_Cred N) :=
  CT_ok (Γ := []) (Θ := []) (Λ := ([⟨0, (.pr (.d 0 (.sl tCred)) (.pr (.ip 3 tCred) (.pr (.d 7 I) (.d 8 I)))), .un, fun {Ω} kx kr => iter (B_slices_Index_impl_Cred_impl_Cred_L0 N kx kr) N⟩] : List (LC (DenR (.t I))))) (by kernel_rfl) mixed trivial (by kernel_rfl)
    ⟨LoopEq.mk N (fun Ω kx kr => B_slices_Index_impl_Cred_impl_Cred_L0 N kx kr) (fun Ω g kx kr s => by kernel_rfl), trivial⟩ (by kernel_rfl) (fun a => by kernel_rfl)

/-- slices.Contains[[]loop.example/g00474/impl.Cred,loop.example/g00474/impl.Cred] -/
def x_slices_Contains_impl_Cred_impl_Cred (N : Nat) (a0 : (List (Den tCred))) (a1 : (Den tCred)) : Option Bool :=
  (x_slices_Index_impl_Cred_impl_Cred N a0 a1).bind fun r1 => some (decide ((0 : Int) ≤ r1))
abbrev ct_slices_Contains_impl_Cred_impl_Cred (N : Nat) : CT := ⟨101, (.pr (.d (.sl tCred)) (.d tCred)), (.t .bl), fun a => x_slices_Contains_impl_Cred_impl_Cred N a.1 a.2⟩
theorem c_slices_Contains_impl_Cred_impl_Cred (N : Nat) : CTok Try.prog (ct_slices_Contains_impl_Cred_impl_Cred N) :=
  CT_ok (Γ := [ct_slices_Index_impl_Cred_impl_Cred N]) (Θ := []) (Λ := ([] : List (LC (DenR (.t .bl))))) (by kernel_rfl) mixed ⟨c_slices_Index_impl_Cred_impl_Cred N, trivial⟩ (by kernel_rfl)
    trivial (by kernel_rfl) (fun a => by kernel_rfl)

/-- a round -/
def B_impl_CredsIn_L0 (N : Nat) {Ω : Type} (kx : DenS (.o 3 tCred) → Option Ω) (kr : (List (Den tCred)) → Option Ω) (rec_ : DenS (.pr (.o 3 tCred) (.pr (.d 7 (.sl tStep)) (.pr (.d 8 I) (.d 9 I)))) → Option Ω) : DenS (.pr (.o 3 tCred) (.pr (.d 7 (.sl tStep)) (.pr (.d 8 I) (.d 9 I)))) → Option Ω := fun (s3, s7, s8, s9) =>
  (bif (decide (s9 < s8)) then (bif (decide (0 ≤ s9) && decide (s9 < s7.length)) then (x_slices_Contains_impl_Cred_impl_Cred N s3 (((s7.getD s9.toNat (dft tStep)).1).1, (((((s7.getD s9.toNat (dft tStep)).1).2).1).1, ((((s7.getD s9.toNat (dft tStep)).1).2).1).2), ((((s7.getD s9.toNat (dft tStep)).1).2).2).1, (((((((s7.getD s9.toNat (dft tStep)).1).2).2).2).1).1, ((((((s7.getD s9.toNat (dft tStep)).1).2).2).2).1).2), ((((((((s7.getD s9.toNat (dft tStep)).1).2).2).2).2).1).1, (((((((s7.getD s9.toNat (dft tStep)).1).2).2).2).2).1).2), (((((((s7.getD s9.toNat (dft tStep)).1).2).2).2).2).2).1, (((((((s7.getD s9.toNat (dft tStep)).1).2).2).2).2).2).2)).bind fun r1 => (bif (!r1) then (bif (decide ((s3.length + [(((s7.getD s9.toNat (dft tStep)).1).1, (((((s7.getD s9.toNat (dft tStep)).1).2).1).1, ((((s7.getD s9.toNat (dft tStep)).1).2).1).2), ((((s7.getD s9.toNat (dft tStep)).1).2).2).1, (((((((s7.getD s9.toNat (dft tStep)).1).2).2).2).1).1, ((((((s7.getD s9.toNat (dft tStep)).1).2).2).2).1).2), ((((((((s7.getD s9.toNat (dft tStep)).1).2).2).2).2).1).1, (((((((s7.getD s9.toNat (dft tStep)).1).2).2).2).2).1).2), (((((((s7.getD s9.toNat (dft tStep)).1).2).2).2).2).2).1, (((((((s7.getD s9.toNat (dft tStep)).1).2).2).2).2).2).2)].length) * 80 ≤ 140737488355328)) then rec_ ((s3 ++ [(((s7.getD s9.toNat (dft tStep)).1).1, (((((s7.getD s9.toNat (dft tStep)).1).2).1).1, ((((s7.getD s9.toNat (dft tStep)).1).2).1).2), ((((s7.getD s9.toNat (dft tStep)).1).2).2).1, (((((((s7.getD s9.toNat (dft tStep)).1).2).2).2).1).1, ((((((s7.getD s9.toNat (dft tStep)).1).2).2).2).1).2), ((((((((s7.getD s9.toNat (dft tStep)).1).2).2).2).2).1).1, (((((((s7.getD s9.toNat (dft tStep)).1).2).2).2).2).1).2), (((((((s7.getD s9.toNat (dft tStep)).1).2).2).2).2).2).1, (((((((s7.getD s9.toNat (dft tStep)).1).2).2).2).2).2).2)]), s7, s8, (wrap64 (s9 + (1 : Int)))) else none) else rec_ (s3, s7, s8, (wrap64 (s9 + (1 : Int))))) else none) else kx s3)
/-- loop.example/g00474/impl.CredsIn -/
def x_impl_CredsIn (N : Nat) (a0 : (List (Den tStep))) : Option (List (Den tCred)) :=
  iter (B_impl_CredsIn_L0 N (fun x2 => some x2) (fun ρ3 => some (ρ3))) N ([], a0, (a0.length : Int), (0 : Int))
abbrev ct_impl_CredsIn (N : Nat) : CT := ⟨27, (.d (.sl tStep)), (.t (.sl tCred)), fun a => x_impl_CredsIn N a⟩
theorem c_impl_CredsIn (N : Nat) : CTok Try.prog (ct_impl_CredsIn N) :=
  CT_ok (Γ := [ct_slices_Contains_impl_Cred_impl_Cred N]) (Θ := [(6, tCred), (21, tCred)]) (Λ := ([⟨0, (.pr (.o 3 tCred) (.pr (.d 7 (.sl tStep)) (.pr (.d 8 I) (.d 9 I)))), (.o 3 tCred), fun {Ω} kx kr => iter (B_impl_CredsIn_L0 N kx kr) N⟩] : List (LC (DenR (.t (.sl tCred)))))) (by kernel_rfl) mixed ⟨c_slices_Contains_impl_Cred_impl_Cred N, trivial⟩ (by kernel_rfl)
    ⟨LoopEq.mk N (fun Ω kx kr => B_impl_CredsIn_L0 N kx kr) (fun Ω g kx kr s => by kernel_rfl), trivial⟩ (by kernel_rfl) (fun a => by kernel_rfl)

/-- loop.example/g00474/impl.in -/
def x_impl_in (N : Nat) (a0 : Int) (a1 : Int) (a2 : Int) : Option Bool :=
  (bif (decide (a1 ≤ a0)) then some (decide (a0 ≤ a2)) else some false)
abbrev ct_impl_in (N : Nat) : CT := ⟨99, (.pr (.d I) (.pr (.d I) (.d I))), (.t .bl), fun a => x_impl_in N a.1 a.2.1 a.2.2⟩
theorem c_impl_in (N : Nat) : CTok Try.prog (ct_impl_in N) :=
  CT_ok (Γ := []) (Θ := []) (Λ := ([] : List (LC (DenR (.t .bl))))) (by kernel_rfl) mixed trivial (by kernel_rfl)
    trivial (by kernel_rfl) (fun a => by kernel_rfl)

/-- loop.example/g00474/impl.RoleOk -/
def x_impl_RoleOk (N : Nat) (a0 : (Den tRole)) : Option Bool :=
  (x_impl_in N a0.1 (0 : Int) (5 : Int)).bind fun r1 => (bif r1 then (x_impl_in N a0.2 (0 : Int) (3 : Int)).bind fun r2 => some r2 else some false)
abbrev ct_impl_RoleOk (N : Nat) : CT := ⟨160, (.d tRole), (.t .bl), fun a => x_impl_RoleOk N a⟩
theorem c_impl_RoleOk (N : Nat) : CTok Try.prog (ct_impl_RoleOk N) :=
  CT_ok (Γ := [ct_impl_in N]) (Θ := []) (Λ := ([] : List (LC (DenR (.t .bl))))) (by kernel_rfl) mixed ⟨c_impl_in N, trivial⟩ (by kernel_rfl)
    trivial (by kernel_rfl) (fun a => by kernel_rfl)

/-- loop.example/g00474/impl.isPerson -/
def x_impl_isPerson (N : Nat) (a0 : Int) : Option Bool :=
  (x_impl_in N a0 (0 : Int) (5 : Int)).bind fun r1 => some r1
abbrev ct_impl_isPerson (N : Nat) : CT := ⟨161, (.d I), (.t .bl), fun a => x_impl_isPerson N a⟩
theorem c_impl_isPerson (N : Nat) : CTok Try.prog (ct_impl_isPerson N) :=
  CT_ok (Γ := [ct_impl_in N]) (Θ := []) (Λ := ([] : List (LC (DenR (.t .bl))))) (by kernel_rfl) mixed ⟨c_impl_in N, trivial⟩ (by kernel_rfl)
    trivial (by kernel_rfl) (fun a => by kernel_rfl)

/-- loop.example/g00474/impl.CredOk -/
def x_impl_CredOk (N : Nat) (a0 : (Den tCred)) : Option Bool :=
  (x_impl_RoleOk N a0.2.1).bind fun r1 => (bif (!r1) then some false else (x_impl_in N a0.2.2.2.2.2.1 (1 : Int) (9999 : Int)).bind fun r2 => (bif (!r2) then some false else (x_impl_in N a0.2.2.2.2.2.2 (0 : Int) (99 : Int)).bind fun r3 => (bif (!r3) then some false else (bif (decide (a0.1 = (1 : Int))) then (x_impl_isPerson N a0.2.2.1).bind fun r4 => (bif r4 then (bif (decide (a0.2.2.2.1.1 = (0 : Int)) && decide (a0.2.2.2.1.2 = (0 : Int))) then some (decide (a0.2.2.2.2.1.1 = (0 : Int)) && decide (a0.2.2.2.2.1.2 = (0 : Int))) else some false) else some false) else (bif (decide (a0.1 = (2 : Int))) then (bif (decide (a0.2.2.1 = (0 : Int))) then (x_impl_RoleOk N a0.2.2.2.1).bind fun r5 => (bif r5 then some (decide (a0.2.2.2.2.1.1 = (0 : Int)) && decide (a0.2.2.2.2.1.2 = (0 : Int))) else some false) else some false) else (bif (decide (a0.1 = (3 : Int))) then (bif (decide (a0.2.2.1 = (0 : Int))) then (x_impl_RoleOk N a0.2.2.2.1).bind fun r6 => (bif r6 then (x_impl_RoleOk N a0.2.2.2.2.1).bind fun r7 => (bif r7 then some (decide (a0.2.2.2.2.1.1 = (0 : Int))) else some false) else some false) else some false) else (bif (decide (a0.1 = (4 : Int))) then (bif (decide (a0.2.2.1 = (0 : Int))) then (x_impl_RoleOk N a0.2.2.2.1).bind fun r8 => (bif r8 then (x_impl_RoleOk N a0.2.2.2.2.1).bind fun r9 => some r9 else some false) else some false) else some false)))))))
abbrev ct_impl_CredOk (N : Nat) : CT := ⟨88, (.d tCred), (.t .bl), fun a => x_impl_CredOk N a⟩
theorem c_impl_CredOk (N : Nat) : CTok Try.prog (ct_impl_CredOk N) :=
  CT_ok (Γ := [ct_impl_RoleOk N, ct_impl_in N, ct_impl_isPerson N]) (Θ := []) (Λ := ([] : List (LC (DenR (.t .bl))))) (by kernel_rfl) mixed ⟨c_impl_RoleOk N, ⟨c_impl_in N, ⟨c_impl_isPerson N, trivial⟩⟩⟩ (by kernel_rfl)
    trivial (by kernel_rfl) (fun a => by kernel_rfl)

/-- loop.example/g00474/impl.shown -/
def x_impl_shown (N : Nat) (a0 : (List (Den tStep))) (a1 : Int) (a2 : Int) : Option ((Den tFact) × Bool) :=
  (x_impl_in N a2 (0 : Int) (wrap64 (a1 - (1 : Int)))).bind fun r1 => (bif (!r1) then some ((((0 : Int), (0 : Int)), (0 : Int)), false) else (bif (decide (0 ≤ a2) && decide (a2 < a0.length)) then some (((((((a0.getD a2.toNat (dft tStep)).2).1).1).1, ((((a0.getD a2.toNat (dft tStep)).2).1).1).2), (((a0.getD a2.toNat (dft tStep)).2).1).2), true) else none))
abbrev ct_impl_shown (N : Nat) : CT := ⟨119, (.pr (.d (.sl tStep)) (.pr (.d I) (.d I))), (.pr (.t tFact) (.t .bl)), fun a => x_impl_shown N a.1 a.2.1 a.2.2⟩
theorem c_impl_shown (N : Nat) : CTok Try.prog (ct_impl_shown N) :=
  CT_ok (Γ := [ct_impl_in N]) (Θ := []) (Λ := ([] : List (LC (DenR (.pr (.t tFact) (.t .bl)))))) (by kernel_rfl) mixed ⟨c_impl_in N, trivial⟩ (by kernel_rfl)
    trivial (by kernel_rfl) (fun a => by kernel_rfl)

/-- a round -/
def B_impl_StepOk_L0 (N : Nat) {Ω : Type} (kx : DenS (.pr (.ip 5 tStep) (.o 6 tFact)) → Option Ω) (kr : Bool → Option Ω) (rec_ : DenS (.pr (.d 0 (.sl tStep)) (.pr (.d 1 I) (.pr (.ip 5 tStep) (.pr (.o 6 tFact) (.pr (.d 37 (.sl I)) (.pr (.d 38 I) (.d 39 I))))))) → Option Ω) : DenS (.pr (.d 0 (.sl tStep)) (.pr (.d 1 I) (.pr (.ip 5 tStep) (.pr (.o 6 tFact) (.pr (.d 37 (.sl I)) (.pr (.d 38 I) (.d 39 I))))))) → Option Ω := fun (s0, s1, s5, s6, s37, s38, s39) =>
  (bif (decide (s39 < s38)) then (bif (decide (0 ≤ s39) && decide (s39 < s37.length)) then (x_impl_shown N s0 s1 (s37.getD s39.toNat (0 : Int))).bind fun r3 => (bif (!r3.2) then kr false else (bif (decide ((s6.length + [r3.1].length) * 24 ≤ 140737488355328)) then rec_ (s0, s1, s5, (s6 ++ [r3.1]), s37, s38, (wrap64 (s39 + (1 : Int)))) else none)) else none) else kx (s5, s6))
/-- loop.example/g00474/impl.StepOk -/
def x_impl_StepOk (N : Nat) (a0 : (List (Den tStep))) (a1 : Int) : Option Bool :=
  (x_impl_in N a1 (0 : Int) (wrap64 ((a0.length : Int) - (1 : Int)))).bind fun r1 => (bif (!r1) then some false else (bif (decide (0 ≤ a1) && decide (a1 < a0.length)) then (x_impl_CredOk N (((a0.getD a1.toNat (dft tStep)).1).1, (((((a0.getD a1.toNat (dft tStep)).1).2).1).1, ((((a0.getD a1.toNat (dft tStep)).1).2).1).2), ((((a0.getD a1.toNat (dft tStep)).1).2).2).1, (((((((a0.getD a1.toNat (dft tStep)).1).2).2).2).1).1, ((((((a0.getD a1.toNat (dft tStep)).1).2).2).2).1).2), ((((((((a0.getD a1.toNat (dft tStep)).1).2).2).2).2).1).1, (((((((a0.getD a1.toNat (dft tStep)).1).2).2).2).2).1).2), (((((((a0.getD a1.toNat (dft tStep)).1).2).2).2).2).2).1, (((((((a0.getD a1.toNat (dft tStep)).1).2).2).2).2).2).2)).bind fun r2 => (bif (!r2) then some false else (bif (!(decide ((((((a0.getD a1.toNat (dft tStep)).2).1).1).1) = (((((a0.getD a1.toNat (dft tStep)).1).2).1).1)) && decide ((((((a0.getD a1.toNat (dft tStep)).2).1).1).2) = (((((a0.getD a1.toNat (dft tStep)).1).2).1).2)))) then some false else iter (B_impl_StepOk_L0 N (fun (x4, x5) => (bif (decide (x4.1.1 = (1 : Int))) then (bif (decide ((x5.length : Int) = (0 : Int))) then some (decide (x4.2.1.2 = x4.1.2.2.1)) else some false) else (bif (decide (x4.1.1 = (2 : Int))) then (bif (decide ((x5.length : Int) = (1 : Int))) then (bif (decide (0 ≤ (0 : Int)) && decide ((0 : Int) < x5.length)) then some (decide ((((x5.getD ((0 : Int).toNat) (dft tFact)).1).1) = x4.1.2.2.2.1.1) && (decide ((((x5.getD ((0 : Int).toNat) (dft tFact)).1).2) = x4.1.2.2.2.1.2) && decide (((x5.getD ((0 : Int).toNat) (dft tFact)).2) = x4.2.1.2))) else none) else some false) else (bif (decide (x4.1.1 = (3 : Int))) then (bif (decide ((x5.length : Int) = (2 : Int))) then (bif (decide (0 ≤ (0 : Int)) && decide ((0 : Int) < x5.length)) then (bif (decide ((((x5.getD ((0 : Int).toNat) (dft tFact)).1).1) = x4.1.2.2.2.1.1) && decide ((((x5.getD ((0 : Int).toNat) (dft tFact)).1).2) = x4.1.2.2.2.1.2)) then (bif (decide (0 ≤ (1 : Int)) && decide ((1 : Int) < x5.length)) then (bif (decide (0 ≤ (0 : Int)) && decide ((0 : Int) < x5.length)) then some (decide ((((x5.getD ((1 : Int).toNat) (dft tFact)).1).1) = ((x5.getD ((0 : Int).toNat) (dft tFact)).2)) && (decide ((((x5.getD ((1 : Int).toNat) (dft tFact)).1).2) = x4.1.2.2.2.2.1.2) && decide (((x5.getD ((1 : Int).toNat) (dft tFact)).2) = x4.2.1.2))) else none) else none) else some false) else none) else some false) else (bif (decide ((x5.length : Int) = (2 : Int))) then (bif (decide (0 ≤ (0 : Int)) && decide ((0 : Int) < x5.length)) then (bif (decide ((((x5.getD ((0 : Int).toNat) (dft tFact)).1).1) = x4.1.2.2.2.1.1) && (decide ((((x5.getD ((0 : Int).toNat) (dft tFact)).1).2) = x4.1.2.2.2.1.2) && decide (((x5.getD ((0 : Int).toNat) (dft tFact)).2) = x4.2.1.2))) then (bif (decide (0 ≤ (1 : Int)) && decide ((1 : Int) < x5.length)) then some (decide ((((x5.getD ((1 : Int).toNat) (dft tFact)).1).1) = x4.1.2.2.2.2.1.1) && (decide ((((x5.getD ((1 : Int).toNat) (dft tFact)).1).2) = x4.1.2.2.2.2.1.2) && decide (((x5.getD ((1 : Int).toNat) (dft tFact)).2) = x4.2.1.2))) else none) else some false) else none) else some false))))) (fun ρ6 => some (ρ6))) N (a0, a1, ((((a0.getD a1.toNat (dft tStep)).1).1, (((((a0.getD a1.toNat (dft tStep)).1).2).1).1, ((((a0.getD a1.toNat (dft tStep)).1).2).1).2), ((((a0.getD a1.toNat (dft tStep)).1).2).2).1, (((((((a0.getD a1.toNat (dft tStep)).1).2).2).2).1).1, ((((((a0.getD a1.toNat (dft tStep)).1).2).2).2).1).2), ((((((((a0.getD a1.toNat (dft tStep)).1).2).2).2).2).1).1, (((((((a0.getD a1.toNat (dft tStep)).1).2).2).2).2).1).2), (((((((a0.getD a1.toNat (dft tStep)).1).2).2).2).2).2).1, (((((((a0.getD a1.toNat (dft tStep)).1).2).2).2).2).2).2), ((((((a0.getD a1.toNat (dft tStep)).2).1).1).1, ((((a0.getD a1.toNat (dft tStep)).2).1).1).2), (((a0.getD a1.toNat (dft tStep)).2).1).2), ((a0.getD a1.toNat (dft tStep)).2).2), [], ((a0.getD a1.toNat (dft tStep)).2).2, ((((a0.getD a1.toNat (dft tStep)).2).2).length : Int), (0 : Int)))) else none))
abbrev ct_impl_StepOk (N : Nat) : CT := ⟨50, (.pr (.d (.sl tStep)) (.d I)), (.t .bl), fun a => x_impl_StepOk N a.1 a.2⟩
theorem c_impl_StepOk (N : Nat) : CTok Try.prog (ct_impl_StepOk N) :=
  CT_ok (Γ := [ct_impl_in N, ct_impl_CredOk N, ct_impl_shown N]) (Θ := [(35, tFact), (54, tFact)]) (Λ := ([⟨0, (.pr (.d 0 (.sl tStep)) (.pr (.d 1 I) (.pr (.ip 5 tStep) (.pr (.o 6 tFact) (.pr (.d 37 (.sl I)) (.pr (.d 38 I) (.d 39 I))))))), (.pr (.ip 5 tStep) (.o 6 tFact)), fun {Ω} kx kr => iter (B_impl_StepOk_L0 N kx kr) N⟩] : List (LC (DenR (.t .bl))))) (by kernel_rfl) mixed ⟨c_impl_in N, ⟨c_impl_CredOk N, ⟨c_impl_shown N, trivial⟩⟩⟩ (by kernel_rfl)
    ⟨LoopEq.mk N (fun Ω kx kr => B_impl_StepOk_L0 N kx kr) (fun Ω g kx kr s => by kernel_rfl), trivial⟩ (by kernel_rfl) (fun a => by kernel_rfl)

/-- a round -/
def B_impl_ProofOk_L0 (N : Nat) {Ω : Type} (kx : DenS (.pr (.d 0 (.sl tStep)) (.pr (.d 2 I) (.ip 4 tRole))) → Option Ω) (kr : Bool → Option Ω) (rec_ : DenS (.pr (.d 0 (.sl tStep)) (.pr (.d 2 I) (.pr (.ip 4 tRole) (.pr (.d 13 I) (.d 14 I))))) → Option Ω) : DenS (.pr (.d 0 (.sl tStep)) (.pr (.d 2 I) (.pr (.ip 4 tRole) (.pr (.d 13 I) (.d 14 I))))) → Option Ω := fun (s0, s2, s4, s13, s14) =>
  (bif (decide (s14 < s13)) then (x_impl_StepOk N s0 s14).bind fun r2 => (bif (!r2) then kr false else rec_ (s0, s2, s4, s13, (wrap64 (s14 + (1 : Int))))) else kx (s0, s2, s4))
/-- loop.example/g00474/impl.ProofOk -/
def x_impl_ProofOk (N : Nat) (a0 : (List (Den tStep))) (a1 : (Den tRole)) (a2 : Int) : Option Bool :=
  (x_impl_in N (a0.length : Int) (1 : Int) (200 : Int)).bind fun r1 => (bif (!r1) then some false else iter (B_impl_ProofOk_L0 N (fun (x3, x4, x5) => (bif (decide (0 ≤ (wrap64 ((x3.length : Int) - (1 : Int)))) && decide ((wrap64 ((x3.length : Int) - (1 : Int))) < x3.length)) then some (decide ((((((x3.getD (wrap64 ((x3.length : Int) - (1 : Int))).toNat (dft tStep)).2).1).1).1) = x5.1) && (decide ((((((x3.getD (wrap64 ((x3.length : Int) - (1 : Int))).toNat (dft tStep)).2).1).1).2) = x5.2) && decide (((((x3.getD (wrap64 ((x3.length : Int) - (1 : Int))).toNat (dft tStep)).2).1).2) = x4))) else none)) (fun ρ6 => some (ρ6))) N (a0, a2, a1, (a0.length : Int), (0 : Int)))
abbrev ct_impl_ProofOk (N : Nat) : CT := ⟨24, (.pr (.d (.sl tStep)) (.pr (.d tRole) (.d I))), (.t .bl), fun a => x_impl_ProofOk N a.1 a.2.1 a.2.2⟩
theorem c_impl_ProofOk (N : Nat) : CTok Try.prog (ct_impl_ProofOk N) :=
  CT_ok (Γ := [ct_impl_in N, ct_impl_StepOk N]) (Θ := []) (Λ := ([⟨0, (.pr (.d 0 (.sl tStep)) (.pr (.d 2 I) (.pr (.ip 4 tRole) (.pr (.d 13 I) (.d 14 I))))), (.pr (.d 0 (.sl tStep)) (.pr (.d 2 I) (.ip 4 tRole))), fun {Ω} kx kr => iter (B_impl_ProofOk_L0 N kx kr) N⟩] : List (LC (DenR (.t .bl))))) (by kernel_rfl) mixed ⟨c_impl_in N, ⟨c_impl_StepOk N, trivial⟩⟩ (by kernel_rfl)
    ⟨LoopEq.mk N (fun Ω kx kr => B_impl_ProofOk_L0 N kx kr) (fun Ω g kx kr s => by kernel_rfl), trivial⟩ (by kernel_rfl) (fun a => by kernel_rfl)

/-- a round -/
def B_impl_Alive_L0 (N : Nat) {Ω : Type} (kx : DenS (.o 5 tCred) → Option Ω) (kr : (List (Den tCred)) → Option Ω) (rec_ : DenS (.pr (.d 1 I) (.pr (.o 5 tCred) (.pr (.d 9 (.sl tCred)) (.pr (.d 10 I) (.d 11 I))))) → Option Ω) : DenS (.pr (.d 1 I) (.pr (.o 5 tCred) (.pr (.d 9 (.sl tCred)) (.pr (.d 10 I) (.d 11 I))))) → Option Ω := fun (s1, s5, s9, s10, s11) =>
  (bif (decide (s11 < s10)) then (bif (decide (0 ≤ s11) && decide (s11 < s9.length)) then (x_impl_CredOk N ((s9.getD s11.toNat (dft tCred)).1, ((((s9.getD s11.toNat (dft tCred)).2).1).1, (((s9.getD s11.toNat (dft tCred)).2).1).2), (((s9.getD s11.toNat (dft tCred)).2).2).1, ((((((s9.getD s11.toNat (dft tCred)).2).2).2).1).1, (((((s9.getD s11.toNat (dft tCred)).2).2).2).1).2), (((((((s9.getD s11.toNat (dft tCred)).2).2).2).2).1).1, ((((((s9.getD s11.toNat (dft tCred)).2).2).2).2).1).2), ((((((s9.getD s11.toNat (dft tCred)).2).2).2).2).2).1, ((((((s9.getD s11.toNat (dft tCred)).2).2).2).2).2).2)).bind fun r1 => (bif r1 then (bif (decide (s1 ≤ (((((((s9.getD s11.toNat (dft tCred)).2).2).2).2).2).1))) then (bif (decide ((s5.length + [((s9.getD s11.toNat (dft tCred)).1, ((((s9.getD s11.toNat (dft tCred)).2).1).1, (((s9.getD s11.toNat (dft tCred)).2).1).2), (((s9.getD s11.toNat (dft tCred)).2).2).1, ((((((s9.getD s11.toNat (dft tCred)).2).2).2).1).1, (((((s9.getD s11.toNat (dft tCred)).2).2).2).1).2), (((((((s9.getD s11.toNat (dft tCred)).2).2).2).2).1).1, ((((((s9.getD s11.toNat (dft tCred)).2).2).2).2).1).2), ((((((s9.getD s11.toNat (dft tCred)).2).2).2).2).2).1, ((((((s9.getD s11.toNat (dft tCred)).2).2).2).2).2).2)].length) * 80 ≤ 140737488355328)) then rec_ (s1, (s5 ++ [((s9.getD s11.toNat (dft tCred)).1, ((((s9.getD s11.toNat (dft tCred)).2).1).1, (((s9.getD s11.toNat (dft tCred)).2).1).2), (((s9.getD s11.toNat (dft tCred)).2).2).1, ((((((s9.getD s11.toNat (dft tCred)).2).2).2).1).1, (((((s9.getD s11.toNat (dft tCred)).2).2).2).1).2), (((((((s9.getD s11.toNat (dft tCred)).2).2).2).2).1).1, ((((((s9.getD s11.toNat (dft tCred)).2).2).2).2).1).2), ((((((s9.getD s11.toNat (dft tCred)).2).2).2).2).2).1, ((((((s9.getD s11.toNat (dft tCred)).2).2).2).2).2).2)]), s9, s10, (wrap64 (s11 + (1 : Int)))) else none) else rec_ (s1, s5, s9, s10, (wrap64 (s11 + (1 : Int))))) else rec_ (s1, s5, s9, s10, (wrap64 (s11 + (1 : Int))))) else none) else kx s5)
/-- loop.example/g00474/impl.Alive -/
def x_impl_Alive (N : Nat) (a0 : (List (Den tCred))) (a1 : Int) : Option (List (Den tCred)) :=
  iter (B_impl_Alive_L0 N (fun x2 => some x2) (fun ρ3 => some (ρ3))) N (a1, [], a0, (a0.length : Int), (0 : Int))
abbrev ct_impl_Alive (N : Nat) : CT := ⟨134, (.pr (.d (.sl tCred)) (.d I)), (.t (.sl tCred)), fun a => x_impl_Alive N a.1 a.2⟩
theorem c_impl_Alive (N : Nat) : CTok Try.prog (ct_impl_Alive N) :=
  CT_ok (Γ := [ct_impl_CredOk N]) (Θ := [(8, tCred), (25, tCred)]) (Λ := ([⟨0, (.pr (.d 1 I) (.pr (.o 5 tCred) (.pr (.d 9 (.sl tCred)) (.pr (.d 10 I) (.d 11 I))))), (.o 5 tCred), fun {Ω} kx kr => iter (B_impl_Alive_L0 N kx kr) N⟩] : List (LC (DenR (.t (.sl tCred)))))) (by kernel_rfl) mixed ⟨c_impl_CredOk N, trivial⟩ (by kernel_rfl)
    ⟨LoopEq.mk N (fun Ω kx kr => B_impl_Alive_L0 N kx kr) (fun Ω g kx kr s => by kernel_rfl), trivial⟩ (by kernel_rfl) (fun a => by kernel_rfl)

/-- loop.example/g00474/impl.AnswerOk -/
def x_impl_AnswerOk (N : Nat) (a0 : (Den tAnswer)) (a1 : (Den tRole)) (a2 : Int) (a3 : Int) : Option Bool :=
  (bif (!a0.1) then some (decide ((a0.2.1.length : Int) = (0 : Int))) else (x_impl_CredsIn N a0.2.1).bind fun r1 => (x_impl_ProofOk N a0.2.1 a1 a2).bind fun r2 => (bif r2 then (x_impl_Alive N r1 a3).bind fun r3 => some (decide ((r3.length : Int) = (r1.length : Int))) else some false))
abbrev ct_impl_AnswerOk (N : Nat) : CT := ⟨66, (.pr (.d tAnswer) (.pr (.d tRole) (.pr (.d I) (.d I)))), (.t .bl), fun a => x_impl_AnswerOk N a.1 a.2.1 a.2.2.1 a.2.2.2⟩
theorem c_impl_AnswerOk (N : Nat) : CTok Try.prog (ct_impl_AnswerOk N) :=
  CT_ok (Γ := [ct_impl_CredsIn N, ct_impl_ProofOk N, ct_impl_Alive N]) (Θ := []) (Λ := ([] : List (LC (DenR (.t .bl))))) (by kernel_rfl) mixed ⟨c_impl_CredsIn N, ⟨c_impl_ProofOk N, ⟨c_impl_Alive N, trivial⟩⟩⟩ (by kernel_rfl)
    trivial (by kernel_rfl) (fun a => by kernel_rfl)

/-- loop.example/g00474/laws.eqRole -/
def x_laws_eqRole (N : Nat) (a0 : (Den tRole)) (a1 : (Den tRole)) : Option Bool :=
  (bif (!decide (a0.1 = a1.1)) then some false else (bif (!decide (a0.2 = a1.2)) then some false else some true))
abbrev ct_laws_eqRole (N : Nat) : CT := ⟨164, (.pr (.d tRole) (.d tRole)), (.t .bl), fun a => x_laws_eqRole N a.1 a.2⟩
theorem c_laws_eqRole (N : Nat) : CTok Try.prog (ct_laws_eqRole N) :=
  CT_ok (Γ := []) (Θ := []) (Λ := ([] : List (LC (DenR (.t .bl))))) (by kernel_rfl) mixed trivial (by kernel_rfl)
    trivial (by kernel_rfl) (fun a => by kernel_rfl)

/-- loop.example/g00474/laws.eqCred -/
def x_laws_eqCred (N : Nat) (a0 : (Den tCred)) (a1 : (Den tCred)) : Option Bool :=
  (bif (!decide (a0.1 = a1.1)) then some false else (x_laws_eqRole N a0.2.1 a1.2.1).bind fun r1 => (bif (!r1) then some false else (bif (!decide (a0.2.2.1 = a1.2.2.1)) then some false else (x_laws_eqRole N a0.2.2.2.1 a1.2.2.2.1).bind fun r2 => (bif (!r2) then some false else (x_laws_eqRole N a0.2.2.2.2.1 a1.2.2.2.2.1).bind fun r3 => (bif (!r3) then some false else (bif (!decide (a0.2.2.2.2.2.1 = a1.2.2.2.2.2.1)) then some false else (bif (!decide (a0.2.2.2.2.2.2 = a1.2.2.2.2.2.2)) then some false else some true)))))))
abbrev ct_laws_eqCred (N : Nat) : CT := ⟨93, (.pr (.d tCred) (.d tCred)), (.t .bl), fun a => x_laws_eqCred N a.1 a.2⟩
theorem c_laws_eqCred (N : Nat) : CTok Try.prog (ct_laws_eqCred N) :=
  CT_ok (Γ := [ct_laws_eqRole N]) (Θ := []) (Λ := ([] : List (LC (DenR (.t .bl))))) (by kernel_rfl) mixed ⟨c_laws_eqRole N, trivial⟩ (by kernel_rfl)
    trivial (by kernel_rfl) (fun a => by kernel_rfl)

/-- loop.example/g00474/laws.eqFact -/
def x_laws_eqFact (N : Nat) (a0 : (Den tFact)) (a1 : (Den tFact)) : Option Bool :=
  (x_laws_eqRole N a0.1 a1.1).bind fun r1 => (bif (!r1) then some false else (bif (!decide (a0.2 = a1.2)) then some false else some true))
abbrev ct_laws_eqFact (N : Nat) : CT := ⟨169, (.pr (.d tFact) (.d tFact)), (.t .bl), fun a => x_laws_eqFact N a.1 a.2⟩
theorem c_laws_eqFact (N : Nat) : CTok Try.prog (ct_laws_eqFact N) :=
  CT_ok (Γ := [ct_laws_eqRole N]) (Θ := []) (Λ := ([] : List (LC (DenR (.t .bl))))) (by kernel_rfl) mixed ⟨c_laws_eqRole N, trivial⟩ (by kernel_rfl)
    trivial (by kernel_rfl) (fun a => by kernel_rfl)

/-- a round -/
def B_laws_eqIntS_L0 (N : Nat) {Ω : Type} (kx : DenS .un → Option Ω) (kr : Bool → Option Ω) (rec_ : DenS (.pr (.d 0 (.sl I)) (.pr (.d 1 (.sl I)) (.d 5 I))) → Option Ω) : DenS (.pr (.d 0 (.sl I)) (.pr (.d 1 (.sl I)) (.d 5 I))) → Option Ω := fun (s0, s1, s5) =>
  (bif (decide (s5 < (s0.length : Int))) then (bif (decide (0 ≤ s5) && decide (s5 < s0.length)) then (bif (decide (0 ≤ s5) && decide (s5 < s1.length)) then (bif (!decide ((s0.getD s5.toNat (0 : Int)) = (s1.getD s5.toNat (0 : Int)))) then kr false else rec_ (s0, s1, (wrap64 (s5 + (1 : Int))))) else none) else none) else kx ())
/-- loop.example/g00474/laws.eqIntS -/
def x_laws_eqIntS (N : Nat) (a0 : (List Int)) (a1 : (List Int)) : Option Bool :=
  (bif (!decide ((a0.length : Int) = (a1.length : Int))) then some false else iter (B_laws_eqIntS_L0 N (fun _ => some true) (fun ρ1 => some (ρ1))) N (a0, a1, (0 : Int)))
abbrev ct_laws_eqIntS (N : Nat) : CT := ⟨56, (.pr (.d (.sl I)) (.d (.sl I))), (.t .bl), fun a => x_laws_eqIntS N a.1 a.2⟩
theorem c_laws_eqIntS (N : Nat) : CTok Try.prog (ct_laws_eqIntS N) :=
  CT_ok (Γ := []) (Θ := []) (Λ := ([⟨0, (.pr (.d 0 (.sl I)) (.pr (.d 1 (.sl I)) (.d 5 I))), .un, fun {Ω} kx kr => iter (B_laws_eqIntS_L0 N kx kr) N⟩] : List (LC (DenR (.t .bl))))) (by kernel_rfl) mixed trivial (by kernel_rfl)
    ⟨LoopEq.mk N (fun Ω kx kr => B_laws_eqIntS_L0 N kx kr) (fun Ω g kx kr s => by kernel_rfl), trivial⟩ (by kernel_rfl) (fun a => by kernel_rfl)

/-- loop.example/g00474/laws.eqStep -/
def x_laws_eqStep (N : Nat) (a0 : (Den tStep)) (a1 : (Den tStep)) : Option Bool :=
  (x_laws_eqCred N a0.1 a1.1).bind fun r1 => (bif (!r1) then some false else (x_laws_eqFact N a0.2.1 a1.2.1).bind fun r2 => (bif (!r2) then some false else (x_laws_eqIntS N a0.2.2 a1.2.2).bind fun r3 => (bif (!r3) then some false else some true)))
abbrev ct_laws_eqStep (N : Nat) : CT := ⟨100, (.pr (.d tStep) (.d tStep)), (.t .bl), fun a => x_laws_eqStep N a.1 a.2⟩
theorem c_laws_eqStep (N : Nat) : CTok Try.prog (ct_laws_eqStep N) :=
  CT_ok (Γ := [ct_laws_eqCred N, ct_laws_eqFact N, ct_laws_eqIntS N]) (Θ := []) (Λ := ([] : List (LC (DenR (.t .bl))))) (by kernel_rfl) mixed ⟨c_laws_eqCred N, ⟨c_laws_eqFact N, ⟨c_laws_eqIntS N, trivial⟩⟩⟩ (by kernel_rfl)
    trivial (by kernel_rfl) (fun a => by kernel_rfl)

/-- a round -/
def B_laws_eqStepS_L0 (N : Nat) {Ω : Type} (kx : DenS .un → Option Ω) (kr : Bool → Option Ω) (rec_ : DenS (.pr (.d 0 (.sl tStep)) (.pr (.d 1 (.sl tStep)) (.d 5 I))) → Option Ω) : DenS (.pr (.d 0 (.sl tStep)) (.pr (.d 1 (.sl tStep)) (.d 5 I))) → Option Ω := fun (s0, s1, s5) =>
  (bif (decide (s5 < (s0.length : Int))) then (bif (decide (0 ≤ s5) && decide (s5 < s0.length)) then (bif (decide (0 ≤ s5) && decide (s5 < s1.length)) then (x_laws_eqStep N (s0.getD s5.toNat (dft tStep)) (s1.getD s5.toNat (dft tStep))).bind fun r1 => (bif (!r1) then kr false else rec_ (s0, s1, (wrap64 (s5 + (1 : Int))))) else none) else none) else kx ())
/-- loop.example/g00474/laws.eqStepS -/
def x_laws_eqStepS (N : Nat) (a0 : (List (Den tStep))) (a1 : (List (Den tStep))) : Option Bool :=
  (bif (!decide ((a0.length : Int) = (a1.length : Int))) then some false else iter (B_laws_eqStepS_L0 N (fun _ => some true) (fun ρ2 => some (ρ2))) N (a0, a1, (0 : Int)))
abbrev ct_laws_eqStepS (N : Nat) : CT := ⟨25, (.pr (.d (.sl tStep)) (.d (.sl tStep))), (.t .bl), fun a => x_laws_eqStepS N a.1 a.2⟩
theorem c_laws_eqStepS (N : Nat) : CTok Try.prog (ct_laws_eqStepS N) :=
  CT_ok (Γ := [ct_laws_eqStep N]) (Θ := []) (Λ := ([⟨0, (.pr (.d 0 (.sl tStep)) (.pr (.d 1 (.sl tStep)) (.d 5 I))), .un, fun {Ω} kx kr => iter (B_laws_eqStepS_L0 N kx kr) N⟩] : List (LC (DenR (.t .bl))))) (by kernel_rfl) mixed ⟨c_laws_eqStep N, trivial⟩ (by kernel_rfl)
    ⟨LoopEq.mk N (fun Ω kx kr => B_laws_eqStepS_L0 N kx kr) (fun Ω g kx kr s => by kernel_rfl), trivial⟩ (by kernel_rfl) (fun a => by kernel_rfl)

/-- loop.example/g00474/laws.eqAnswer -/
def x_laws_eqAnswer (N : Nat) (a0 : (Den tAnswer)) (a1 : (Den tAnswer)) : Option Bool :=
  (bif (!(a0.1 == a1.1)) then some false else (x_laws_eqStepS N a0.2.1 a1.2.1).bind fun r1 => (bif (!r1) then some false else (bif (!decide (a0.2.2.1 = a1.2.2.1)) then some false else (bif (!(a0.2.2.2.1 == a1.2.2.2.1)) then some false else (bif (!(a0.2.2.2.2 == a1.2.2.2.2)) then some false else some true)))))
abbrev ct_laws_eqAnswer (N : Nat) : CT := ⟨67, (.pr (.d tAnswer) (.d tAnswer)), (.t .bl), fun a => x_laws_eqAnswer N a.1 a.2⟩
theorem c_laws_eqAnswer (N : Nat) : CTok Try.prog (ct_laws_eqAnswer N) :=
  CT_ok (Γ := [ct_laws_eqStepS N]) (Θ := []) (Λ := ([] : List (LC (DenR (.t .bl))))) (by kernel_rfl) mixed ⟨c_laws_eqStepS N, trivial⟩ (by kernel_rfl)
    trivial (by kernel_rfl) (fun a => by kernel_rfl)

/-- loop.example/g00474/laws.FnExactAnswerOk -/
def x_laws_FnExactAnswerOk (N : Nat) (a0 : (Den tAnswer)) (a1 : (Den tRole)) (a2 : Int) (a3 : Int) : Option Bool :=
  (x_laws_szAnswer N a0 (1048576 : Int)).bind fun r1 => (bif (decide (r1 < (0 : Int))) then some true else (x_laws_toAnswer N a0).bind fun r2 => (x_laws_toRole N a1).bind fun r3 => (x_spec_AnswerOk N r2 r3 a2 a3).bind fun r4 => (x_laws_toAnswer N a0).bind fun r5 => (x_laws_toRole N a1).bind fun r6 => (x_impl_AnswerOk N r5 r6 a2 a3).bind fun r7 => (bif (!(r7 == r4)) then some false else (x_laws_toAnswer N a0).bind fun r8 => (x_laws_eqAnswer N r5 r8).bind fun r9 => (bif (!r9) then some false else some true)))
abbrev ct_laws_FnExactAnswerOk (N : Nat) : CT := ⟨10, (.pr (.d tAnswer) (.pr (.d tRole) (.pr (.d I) (.d I)))), (.t .bl), fun a => x_laws_FnExactAnswerOk N a.1 a.2.1 a.2.2.1 a.2.2.2⟩
theorem c_laws_FnExactAnswerOk (N : Nat) : CTok Try.prog (ct_laws_FnExactAnswerOk N) :=
  CT_ok (Γ := [ct_laws_szAnswer N, ct_laws_toAnswer N, ct_laws_toRole N, ct_spec_AnswerOk N, ct_impl_AnswerOk N, ct_laws_eqAnswer N]) (Θ := []) (Λ := ([] : List (LC (DenR (.t .bl))))) (by kernel_rfl) mixed ⟨c_laws_szAnswer N, ⟨c_laws_toAnswer N, ⟨c_laws_toRole N, ⟨c_spec_AnswerOk N, ⟨c_impl_AnswerOk N, ⟨c_laws_eqAnswer N, trivial⟩⟩⟩⟩⟩⟩ (by kernel_rfl)
    trivial (by kernel_rfl) (fun a => by kernel_rfl)

end Go.Proofs.Yteadknjgpmnigaa.C
