/- Each function of the program that is reached computes the datum printed here: no condition beyond the arguments that its contract names. -/
import Derived.Test.YtcmlapepofgkpaaNxq
import Derived.Test.YtcmlapepofgkpaaChecked
import Derived.KernelRfl
namespace Go.Proofs.Ytcmlapepofgkpaa.C
open Go Go.Proofs.Ytcmlapepofgkpaa.Nx Go.RowKit
set_option maxRecDepth 100000
set_option linter.unusedVariables false
abbrev I : Ty := .i .i64
abbrev tRole : Ty := (.st (.pr I I))
abbrev tFact : Ty := (.st (.pr tRole I))
abbrev tCred : Ty := (.st (.pr I (.pr tRole (.pr I (.pr tRole (.pr tRole (.pr I I)))))))
abbrev tStep : Ty := (.st (.pr tCred (.pr tFact (.sl I))))
theorem mixed : Try.prog.follows .mixedOrders = true := by kernel_rfl

/-- loop.example/g00474/laws.szIntS -/
def x_laws_szIntS (N : Nat) (a0 : (List Int)) (a1 : Int) : Option Int :=
  (bif (decide ((wrap64 (a1 - (a0.length : Int))) < (0 : Int))) then some (-1 : Int) else some (wrap64 (a1 - (a0.length : Int))))
abbrev ct_laws_szIntS (N : Nat) : CT := ⟨125, (.pr (.d (.sl I)) (.d I)), (.t I), fun a => x_laws_szIntS N a.1 a.2⟩
theorem c_laws_szIntS (N : Nat) : CTok Try.prog (ct_laws_szIntS N) :=
  CT_ok (Γ := []) (Θ := []) (Λ := ([] : List (LC (DenR (.t I))))) (by kernel_rfl) mixed trivial (by kernel_rfl)
    trivial (by kernel_rfl) (fun a => by kernel_rfl)

/-- loop.example/g00474/laws.szStep -/
def x_laws_szStep (N : Nat) (a0 : (Den tStep)) (a1 : Int) : Option Int :=
  (x_laws_szIntS N a0.2.2 a1).bind fun r1 => (bif (decide (r1 < (0 : Int))) then some (-1 : Int) else some r1)
abbrev ct_laws_szStep (N : Nat) : CT := ⟨70, (.pr (.d tStep) (.d I)), (.t I), fun a => x_laws_szStep N a.1 a.2⟩
theorem c_laws_szStep (N : Nat) : CTok Try.prog (ct_laws_szStep N) :=
  CT_ok (Γ := [.c (ct_laws_szIntS N)]) (Θ := []) (Λ := ([] : List (LC (DenR (.t I))))) (by kernel_rfl) mixed ⟨c_laws_szIntS N, trivial⟩ (by kernel_rfl)
    trivial (by kernel_rfl) (fun a => by kernel_rfl)

/-- a round -/
def B_laws_szStepS_L0 (N : Nat) {Ω : Type} (kx : DenS (.d 1 I) → Option Ω) (kr : Int → Option Ω) (rec_ : DenS (.pr (.d 0 (.sl tStep)) (.pr (.d 1 I) (.d 5 I))) → Option Ω) : DenS (.pr (.d 0 (.sl tStep)) (.pr (.d 1 I) (.d 5 I))) → Option Ω := fun (s0, s1, s5) =>
  (bif (decide (s5 < (s0.length : Int))) then (bif (decide (0 ≤ s5) && decide (s5 < s0.length)) then (x_laws_szStep N (s0.getD s5.toNat (dft tStep)) s1).bind fun r1 => (bif (decide (r1 < (0 : Int))) then kr (-1 : Int) else rec_ (s0, r1, (wrap64 (s5 + (1 : Int))))) else none) else kx s1)
/-- loop.example/g00474/laws.szStepS -/
def x_laws_szStepS (N : Nat) (a0 : (List (Den tStep))) (a1 : Int) : Option Int :=
  (bif (decide ((wrap64 (a1 - (a0.length : Int))) < (0 : Int))) then some (-1 : Int) else iter (B_laws_szStepS_L0 N (fun x2 => some x2) (fun ρ3 => some (ρ3))) N (a0, (wrap64 (a1 - (a0.length : Int))), (0 : Int)))
abbrev ct_laws_szStepS (N : Nat) : CT := ⟨13, (.pr (.d (.sl tStep)) (.d I)), (.t I), fun a => x_laws_szStepS N a.1 a.2⟩
theorem c_laws_szStepS (N : Nat) : CTok Try.prog (ct_laws_szStepS N) :=
  CT_ok (Γ := [.c (ct_laws_szStep N)]) (Θ := []) (Λ := ([⟨0, 0, (.pr (.d 0 (.sl tStep)) (.pr (.d 1 I) (.d 5 I))), (.d 1 I), fun {Ω} kx kr => iter (B_laws_szStepS_L0 N kx kr) N⟩] : List (LC (DenR (.t I))))) (by kernel_rfl) mixed ⟨c_laws_szStep N, trivial⟩ (by kernel_rfl)
    ⟨LoopEq.mk N (fun Ω kx kr => B_laws_szStepS_L0 N kx kr) (fun Ω g kx kr s => by kernel_rfl), trivial⟩ (by kernel_rfl) (fun a => by kernel_rfl)

/-- loop.example/g00474/laws.toRole -/
def x_laws_toRole (N : Nat) (a0 : (Den tRole)) : Option (Den tRole) :=
  some a0
abbrev ct_laws_toRole (N : Nat) : CT := ⟨43, (.d tRole), (.t tRole), fun a => x_laws_toRole N a⟩
theorem c_laws_toRole (N : Nat) : CTok Try.prog (ct_laws_toRole N) :=
  CT_ok (Γ := []) (Θ := []) (Λ := ([] : List (LC (DenR (.t tRole))))) (by kernel_rfl) mixed trivial (by kernel_rfl)
    trivial (by kernel_rfl) (fun a => by kernel_rfl)

/-- loop.example/g00474/laws.toCred -/
def x_laws_toCred (N : Nat) (a0 : (Den tCred)) : Option (Den tCred) :=
  (x_laws_toRole N a0.2.1).bind fun r1 => (x_laws_toRole N a0.2.2.2.1).bind fun r2 => (x_laws_toRole N a0.2.2.2.2.1).bind fun r3 => some (a0.1, r1, a0.2.2.1, r2, r3, a0.2.2.2.2.2)
abbrev ct_laws_toCred (N : Nat) : CT := ⟨87, (.d tCred), (.t tCred), fun a => x_laws_toCred N a⟩
theorem c_laws_toCred (N : Nat) : CTok Try.prog (ct_laws_toCred N) :=
  CT_ok (Γ := [.c (ct_laws_toRole N)]) (Θ := []) (Λ := ([] : List (LC (DenR (.t tCred))))) (by kernel_rfl) mixed ⟨c_laws_toRole N, trivial⟩ (by kernel_rfl)
    trivial (by kernel_rfl) (fun a => by kernel_rfl)

/-- loop.example/g00474/laws.toFact -/
def x_laws_toFact (N : Nat) (a0 : (Den tFact)) : Option (Den tFact) :=
  (x_laws_toRole N a0.1).bind fun r1 => some (r1, a0.2)
abbrev ct_laws_toFact (N : Nat) : CT := ⟨150, (.d tFact), (.t tFact), fun a => x_laws_toFact N a⟩
theorem c_laws_toFact (N : Nat) : CTok Try.prog (ct_laws_toFact N) :=
  CT_ok (Γ := [.c (ct_laws_toRole N)]) (Θ := []) (Λ := ([] : List (LC (DenR (.t tFact))))) (by kernel_rfl) mixed ⟨c_laws_toRole N, trivial⟩ (by kernel_rfl)
    trivial (by kernel_rfl) (fun a => by kernel_rfl)

/-- a round -/
def B_laws_toIntS_L0 (N : Nat) {Ω : Type} (kx : DenS (.o 3 I) → Option Ω) (kr : (List Int) → Option Ω) (rec_ : DenS (.pr (.d 0 (.sl I)) (.pr (.o 3 I) (.d 4 I))) → Option Ω) : DenS (.pr (.d 0 (.sl I)) (.pr (.o 3 I) (.d 4 I))) → Option Ω := fun (s0, s3, s4) =>
  (bif (decide (s4 < (s0.length : Int))) then (bif (decide (0 ≤ s4) && decide (s4 < s0.length)) then (bif (decide (0 ≤ s4) && decide (s4 < s3.length)) then rec_ (s0, (s3.set s4.toNat (s0.getD s4.toNat (0 : Int))), (wrap64 (s4 + (1 : Int)))) else none) else none) else kx s3)
/-- loop.example/g00474/laws.toIntS -/
def x_laws_toIntS (N : Nat) (a0 : (List Int)) : Option (List Int) :=
  (bif (decide ((a0.length : Int) = (a0.length : Int)) && (decide (0 ≤ (a0.length : Int)) && (decide ((a0.length : Int) * (8 : Nat) ≤ 140737488355328) && decide ((a0.length : Int) ≤ 9223372036854775807)))) then iter (B_laws_toIntS_L0 N (fun x1 => some x1) (fun ρ2 => some (ρ2))) N (a0, (List.replicate (a0.length : Int).toNat (0 : Int)), (0 : Int)) else none)
abbrev ct_laws_toIntS (N : Nat) : CT := ⟨50, (.d (.sl I)), (.t (.sl I)), fun a => x_laws_toIntS N a⟩
theorem c_laws_toIntS (N : Nat) : CTok Try.prog (ct_laws_toIntS N) :=
  CT_ok (Γ := []) (Θ := [(7, I)]) (Λ := ([⟨0, 0, (.pr (.d 0 (.sl I)) (.pr (.o 3 I) (.d 4 I))), (.o 3 I), fun {Ω} kx kr => iter (B_laws_toIntS_L0 N kx kr) N⟩] : List (LC (DenR (.t (.sl I)))))) (by kernel_rfl) mixed trivial (by kernel_rfl)
    ⟨LoopEq.mk N (fun Ω kx kr => B_laws_toIntS_L0 N kx kr) (fun Ω g kx kr s => by kernel_rfl), trivial⟩ (by kernel_rfl) (fun a => by kernel_rfl)

/-- loop.example/g00474/laws.toStep -/
def x_laws_toStep (N : Nat) (a0 : (Den tStep)) : Option (Den tStep) :=
  (x_laws_toCred N a0.1).bind fun r1 => (x_laws_toFact N a0.2.1).bind fun r2 => (x_laws_toIntS N a0.2.2).bind fun r3 => some (r1, r2, r3)
abbrev ct_laws_toStep (N : Nat) : CT := ⟨71, (.d tStep), (.t tStep), fun a => x_laws_toStep N a⟩
theorem c_laws_toStep (N : Nat) : CTok Try.prog (ct_laws_toStep N) :=
  CT_ok (Γ := [.c (ct_laws_toCred N), .c (ct_laws_toFact N), .c (ct_laws_toIntS N)]) (Θ := []) (Λ := ([] : List (LC (DenR (.t tStep))))) (by kernel_rfl) mixed ⟨c_laws_toCred N, ⟨c_laws_toFact N, ⟨c_laws_toIntS N, trivial⟩⟩⟩ (by kernel_rfl)
    trivial (by kernel_rfl) (fun a => by kernel_rfl)

/-- a round -/
def B_laws_toStepS_L0 (N : Nat) {Ω : Type} (kx : DenS (.o 3 tStep) → Option Ω) (kr : (List (Den tStep)) → Option Ω) (rec_ : DenS (.pr (.d 0 (.sl tStep)) (.pr (.o 3 tStep) (.d 4 I))) → Option Ω) : DenS (.pr (.d 0 (.sl tStep)) (.pr (.o 3 tStep) (.d 4 I))) → Option Ω := fun (s0, s3, s4) =>
  (bif (decide (s4 < (s0.length : Int))) then (bif (decide (0 ≤ s4) && decide (s4 < s0.length)) then (x_laws_toStep N (s0.getD s4.toNat (dft tStep))).bind fun r1 => (bif (decide (0 ≤ s4) && decide (s4 < s3.length)) then rec_ (s0, (s3.set s4.toNat r1), (wrap64 (s4 + (1 : Int)))) else none) else none) else kx s3)
/-- loop.example/g00474/laws.toStepS -/
def x_laws_toStepS (N : Nat) (a0 : (List (Den tStep))) : Option (List (Den tStep)) :=
  (bif (decide ((a0.length : Int) = (a0.length : Int)) && (decide (0 ≤ (a0.length : Int)) && (decide ((a0.length : Int) * (128 : Nat) ≤ 140737488355328) && decide ((a0.length : Int) ≤ 9223372036854775807)))) then iter (B_laws_toStepS_L0 N (fun x2 => some x2) (fun ρ3 => some (ρ3))) N (a0, (List.replicate (a0.length : Int).toNat (dft tStep)), (0 : Int)) else none)
abbrev ct_laws_toStepS (N : Nat) : CT := ⟨15, (.d (.sl tStep)), (.t (.sl tStep)), fun a => x_laws_toStepS N a⟩
theorem c_laws_toStepS (N : Nat) : CTok Try.prog (ct_laws_toStepS N) :=
  CT_ok (Γ := [.c (ct_laws_toStep N)]) (Θ := [(7, tStep)]) (Λ := ([⟨0, 0, (.pr (.d 0 (.sl tStep)) (.pr (.o 3 tStep) (.d 4 I))), (.o 3 tStep), fun {Ω} kx kr => iter (B_laws_toStepS_L0 N kx kr) N⟩] : List (LC (DenR (.t (.sl tStep)))))) (by kernel_rfl) mixed ⟨c_laws_toStep N, trivial⟩ (by kernel_rfl)
    ⟨LoopEq.mk N (fun Ω kx kr => B_laws_toStepS_L0 N kx kr) (fun Ω g kx kr s => by kernel_rfl), trivial⟩ (by kernel_rfl) (fun a => by kernel_rfl)

/-- a round -/
def B_spec_CredsIn_L2 (N : Nat) {Ω : Type} (kx : DenS (.pr (.d 0 (.sl tStep)) (.pr (.o 3 tCred) (.pr (.d 4 I) (.d 5 .bl)))) → Option Ω) (kr : (List (Den tCred)) → Option Ω) (rec_ : DenS (.pr (.d 0 (.sl tStep)) (.pr (.o 3 tCred) (.pr (.d 4 I) (.pr (.d 5 .bl) (.d 6 I))))) → Option Ω) : DenS (.pr (.d 0 (.sl tStep)) (.pr (.o 3 tCred) (.pr (.d 4 I) (.pr (.d 5 .bl) (.d 6 I))))) → Option Ω := fun (s0, s3, s4, s5, s6) =>
  (bif (decide (s6 < (s3.length : Int))) then (bif s5 then rec_ (s0, s3, s4, true, (wrap64 (s6 + (1 : Int)))) else (bif (decide (0 ≤ s6) && decide (s6 < s3.length)) then (bif (decide (0 ≤ s4) && decide (s4 < s0.length)) then rec_ (s0, s3, s4, (decide (((s3.getD s6.toNat (dft tCred)).1) = (((s0.getD s4.toNat (dft tStep)).1).1)) && (decide (((((s3.getD s6.toNat (dft tCred)).2).1).1) = (((((s0.getD s4.toNat (dft tStep)).1).2).1).1)) && (decide (((((s3.getD s6.toNat (dft tCred)).2).1).2) = (((((s0.getD s4.toNat (dft tStep)).1).2).1).2)) && (decide (((((s3.getD s6.toNat (dft tCred)).2).2).1) = (((((s0.getD s4.toNat (dft tStep)).1).2).2).1)) && (decide (((((((s3.getD s6.toNat (dft tCred)).2).2).2).1).1) = (((((((s0.getD s4.toNat (dft tStep)).1).2).2).2).1).1)) && (decide (((((((s3.getD s6.toNat (dft tCred)).2).2).2).1).2) = (((((((s0.getD s4.toNat (dft tStep)).1).2).2).2).1).2)) && (decide ((((((((s3.getD s6.toNat (dft tCred)).2).2).2).2).1).1) = ((((((((s0.getD s4.toNat (dft tStep)).1).2).2).2).2).1).1)) && (decide ((((((((s3.getD s6.toNat (dft tCred)).2).2).2).2).1).2) = ((((((((s0.getD s4.toNat (dft tStep)).1).2).2).2).2).1).2)) && (decide ((((((((s3.getD s6.toNat (dft tCred)).2).2).2).2).2).1) = ((((((((s0.getD s4.toNat (dft tStep)).1).2).2).2).2).2).1)) && decide ((((((((s3.getD s6.toNat (dft tCred)).2).2).2).2).2).2) = ((((((((s0.getD s4.toNat (dft tStep)).1).2).2).2).2).2).2))))))))))), (wrap64 (s6 + (1 : Int)))) else none) else none)) else kx (s0, s3, s4, s5))
/-- a round -/
def B_spec_CredsIn_L0 (N : Nat) {Ω : Type} (kx : DenS (.o 3 tCred) → Option Ω) (kr : (List (Den tCred)) → Option Ω) (rec_ : DenS (.pr (.d 0 (.sl tStep)) (.pr (.o 3 tCred) (.d 4 I))) → Option Ω) : DenS (.pr (.d 0 (.sl tStep)) (.pr (.o 3 tCred) (.d 4 I))) → Option Ω := fun (s0, s3, s4) =>
  (bif (decide (s4 < (s0.length : Int))) then iter (B_spec_CredsIn_L2 N (fun (x1, x2, x3, x4) => (bif (!x4) then (bif (decide (0 ≤ x3) && decide (x3 < x1.length)) then (bif (decide ((x2.length + [(x1.getD x3.toNat (dft tStep)).1].length) * 80 ≤ 140737488355328)) then rec_ (x1, (x2 ++ [(x1.getD x3.toNat (dft tStep)).1]), (wrap64 (x3 + (1 : Int)))) else none) else none) else rec_ (x1, x2, (wrap64 (x3 + (1 : Int)))))) (fun ρ5 => kr (ρ5))) N (s0, s3, s4, false, (0 : Int)) else kx s3)
/-- loop.example/g00474/spec.CredsIn -/
def x_spec_CredsIn (N : Nat) (a0 : (List (Den tStep))) : Option (List (Den tCred)) :=
  iter (B_spec_CredsIn_L0 N (fun x6 => some x6) (fun ρ7 => some (ρ7))) N (a0, [], (0 : Int))
abbrev ct_spec_CredsIn (N : Nat) : CT := ⟨14, (.d (.sl tStep)), (.t (.sl tCred)), fun a => x_spec_CredsIn N a⟩
theorem c_spec_CredsIn (N : Nat) : CTok Try.prog (ct_spec_CredsIn N) :=
  CT_ok (Γ := []) (Θ := [(7, tCred), (41, tCred)]) (Λ := ([⟨0, 0, (.pr (.d 0 (.sl tStep)) (.pr (.o 3 tCred) (.d 4 I))), (.o 3 tCred), fun {Ω} kx kr => iter (B_spec_CredsIn_L0 N kx kr) N⟩, ⟨2, 0, (.pr (.d 0 (.sl tStep)) (.pr (.o 3 tCred) (.pr (.d 4 I) (.pr (.d 5 .bl) (.d 6 I))))), (.pr (.d 0 (.sl tStep)) (.pr (.o 3 tCred) (.pr (.d 4 I) (.d 5 .bl)))), fun {Ω} kx kr => iter (B_spec_CredsIn_L2 N kx kr) N⟩] : List (LC (DenR (.t (.sl tCred)))))) (by kernel_rfl) mixed trivial (by kernel_rfl)
    ⟨LoopEq.mk N (fun Ω kx kr => B_spec_CredsIn_L0 N kx kr) (fun Ω g kx kr s => by kernel_rfl), ⟨LoopEq.mk N (fun Ω kx kr => B_spec_CredsIn_L2 N kx kr) (fun Ω g kx kr s => by kernel_rfl), trivial⟩⟩ (by kernel_rfl) (fun a => by kernel_rfl)

/-- a round -/
def B_slices_Index_impl_Cred_impl_Cred_L0 (N : Nat) {Ω : Type} (kx : DenS .un → Option Ω) (kr : Int → Option Ω) (rec_ : DenS (.pr (.d 0 (.sl tCred)) (.pr (.ip 3 tCred) (.pr (.d 7 I) (.d 8 I)))) → Option Ω) : DenS (.pr (.d 0 (.sl tCred)) (.pr (.ip 3 tCred) (.pr (.d 7 I) (.d 8 I)))) → Option Ω := fun (s0, s3, s7, s8) =>
  (bif (decide (s8 < s7)) then (bif (decide (0 ≤ s8) && decide (s8 < s0.length)) then (bif (decide (s3.1 = ((s0.getD s8.toNat (dft tCred)).1)) && (decide (s3.2.1.1 = ((((s0.getD s8.toNat (dft tCred)).2).1).1)) && (decide (s3.2.1.2 = ((((s0.getD s8.toNat (dft tCred)).2).1).2)) && (decide (s3.2.2.1 = ((((s0.getD s8.toNat (dft tCred)).2).2).1)) && (decide (s3.2.2.2.1.1 = ((((((s0.getD s8.toNat (dft tCred)).2).2).2).1).1)) && (decide (s3.2.2.2.1.2 = ((((((s0.getD s8.toNat (dft tCred)).2).2).2).1).2)) && (decide (s3.2.2.2.2.1.1 = (((((((s0.getD s8.toNat (dft tCred)).2).2).2).2).1).1)) && (decide (s3.2.2.2.2.1.2 = (((((((s0.getD s8.toNat (dft tCred)).2).2).2).2).1).2)) && (decide (s3.2.2.2.2.2.1 = (((((((s0.getD s8.toNat (dft tCred)).2).2).2).2).2).1)) && decide (s3.2.2.2.2.2.2 = (((((((s0.getD s8.toNat (dft tCred)).2).2).2).2).2).2))))))))))) then kr s8 else rec_ (s0, s3, s7, (wrap64 (s8 + (1 : Int))))) else none) else kx ())
/-- slices.Index[[]loop.example/g00474/impl.Cred,loop.example/g00474/impl.Cred] -/
def x_slices_Index_impl_Cred_impl_Cred (N : Nat) (a0 : (List (Den tCred))) (a1 : (Den tCred)) : Option Int :=
  iter (B_slices_Index_impl_Cred_impl_Cred_L0 N (fun _ => some (-1 : Int)) (fun ρ1 => some (ρ1))) N (a0, a1, (a0.length : Int), (0 : Int))
abbrev ct_slices_Index_impl_Cred_impl_Cred (N : Nat) : CT := ⟨151, (.pr (.d (.sl tCred)) (.d tCred)), (.t I), fun a => x_slices_Index_impl_Cred_impl_Cred N a.1 a.2⟩
theorem c_slices_Index_impl_Cred_impl_Cred (N : Nat) : CTok Try.prog (ct_slices_Index_impl_Cred_impl_Cred N) :=
  CT_ok (Γ := []) (Θ := []) (Λ := ([⟨0, 0, (.pr (.d 0 (.sl tCred)) (.pr (.ip 3 tCred) (.pr (.d 7 I) (.d 8 I)))), .un, fun {Ω} kx kr => iter (B_slices_Index_impl_Cred_impl_Cred_L0 N kx kr) N⟩] : List (LC (DenR (.t I))))) (by kernel_rfl) mixed trivial (by kernel_rfl)
    ⟨LoopEq.mk N (fun Ω kx kr => B_slices_Index_impl_Cred_impl_Cred_L0 N kx kr) (fun Ω g kx kr s => by kernel_rfl), trivial⟩ (by kernel_rfl) (fun a => by kernel_rfl)

/-- slices.Contains[[]loop.example/g00474/impl.Cred,loop.example/g00474/impl.Cred] -/
def x_slices_Contains_impl_Cred_impl_Cred (N : Nat) (a0 : (List (Den tCred))) (a1 : (Den tCred)) : Option Bool :=
  (x_slices_Index_impl_Cred_impl_Cred N a0 a1).bind fun r1 => some (decide ((0 : Int) ≤ r1))
abbrev ct_slices_Contains_impl_Cred_impl_Cred (N : Nat) : CT := ⟨72, (.pr (.d (.sl tCred)) (.d tCred)), (.t .bl), fun a => x_slices_Contains_impl_Cred_impl_Cred N a.1 a.2⟩
theorem c_slices_Contains_impl_Cred_impl_Cred (N : Nat) : CTok Try.prog (ct_slices_Contains_impl_Cred_impl_Cred N) :=
  CT_ok (Γ := [.c (ct_slices_Index_impl_Cred_impl_Cred N)]) (Θ := []) (Λ := ([] : List (LC (DenR (.t .bl))))) (by kernel_rfl) mixed ⟨c_slices_Index_impl_Cred_impl_Cred N, trivial⟩ (by kernel_rfl)
    trivial (by kernel_rfl) (fun a => by kernel_rfl)

/-- a round -/
def B_impl_CredsIn_L0 (N : Nat) {Ω : Type} (kx : DenS (.o 3 tCred) → Option Ω) (kr : (List (Den tCred)) → Option Ω) (rec_ : DenS (.pr (.o 3 tCred) (.pr (.d 7 (.sl tStep)) (.pr (.d 8 I) (.d 9 I)))) → Option Ω) : DenS (.pr (.o 3 tCred) (.pr (.d 7 (.sl tStep)) (.pr (.d 8 I) (.d 9 I)))) → Option Ω := fun (s3, s7, s8, s9) =>
  (bif (decide (s9 < s8)) then (bif (decide (0 ≤ s9) && decide (s9 < s7.length)) then (x_slices_Contains_impl_Cred_impl_Cred N s3 (((s7.getD s9.toNat (dft tStep)).1).1, (((((s7.getD s9.toNat (dft tStep)).1).2).1).1, ((((s7.getD s9.toNat (dft tStep)).1).2).1).2), ((((s7.getD s9.toNat (dft tStep)).1).2).2).1, (((((((s7.getD s9.toNat (dft tStep)).1).2).2).2).1).1, ((((((s7.getD s9.toNat (dft tStep)).1).2).2).2).1).2), ((((((((s7.getD s9.toNat (dft tStep)).1).2).2).2).2).1).1, (((((((s7.getD s9.toNat (dft tStep)).1).2).2).2).2).1).2), (((((((s7.getD s9.toNat (dft tStep)).1).2).2).2).2).2).1, (((((((s7.getD s9.toNat (dft tStep)).1).2).2).2).2).2).2)).bind fun r1 => (bif (!r1) then (bif (decide ((s3.length + [(((s7.getD s9.toNat (dft tStep)).1).1, (((((s7.getD s9.toNat (dft tStep)).1).2).1).1, ((((s7.getD s9.toNat (dft tStep)).1).2).1).2), ((((s7.getD s9.toNat (dft tStep)).1).2).2).1, (((((((s7.getD s9.toNat (dft tStep)).1).2).2).2).1).1, ((((((s7.getD s9.toNat (dft tStep)).1).2).2).2).1).2), ((((((((s7.getD s9.toNat (dft tStep)).1).2).2).2).2).1).1, (((((((s7.getD s9.toNat (dft tStep)).1).2).2).2).2).1).2), (((((((s7.getD s9.toNat (dft tStep)).1).2).2).2).2).2).1, (((((((s7.getD s9.toNat (dft tStep)).1).2).2).2).2).2).2)].length) * 80 ≤ 140737488355328)) then rec_ ((s3 ++ [(((s7.getD s9.toNat (dft tStep)).1).1, (((((s7.getD s9.toNat (dft tStep)).1).2).1).1, ((((s7.getD s9.toNat (dft tStep)).1).2).1).2), ((((s7.getD s9.toNat (dft tStep)).1).2).2).1, (((((((s7.getD s9.toNat (dft tStep)).1).2).2).2).1).1, ((((((s7.getD s9.toNat (dft tStep)).1).2).2).2).1).2), ((((((((s7.getD s9.toNat (dft tStep)).1).2).2).2).2).1).1, (((((((s7.getD s9.toNat (dft tStep)).1).2).2).2).2).1).2), (((((((s7.getD s9.toNat (dft tStep)).1).2).2).2).2).2).1, (((((((s7.getD s9.toNat (dft tStep)).1).2).2).2).2).2).2)]), s7, s8, (wrap64 (s9 + (1 : Int)))) else none) else rec_ (s3, s7, s8, (wrap64 (s9 + (1 : Int))))) else none) else kx s3)
/-- loop.example/g00474/impl.CredsIn -/
def x_impl_CredsIn (N : Nat) (a0 : (List (Den tStep))) : Option (List (Den tCred)) :=
  iter (B_impl_CredsIn_L0 N (fun x2 => some x2) (fun ρ3 => some (ρ3))) N ([], a0, (a0.length : Int), (0 : Int))
abbrev ct_impl_CredsIn (N : Nat) : CT := ⟨16, (.d (.sl tStep)), (.t (.sl tCred)), fun a => x_impl_CredsIn N a⟩
theorem c_impl_CredsIn (N : Nat) : CTok Try.prog (ct_impl_CredsIn N) :=
  CT_ok (Γ := [.c (ct_slices_Contains_impl_Cred_impl_Cred N)]) (Θ := [(6, tCred), (21, tCred)]) (Λ := ([⟨0, 0, (.pr (.o 3 tCred) (.pr (.d 7 (.sl tStep)) (.pr (.d 8 I) (.d 9 I)))), (.o 3 tCred), fun {Ω} kx kr => iter (B_impl_CredsIn_L0 N kx kr) N⟩] : List (LC (DenR (.t (.sl tCred)))))) (by kernel_rfl) mixed ⟨c_slices_Contains_impl_Cred_impl_Cred N, trivial⟩ (by kernel_rfl)
    ⟨LoopEq.mk N (fun Ω kx kr => B_impl_CredsIn_L0 N kx kr) (fun Ω g kx kr s => by kernel_rfl), trivial⟩ (by kernel_rfl) (fun a => by kernel_rfl)

/-- loop.example/g00474/laws.eqRole -/
def x_laws_eqRole (N : Nat) (a0 : (Den tRole)) (a1 : (Den tRole)) : Option Bool :=
  (bif (!decide (a0.1 = a1.1)) then some false else (bif (!decide (a0.2 = a1.2)) then some false else some true))
abbrev ct_laws_eqRole (N : Nat) : CT := ⟨149, (.pr (.d tRole) (.d tRole)), (.t .bl), fun a => x_laws_eqRole N a.1 a.2⟩
theorem c_laws_eqRole (N : Nat) : CTok Try.prog (ct_laws_eqRole N) :=
  CT_ok (Γ := []) (Θ := []) (Λ := ([] : List (LC (DenR (.t .bl))))) (by kernel_rfl) mixed trivial (by kernel_rfl)
    trivial (by kernel_rfl) (fun a => by kernel_rfl)

/-- loop.example/g00474/laws.eqCred -/
def x_laws_eqCred (N : Nat) (a0 : (Den tCred)) (a1 : (Den tCred)) : Option Bool :=
  (bif (!decide (a0.1 = a1.1)) then some false else (x_laws_eqRole N a0.2.1 a1.2.1).bind fun r1 => (bif (!r1) then some false else (bif (!decide (a0.2.2.1 = a1.2.2.1)) then some false else (x_laws_eqRole N a0.2.2.2.1 a1.2.2.2.1).bind fun r2 => (bif (!r2) then some false else (x_laws_eqRole N a0.2.2.2.2.1 a1.2.2.2.2.1).bind fun r3 => (bif (!r3) then some false else (bif (!decide (a0.2.2.2.2.2.1 = a1.2.2.2.2.2.1)) then some false else (bif (!decide (a0.2.2.2.2.2.2 = a1.2.2.2.2.2.2)) then some false else some true)))))))
abbrev ct_laws_eqCred (N : Nat) : CT := ⟨73, (.pr (.d tCred) (.d tCred)), (.t .bl), fun a => x_laws_eqCred N a.1 a.2⟩
theorem c_laws_eqCred (N : Nat) : CTok Try.prog (ct_laws_eqCred N) :=
  CT_ok (Γ := [.c (ct_laws_eqRole N)]) (Θ := []) (Λ := ([] : List (LC (DenR (.t .bl))))) (by kernel_rfl) mixed ⟨c_laws_eqRole N, trivial⟩ (by kernel_rfl)
    trivial (by kernel_rfl) (fun a => by kernel_rfl)

/-- a round -/
def B_laws_eqCredS_L0 (N : Nat) {Ω : Type} (kx : DenS .un → Option Ω) (kr : Bool → Option Ω) (rec_ : DenS (.pr (.d 0 (.sl tCred)) (.pr (.d 1 (.sl tCred)) (.d 5 I))) → Option Ω) : DenS (.pr (.d 0 (.sl tCred)) (.pr (.d 1 (.sl tCred)) (.d 5 I))) → Option Ω := fun (s0, s1, s5) =>
  (bif (decide (s5 < (s0.length : Int))) then (bif (decide (0 ≤ s5) && decide (s5 < s0.length)) then (bif (decide (0 ≤ s5) && decide (s5 < s1.length)) then (x_laws_eqCred N (s0.getD s5.toNat (dft tCred)) (s1.getD s5.toNat (dft tCred))).bind fun r1 => (bif (!r1) then kr false else rec_ (s0, s1, (wrap64 (s5 + (1 : Int))))) else none) else none) else kx ())
/-- loop.example/g00474/laws.eqCredS -/
def x_laws_eqCredS (N : Nat) (a0 : (List (Den tCred))) (a1 : (List (Den tCred))) : Option Bool :=
  (bif (!decide ((a0.length : Int) = (a1.length : Int))) then some false else iter (B_laws_eqCredS_L0 N (fun _ => some true) (fun ρ2 => some (ρ2))) N (a0, a1, (0 : Int)))
abbrev ct_laws_eqCredS (N : Nat) : CT := ⟨17, (.pr (.d (.sl tCred)) (.d (.sl tCred))), (.t .bl), fun a => x_laws_eqCredS N a.1 a.2⟩
theorem c_laws_eqCredS (N : Nat) : CTok Try.prog (ct_laws_eqCredS N) :=
  CT_ok (Γ := [.c (ct_laws_eqCred N)]) (Θ := []) (Λ := ([⟨0, 0, (.pr (.d 0 (.sl tCred)) (.pr (.d 1 (.sl tCred)) (.d 5 I))), .un, fun {Ω} kx kr => iter (B_laws_eqCredS_L0 N kx kr) N⟩] : List (LC (DenR (.t .bl))))) (by kernel_rfl) mixed ⟨c_laws_eqCred N, trivial⟩ (by kernel_rfl)
    ⟨LoopEq.mk N (fun Ω kx kr => B_laws_eqCredS_L0 N kx kr) (fun Ω g kx kr s => by kernel_rfl), trivial⟩ (by kernel_rfl) (fun a => by kernel_rfl)

/-- loop.example/g00474/laws.eqFact -/
def x_laws_eqFact (N : Nat) (a0 : (Den tFact)) (a1 : (Den tFact)) : Option Bool :=
  (x_laws_eqRole N a0.1 a1.1).bind fun r1 => (bif (!r1) then some false else (bif (!decide (a0.2 = a1.2)) then some false else some true))
abbrev ct_laws_eqFact (N : Nat) : CT := ⟨152, (.pr (.d tFact) (.d tFact)), (.t .bl), fun a => x_laws_eqFact N a.1 a.2⟩
theorem c_laws_eqFact (N : Nat) : CTok Try.prog (ct_laws_eqFact N) :=
  CT_ok (Γ := [.c (ct_laws_eqRole N)]) (Θ := []) (Λ := ([] : List (LC (DenR (.t .bl))))) (by kernel_rfl) mixed ⟨c_laws_eqRole N, trivial⟩ (by kernel_rfl)
    trivial (by kernel_rfl) (fun a => by kernel_rfl)

/-- a round -/
def B_laws_eqIntS_L0 (N : Nat) {Ω : Type} (kx : DenS .un → Option Ω) (kr : Bool → Option Ω) (rec_ : DenS (.pr (.d 0 (.sl I)) (.pr (.d 1 (.sl I)) (.d 5 I))) → Option Ω) : DenS (.pr (.d 0 (.sl I)) (.pr (.d 1 (.sl I)) (.d 5 I))) → Option Ω := fun (s0, s1, s5) =>
  (bif (decide (s5 < (s0.length : Int))) then (bif (decide (0 ≤ s5) && decide (s5 < s0.length)) then (bif (decide (0 ≤ s5) && decide (s5 < s1.length)) then (bif (!decide ((s0.getD s5.toNat (0 : Int)) = (s1.getD s5.toNat (0 : Int)))) then kr false else rec_ (s0, s1, (wrap64 (s5 + (1 : Int))))) else none) else none) else kx ())
/-- loop.example/g00474/laws.eqIntS -/
def x_laws_eqIntS (N : Nat) (a0 : (List Int)) (a1 : (List Int)) : Option Bool :=
  (bif (!decide ((a0.length : Int) = (a1.length : Int))) then some false else iter (B_laws_eqIntS_L0 N (fun _ => some true) (fun ρ1 => some (ρ1))) N (a0, a1, (0 : Int)))
abbrev ct_laws_eqIntS (N : Nat) : CT := ⟨26, (.pr (.d (.sl I)) (.d (.sl I))), (.t .bl), fun a => x_laws_eqIntS N a.1 a.2⟩
theorem c_laws_eqIntS (N : Nat) : CTok Try.prog (ct_laws_eqIntS N) :=
  CT_ok (Γ := []) (Θ := []) (Λ := ([⟨0, 0, (.pr (.d 0 (.sl I)) (.pr (.d 1 (.sl I)) (.d 5 I))), .un, fun {Ω} kx kr => iter (B_laws_eqIntS_L0 N kx kr) N⟩] : List (LC (DenR (.t .bl))))) (by kernel_rfl) mixed trivial (by kernel_rfl)
    ⟨LoopEq.mk N (fun Ω kx kr => B_laws_eqIntS_L0 N kx kr) (fun Ω g kx kr s => by kernel_rfl), trivial⟩ (by kernel_rfl) (fun a => by kernel_rfl)

/-- loop.example/g00474/laws.eqStep -/
def x_laws_eqStep (N : Nat) (a0 : (Den tStep)) (a1 : (Den tStep)) : Option Bool :=
  (x_laws_eqCred N a0.1 a1.1).bind fun r1 => (bif (!r1) then some false else (x_laws_eqFact N a0.2.1 a1.2.1).bind fun r2 => (bif (!r2) then some false else (x_laws_eqIntS N a0.2.2 a1.2.2).bind fun r3 => (bif (!r3) then some false else some true)))
abbrev ct_laws_eqStep (N : Nat) : CT := ⟨74, (.pr (.d tStep) (.d tStep)), (.t .bl), fun a => x_laws_eqStep N a.1 a.2⟩
theorem c_laws_eqStep (N : Nat) : CTok Try.prog (ct_laws_eqStep N) :=
  CT_ok (Γ := [.c (ct_laws_eqCred N), .c (ct_laws_eqFact N), .c (ct_laws_eqIntS N)]) (Θ := []) (Λ := ([] : List (LC (DenR (.t .bl))))) (by kernel_rfl) mixed ⟨c_laws_eqCred N, ⟨c_laws_eqFact N, ⟨c_laws_eqIntS N, trivial⟩⟩⟩ (by kernel_rfl)
    trivial (by kernel_rfl) (fun a => by kernel_rfl)

/-- a round -/
def B_laws_eqStepS_L0 (N : Nat) {Ω : Type} (kx : DenS .un → Option Ω) (kr : Bool → Option Ω) (rec_ : DenS (.pr (.d 0 (.sl tStep)) (.pr (.d 1 (.sl tStep)) (.d 5 I))) → Option Ω) : DenS (.pr (.d 0 (.sl tStep)) (.pr (.d 1 (.sl tStep)) (.d 5 I))) → Option Ω := fun (s0, s1, s5) =>
  (bif (decide (s5 < (s0.length : Int))) then (bif (decide (0 ≤ s5) && decide (s5 < s0.length)) then (bif (decide (0 ≤ s5) && decide (s5 < s1.length)) then (x_laws_eqStep N (s0.getD s5.toNat (dft tStep)) (s1.getD s5.toNat (dft tStep))).bind fun r1 => (bif (!r1) then kr false else rec_ (s0, s1, (wrap64 (s5 + (1 : Int))))) else none) else none) else kx ())
/-- loop.example/g00474/laws.eqStepS -/
def x_laws_eqStepS (N : Nat) (a0 : (List (Den tStep))) (a1 : (List (Den tStep))) : Option Bool :=
  (bif (!decide ((a0.length : Int) = (a1.length : Int))) then some false else iter (B_laws_eqStepS_L0 N (fun _ => some true) (fun ρ2 => some (ρ2))) N (a0, a1, (0 : Int)))
abbrev ct_laws_eqStepS (N : Nat) : CT := ⟨18, (.pr (.d (.sl tStep)) (.d (.sl tStep))), (.t .bl), fun a => x_laws_eqStepS N a.1 a.2⟩
theorem c_laws_eqStepS (N : Nat) : CTok Try.prog (ct_laws_eqStepS N) :=
  CT_ok (Γ := [.c (ct_laws_eqStep N)]) (Θ := []) (Λ := ([⟨0, 0, (.pr (.d 0 (.sl tStep)) (.pr (.d 1 (.sl tStep)) (.d 5 I))), .un, fun {Ω} kx kr => iter (B_laws_eqStepS_L0 N kx kr) N⟩] : List (LC (DenR (.t .bl))))) (by kernel_rfl) mixed ⟨c_laws_eqStep N, trivial⟩ (by kernel_rfl)
    ⟨LoopEq.mk N (fun Ω kx kr => B_laws_eqStepS_L0 N kx kr) (fun Ω g kx kr s => by kernel_rfl), trivial⟩ (by kernel_rfl) (fun a => by kernel_rfl)

/-- a round -/
def B_laws_markIntS_L0 (N : Nat) {Ω : Type} (kx : DenS (.pr (.o 0 I) (.d 1 I)) → Option Ω) (kr : (Int × DenW (.pr (.o 0 I) (.d 1 I))) → Option Ω) (rec_ : DenS (.pr (.o 0 I) (.pr (.d 1 I) (.d 5 I))) → Option Ω) : DenS (.pr (.o 0 I) (.pr (.d 1 I) (.d 5 I))) → Option Ω := fun (s0, s1, s5) =>
  (bif (decide (s5 < (s0.length : Int))) then (bif (decide (0 ≤ s5) && decide (s5 < s0.length)) then rec_ ((s0.set s5.toNat s1), (wrap64 (s1 + (1 : Int))), (wrap64 (s5 + (1 : Int)))) else none) else kx (s0, s1))
/-- loop.example/g00474/laws.markIntS -/
def x_laws_markIntS (N : Nat) (a0 : (List Int)) (a1 : Int) : Option (Int × DenW (.pr (.o 0 I) (.d 1 I))) :=
  (iter (B_laws_markIntS_L0 N (fun (x1, x2) => some (x2, x1, ())) (fun ρ3 => some (ρ3))) N (a0, a1, (0 : Int))).bind fun r => bif (Nat.beq a0.length r.2.1.length && true) then some r else none
abbrev cm_laws_markIntS (N : Nat) : CM := ⟨29, (.pr (.o 0 I) (.d 1 I)), (.t I), fun a => x_laws_markIntS N a.1 a.2⟩
theorem c_laws_markIntS (N : Nat) : CMok Try.prog (cm_laws_markIntS N) :=
  CM_ok (Γ := []) (Θ := []) (Λ := ([⟨0, 1, (.pr (.o 0 I) (.pr (.d 1 I) (.d 5 I))), (.pr (.o 0 I) (.d 1 I)), fun {Ω} kx kr => iter (B_laws_markIntS_L0 N kx kr) N⟩] : List (LC (DenR (.t I) × DenW (.pr (.o 0 I) (.d 1 I)))))) (by kernel_rfl) mixed trivial (by kernel_rfl)
    ⟨LoopEq.mk N (fun Ω kx kr => B_laws_markIntS_L0 N kx kr) (fun Ω g kx kr s => by kernel_rfl), trivial⟩ (by kernel_rfl) (fun a => by kernel_rfl)

/-- a round -/
def B_laws_markStepS_L0 (N : Nat) {Ω : Type} (kx : DenS (.pr (.o 0 tStep) (.d 1 I)) → Option Ω) (kr : (Int × DenW (.pr (.o 0 tStep) (.d 1 I))) → Option Ω) (rec_ : DenS (.pr (.o 0 tStep) (.pr (.d 1 I) (.d 5 I))) → Option Ω) : DenS (.pr (.o 0 tStep) (.pr (.d 1 I) (.d 5 I))) → Option Ω := fun (s0, s1, s5) =>
  (bif (decide (s5 < (s0.length : Int))) then (bif (decide (0 ≤ s5) && decide (s5 < s0.length)) then (bif (decide (0 ≤ s5) && decide (s5 < (s0.set s5.toNat ((s1, ((s0.getD s5.toNat (dft tStep)).1).2), (s0.getD s5.toNat (dft tStep)).2)).length)) then (let l1 : List (Den tStep) := ((s0.set s5.toNat ((s1, ((s0.getD s5.toNat (dft tStep)).1).2), (s0.getD s5.toNat (dft tStep)).2)).set s5.toNat (((((s0.set s5.toNat ((s1, ((s0.getD s5.toNat (dft tStep)).1).2), (s0.getD s5.toNat (dft tStep)).2)).getD s5.toNat (dft tStep)).1).1, ((wrap64 (s1 + (1 : Int))), (((((s0.set s5.toNat ((s1, ((s0.getD s5.toNat (dft tStep)).1).2), (s0.getD s5.toNat (dft tStep)).2)).getD s5.toNat (dft tStep)).1).2).1).2), ((((s0.set s5.toNat ((s1, ((s0.getD s5.toNat (dft tStep)).1).2), (s0.getD s5.toNat (dft tStep)).2)).getD s5.toNat (dft tStep)).1).2).2), ((s0.set s5.toNat ((s1, ((s0.getD s5.toNat (dft tStep)).1).2), (s0.getD s5.toNat (dft tStep)).2)).getD s5.toNat (dft tStep)).2)); (bif (decide (0 ≤ s5) && decide (s5 < l1.length)) then (let l2 : List (Den tStep) := (l1.set s5.toNat ((((l1.getD s5.toNat (dft tStep)).1).1, (((((l1.getD s5.toNat (dft tStep)).1).2).1).1, (wrap64 ((wrap64 (s1 + (1 : Int))) + (1 : Int)))), (((l1.getD s5.toNat (dft tStep)).1).2).2), (l1.getD s5.toNat (dft tStep)).2)); (bif (decide (0 ≤ s5) && decide (s5 < l2.length)) then (let l3 : List (Den tStep) := (l2.set s5.toNat ((((l2.getD s5.toNat (dft tStep)).1).1, (((l2.getD s5.toNat (dft tStep)).1).2).1, (wrap64 ((wrap64 ((wrap64 (s1 + (1 : Int))) + (1 : Int))) + (1 : Int))), ((((l2.getD s5.toNat (dft tStep)).1).2).2).2), (l2.getD s5.toNat (dft tStep)).2)); (bif (decide (0 ≤ s5) && decide (s5 < l3.length)) then (let l4 : List (Den tStep) := (l3.set s5.toNat ((((l3.getD s5.toNat (dft tStep)).1).1, (((l3.getD s5.toNat (dft tStep)).1).2).1, ((((l3.getD s5.toNat (dft tStep)).1).2).2).1, ((wrap64 ((wrap64 ((wrap64 ((wrap64 (s1 + (1 : Int))) + (1 : Int))) + (1 : Int))) + (1 : Int))), ((((((l3.getD s5.toNat (dft tStep)).1).2).2).2).1).2), (((((l3.getD s5.toNat (dft tStep)).1).2).2).2).2), (l3.getD s5.toNat (dft tStep)).2)); (bif (decide (0 ≤ s5) && decide (s5 < l4.length)) then (let l5 : List (Den tStep) := (l4.set s5.toNat ((((l4.getD s5.toNat (dft tStep)).1).1, (((l4.getD s5.toNat (dft tStep)).1).2).1, ((((l4.getD s5.toNat (dft tStep)).1).2).2).1, (((((((l4.getD s5.toNat (dft tStep)).1).2).2).2).1).1, (wrap64 ((wrap64 ((wrap64 ((wrap64 ((wrap64 (s1 + (1 : Int))) + (1 : Int))) + (1 : Int))) + (1 : Int))) + (1 : Int)))), (((((l4.getD s5.toNat (dft tStep)).1).2).2).2).2), (l4.getD s5.toNat (dft tStep)).2)); (bif (decide (0 ≤ s5) && decide (s5 < l5.length)) then (let l6 : List (Den tStep) := (l5.set s5.toNat ((((l5.getD s5.toNat (dft tStep)).1).1, (((l5.getD s5.toNat (dft tStep)).1).2).1, ((((l5.getD s5.toNat (dft tStep)).1).2).2).1, (((((l5.getD s5.toNat (dft tStep)).1).2).2).2).1, ((wrap64 ((wrap64 ((wrap64 ((wrap64 ((wrap64 ((wrap64 (s1 + (1 : Int))) + (1 : Int))) + (1 : Int))) + (1 : Int))) + (1 : Int))) + (1 : Int))), (((((((l5.getD s5.toNat (dft tStep)).1).2).2).2).2).1).2), ((((((l5.getD s5.toNat (dft tStep)).1).2).2).2).2).2), (l5.getD s5.toNat (dft tStep)).2)); (bif (decide (0 ≤ s5) && decide (s5 < l6.length)) then (let l7 : List (Den tStep) := (l6.set s5.toNat ((((l6.getD s5.toNat (dft tStep)).1).1, (((l6.getD s5.toNat (dft tStep)).1).2).1, ((((l6.getD s5.toNat (dft tStep)).1).2).2).1, (((((l6.getD s5.toNat (dft tStep)).1).2).2).2).1, ((((((((l6.getD s5.toNat (dft tStep)).1).2).2).2).2).1).1, (wrap64 ((wrap64 ((wrap64 ((wrap64 ((wrap64 ((wrap64 ((wrap64 (s1 + (1 : Int))) + (1 : Int))) + (1 : Int))) + (1 : Int))) + (1 : Int))) + (1 : Int))) + (1 : Int)))), ((((((l6.getD s5.toNat (dft tStep)).1).2).2).2).2).2), (l6.getD s5.toNat (dft tStep)).2)); (bif (decide (0 ≤ s5) && decide (s5 < l7.length)) then (let l8 : List (Den tStep) := (l7.set s5.toNat ((((l7.getD s5.toNat (dft tStep)).1).1, (((l7.getD s5.toNat (dft tStep)).1).2).1, ((((l7.getD s5.toNat (dft tStep)).1).2).2).1, (((((l7.getD s5.toNat (dft tStep)).1).2).2).2).1, ((((((l7.getD s5.toNat (dft tStep)).1).2).2).2).2).1, (wrap64 ((wrap64 ((wrap64 ((wrap64 ((wrap64 ((wrap64 ((wrap64 ((wrap64 (s1 + (1 : Int))) + (1 : Int))) + (1 : Int))) + (1 : Int))) + (1 : Int))) + (1 : Int))) + (1 : Int))) + (1 : Int))), (((((((l7.getD s5.toNat (dft tStep)).1).2).2).2).2).2).2), (l7.getD s5.toNat (dft tStep)).2)); (bif (decide (0 ≤ s5) && decide (s5 < l8.length)) then (let l9 : List (Den tStep) := (l8.set s5.toNat ((((l8.getD s5.toNat (dft tStep)).1).1, (((l8.getD s5.toNat (dft tStep)).1).2).1, ((((l8.getD s5.toNat (dft tStep)).1).2).2).1, (((((l8.getD s5.toNat (dft tStep)).1).2).2).2).1, ((((((l8.getD s5.toNat (dft tStep)).1).2).2).2).2).1, (((((((l8.getD s5.toNat (dft tStep)).1).2).2).2).2).2).1, (wrap64 ((wrap64 ((wrap64 ((wrap64 ((wrap64 ((wrap64 ((wrap64 ((wrap64 ((wrap64 (s1 + (1 : Int))) + (1 : Int))) + (1 : Int))) + (1 : Int))) + (1 : Int))) + (1 : Int))) + (1 : Int))) + (1 : Int))) + (1 : Int)))), (l8.getD s5.toNat (dft tStep)).2)); (bif (decide (0 ≤ s5) && decide (s5 < l9.length)) then (let l10 : List (Den tStep) := (l9.set s5.toNat ((l9.getD s5.toNat (dft tStep)).1, (((wrap64 ((wrap64 ((wrap64 ((wrap64 ((wrap64 ((wrap64 ((wrap64 ((wrap64 ((wrap64 ((wrap64 (s1 + (1 : Int))) + (1 : Int))) + (1 : Int))) + (1 : Int))) + (1 : Int))) + (1 : Int))) + (1 : Int))) + (1 : Int))) + (1 : Int))) + (1 : Int))), ((((l9.getD s5.toNat (dft tStep)).2).1).1).2), (((l9.getD s5.toNat (dft tStep)).2).1).2), ((l9.getD s5.toNat (dft tStep)).2).2)); (bif (decide (0 ≤ s5) && decide (s5 < l10.length)) then (let l11 : List (Den tStep) := (l10.set s5.toNat ((l10.getD s5.toNat (dft tStep)).1, ((((((l10.getD s5.toNat (dft tStep)).2).1).1).1, (wrap64 ((wrap64 ((wrap64 ((wrap64 ((wrap64 ((wrap64 ((wrap64 ((wrap64 ((wrap64 ((wrap64 ((wrap64 (s1 + (1 : Int))) + (1 : Int))) + (1 : Int))) + (1 : Int))) + (1 : Int))) + (1 : Int))) + (1 : Int))) + (1 : Int))) + (1 : Int))) + (1 : Int))) + (1 : Int)))), (((l10.getD s5.toNat (dft tStep)).2).1).2), ((l10.getD s5.toNat (dft tStep)).2).2)); (bif (decide (0 ≤ s5) && decide (s5 < l11.length)) then (let l12 : List (Den tStep) := (l11.set s5.toNat ((l11.getD s5.toNat (dft tStep)).1, ((((l11.getD s5.toNat (dft tStep)).2).1).1, (wrap64 ((wrap64 ((wrap64 ((wrap64 ((wrap64 ((wrap64 ((wrap64 ((wrap64 ((wrap64 ((wrap64 ((wrap64 ((wrap64 (s1 + (1 : Int))) + (1 : Int))) + (1 : Int))) + (1 : Int))) + (1 : Int))) + (1 : Int))) + (1 : Int))) + (1 : Int))) + (1 : Int))) + (1 : Int))) + (1 : Int))) + (1 : Int)))), ((l11.getD s5.toNat (dft tStep)).2).2)); (bif (decide (0 ≤ s5) && decide (s5 < l12.length)) then (bif (Nat.beq s5.toNat s5.toNat) then (x_laws_markIntS N (((l12.getD s5.toNat (dft tStep)).2).2) (wrap64 ((wrap64 ((wrap64 ((wrap64 ((wrap64 ((wrap64 ((wrap64 ((wrap64 ((wrap64 ((wrap64 ((wrap64 ((wrap64 ((wrap64 (s1 + (1 : Int))) + (1 : Int))) + (1 : Int))) + (1 : Int))) + (1 : Int))) + (1 : Int))) + (1 : Int))) + (1 : Int))) + (1 : Int))) + (1 : Int))) + (1 : Int))) + (1 : Int))) + (1 : Int)))).bind fun r13 => rec_ ((l12.set s5.toNat ((l12.getD s5.toNat (dft tStep)).1, ((l12.getD s5.toNat (dft tStep)).2).1, r13.2.1)), r13.1, (wrap64 (s5 + (1 : Int)))) else none) else none)) else none)) else none)) else none)) else none)) else none)) else none)) else none)) else none)) else none)) else none)) else none)) else none) else none) else kx (s0, s1))
/-- loop.example/g00474/laws.markStepS -/
def x_laws_markStepS (N : Nat) (a0 : (List (Den tStep))) (a1 : Int) : Option (Int × DenW (.pr (.o 0 tStep) (.d 1 I))) :=
  (iter (B_laws_markStepS_L0 N (fun (x14, x15) => some (x15, x14, ())) (fun ρ16 => some (ρ16))) N (a0, a1, (0 : Int))).bind fun r => bif (Nat.beq a0.length r.2.1.length && true) then some r else none
abbrev cm_laws_markStepS (N : Nat) : CM := ⟨19, (.pr (.o 0 tStep) (.d 1 I)), (.t I), fun a => x_laws_markStepS N a.1 a.2⟩
theorem c_laws_markStepS (N : Nat) : CMok Try.prog (cm_laws_markStepS N) :=
  CM_ok (Γ := [.m (cm_laws_markIntS N)]) (Θ := []) (Λ := ([⟨0, 1, (.pr (.o 0 tStep) (.pr (.d 1 I) (.d 5 I))), (.pr (.o 0 tStep) (.d 1 I)), fun {Ω} kx kr => iter (B_laws_markStepS_L0 N kx kr) N⟩] : List (LC (DenR (.t I) × DenW (.pr (.o 0 tStep) (.d 1 I)))))) (by kernel_rfl) mixed ⟨c_laws_markIntS N, trivial⟩ (by kernel_rfl)
    ⟨LoopEq.mk N (fun Ω kx kr => B_laws_markStepS_L0 N kx kr) (fun Ω g kx kr s => by kernel_rfl), trivial⟩ (by kernel_rfl) (fun a => by kernel_rfl)

/-- a round -/
def B_laws_markCredS_L0 (N : Nat) {Ω : Type} (kx : DenS (.pr (.o 0 tCred) (.d 1 I)) → Option Ω) (kr : (Int × DenW (.pr (.o 0 tCred) (.d 1 I))) → Option Ω) (rec_ : DenS (.pr (.o 0 tCred) (.pr (.d 1 I) (.d 5 I))) → Option Ω) : DenS (.pr (.o 0 tCred) (.pr (.d 1 I) (.d 5 I))) → Option Ω := fun (s0, s1, s5) =>
  (bif (decide (s5 < (s0.length : Int))) then (bif (decide (0 ≤ s5) && decide (s5 < s0.length)) then (bif (decide (0 ≤ s5) && decide (s5 < (s0.set s5.toNat (s1, (s0.getD s5.toNat (dft tCred)).2)).length)) then (let l1 : List (Den tCred) := ((s0.set s5.toNat (s1, (s0.getD s5.toNat (dft tCred)).2)).set s5.toNat (((s0.set s5.toNat (s1, (s0.getD s5.toNat (dft tCred)).2)).getD s5.toNat (dft tCred)).1, ((wrap64 (s1 + (1 : Int))), ((((s0.set s5.toNat (s1, (s0.getD s5.toNat (dft tCred)).2)).getD s5.toNat (dft tCred)).2).1).2), (((s0.set s5.toNat (s1, (s0.getD s5.toNat (dft tCred)).2)).getD s5.toNat (dft tCred)).2).2)); (bif (decide (0 ≤ s5) && decide (s5 < l1.length)) then (let l2 : List (Den tCred) := (l1.set s5.toNat ((l1.getD s5.toNat (dft tCred)).1, ((((l1.getD s5.toNat (dft tCred)).2).1).1, (wrap64 ((wrap64 (s1 + (1 : Int))) + (1 : Int)))), ((l1.getD s5.toNat (dft tCred)).2).2)); (bif (decide (0 ≤ s5) && decide (s5 < l2.length)) then (let l3 : List (Den tCred) := (l2.set s5.toNat ((l2.getD s5.toNat (dft tCred)).1, ((l2.getD s5.toNat (dft tCred)).2).1, (wrap64 ((wrap64 ((wrap64 (s1 + (1 : Int))) + (1 : Int))) + (1 : Int))), (((l2.getD s5.toNat (dft tCred)).2).2).2)); (bif (decide (0 ≤ s5) && decide (s5 < l3.length)) then (let l4 : List (Den tCred) := (l3.set s5.toNat ((l3.getD s5.toNat (dft tCred)).1, ((l3.getD s5.toNat (dft tCred)).2).1, (((l3.getD s5.toNat (dft tCred)).2).2).1, ((wrap64 ((wrap64 ((wrap64 ((wrap64 (s1 + (1 : Int))) + (1 : Int))) + (1 : Int))) + (1 : Int))), (((((l3.getD s5.toNat (dft tCred)).2).2).2).1).2), ((((l3.getD s5.toNat (dft tCred)).2).2).2).2)); (bif (decide (0 ≤ s5) && decide (s5 < l4.length)) then (let l5 : List (Den tCred) := (l4.set s5.toNat ((l4.getD s5.toNat (dft tCred)).1, ((l4.getD s5.toNat (dft tCred)).2).1, (((l4.getD s5.toNat (dft tCred)).2).2).1, ((((((l4.getD s5.toNat (dft tCred)).2).2).2).1).1, (wrap64 ((wrap64 ((wrap64 ((wrap64 ((wrap64 (s1 + (1 : Int))) + (1 : Int))) + (1 : Int))) + (1 : Int))) + (1 : Int)))), ((((l4.getD s5.toNat (dft tCred)).2).2).2).2)); (bif (decide (0 ≤ s5) && decide (s5 < l5.length)) then (let l6 : List (Den tCred) := (l5.set s5.toNat ((l5.getD s5.toNat (dft tCred)).1, ((l5.getD s5.toNat (dft tCred)).2).1, (((l5.getD s5.toNat (dft tCred)).2).2).1, ((((l5.getD s5.toNat (dft tCred)).2).2).2).1, ((wrap64 ((wrap64 ((wrap64 ((wrap64 ((wrap64 ((wrap64 (s1 + (1 : Int))) + (1 : Int))) + (1 : Int))) + (1 : Int))) + (1 : Int))) + (1 : Int))), ((((((l5.getD s5.toNat (dft tCred)).2).2).2).2).1).2), (((((l5.getD s5.toNat (dft tCred)).2).2).2).2).2)); (bif (decide (0 ≤ s5) && decide (s5 < l6.length)) then (let l7 : List (Den tCred) := (l6.set s5.toNat ((l6.getD s5.toNat (dft tCred)).1, ((l6.getD s5.toNat (dft tCred)).2).1, (((l6.getD s5.toNat (dft tCred)).2).2).1, ((((l6.getD s5.toNat (dft tCred)).2).2).2).1, (((((((l6.getD s5.toNat (dft tCred)).2).2).2).2).1).1, (wrap64 ((wrap64 ((wrap64 ((wrap64 ((wrap64 ((wrap64 ((wrap64 (s1 + (1 : Int))) + (1 : Int))) + (1 : Int))) + (1 : Int))) + (1 : Int))) + (1 : Int))) + (1 : Int)))), (((((l6.getD s5.toNat (dft tCred)).2).2).2).2).2)); (bif (decide (0 ≤ s5) && decide (s5 < l7.length)) then (let l8 : List (Den tCred) := (l7.set s5.toNat ((l7.getD s5.toNat (dft tCred)).1, ((l7.getD s5.toNat (dft tCred)).2).1, (((l7.getD s5.toNat (dft tCred)).2).2).1, ((((l7.getD s5.toNat (dft tCred)).2).2).2).1, (((((l7.getD s5.toNat (dft tCred)).2).2).2).2).1, (wrap64 ((wrap64 ((wrap64 ((wrap64 ((wrap64 ((wrap64 ((wrap64 ((wrap64 (s1 + (1 : Int))) + (1 : Int))) + (1 : Int))) + (1 : Int))) + (1 : Int))) + (1 : Int))) + (1 : Int))) + (1 : Int))), ((((((l7.getD s5.toNat (dft tCred)).2).2).2).2).2).2)); (bif (decide (0 ≤ s5) && decide (s5 < l8.length)) then (let l9 : List (Den tCred) := (l8.set s5.toNat ((l8.getD s5.toNat (dft tCred)).1, ((l8.getD s5.toNat (dft tCred)).2).1, (((l8.getD s5.toNat (dft tCred)).2).2).1, ((((l8.getD s5.toNat (dft tCred)).2).2).2).1, (((((l8.getD s5.toNat (dft tCred)).2).2).2).2).1, ((((((l8.getD s5.toNat (dft tCred)).2).2).2).2).2).1, (wrap64 ((wrap64 ((wrap64 ((wrap64 ((wrap64 ((wrap64 ((wrap64 ((wrap64 ((wrap64 (s1 + (1 : Int))) + (1 : Int))) + (1 : Int))) + (1 : Int))) + (1 : Int))) + (1 : Int))) + (1 : Int))) + (1 : Int))) + (1 : Int))))); rec_ (l9, (wrap64 ((wrap64 ((wrap64 ((wrap64 ((wrap64 ((wrap64 ((wrap64 ((wrap64 ((wrap64 ((wrap64 (s1 + (1 : Int))) + (1 : Int))) + (1 : Int))) + (1 : Int))) + (1 : Int))) + (1 : Int))) + (1 : Int))) + (1 : Int))) + (1 : Int))) + (1 : Int))), (wrap64 (s5 + (1 : Int))))) else none)) else none)) else none)) else none)) else none)) else none)) else none)) else none)) else none) else none) else kx (s0, s1))
/-- loop.example/g00474/laws.markCredS -/
def x_laws_markCredS (N : Nat) (a0 : (List (Den tCred))) (a1 : Int) : Option (Int × DenW (.pr (.o 0 tCred) (.d 1 I))) :=
  (iter (B_laws_markCredS_L0 N (fun (x10, x11) => some (x11, x10, ())) (fun ρ12 => some (ρ12))) N (a0, a1, (0 : Int))).bind fun r => bif (Nat.beq a0.length r.2.1.length && true) then some r else none
abbrev cm_laws_markCredS (N : Nat) : CM := ⟨20, (.pr (.o 0 tCred) (.d 1 I)), (.t I), fun a => x_laws_markCredS N a.1 a.2⟩
theorem c_laws_markCredS (N : Nat) : CMok Try.prog (cm_laws_markCredS N) :=
  CM_ok (Γ := []) (Θ := []) (Λ := ([⟨0, 1, (.pr (.o 0 tCred) (.pr (.d 1 I) (.d 5 I))), (.pr (.o 0 tCred) (.d 1 I)), fun {Ω} kx kr => iter (B_laws_markCredS_L0 N kx kr) N⟩] : List (LC (DenR (.t I) × DenW (.pr (.o 0 tCred) (.d 1 I)))))) (by kernel_rfl) mixed trivial (by kernel_rfl)
    ⟨LoopEq.mk N (fun Ω kx kr => B_laws_markCredS_L0 N kx kr) (fun Ω g kx kr s => by kernel_rfl), trivial⟩ (by kernel_rfl) (fun a => by kernel_rfl)

/-- a round -/
def B_laws_heldCredS_L0 (N : Nat) {Ω : Type} (kx : DenS (.d 1 I) → Option Ω) (kr : Int → Option Ω) (rec_ : DenS (.pr (.d 0 (.sl tCred)) (.pr (.d 1 I) (.d 5 I))) → Option Ω) : DenS (.pr (.d 0 (.sl tCred)) (.pr (.d 1 I) (.d 5 I))) → Option Ω := fun (s0, s1, s5) =>
  (bif (decide (s5 < (s0.length : Int))) then (bif (decide (0 ≤ s5) && decide (s5 < s0.length)) then (bif (!decide (((s0.getD s5.toNat (dft tCred)).1) = s1)) then kr (-1 : Int) else (bif (decide (0 ≤ s5) && decide (s5 < s0.length)) then (bif (!decide (((((s0.getD s5.toNat (dft tCred)).2).1).1) = (wrap64 (s1 + (1 : Int))))) then kr (-1 : Int) else (bif (decide (0 ≤ s5) && decide (s5 < s0.length)) then (bif (!decide (((((s0.getD s5.toNat (dft tCred)).2).1).2) = (wrap64 ((wrap64 (s1 + (1 : Int))) + (1 : Int))))) then kr (-1 : Int) else (bif (decide (0 ≤ s5) && decide (s5 < s0.length)) then (bif (!decide (((((s0.getD s5.toNat (dft tCred)).2).2).1) = (wrap64 ((wrap64 ((wrap64 (s1 + (1 : Int))) + (1 : Int))) + (1 : Int))))) then kr (-1 : Int) else (bif (decide (0 ≤ s5) && decide (s5 < s0.length)) then (bif (!decide (((((((s0.getD s5.toNat (dft tCred)).2).2).2).1).1) = (wrap64 ((wrap64 ((wrap64 ((wrap64 (s1 + (1 : Int))) + (1 : Int))) + (1 : Int))) + (1 : Int))))) then kr (-1 : Int) else (bif (decide (0 ≤ s5) && decide (s5 < s0.length)) then (bif (!decide (((((((s0.getD s5.toNat (dft tCred)).2).2).2).1).2) = (wrap64 ((wrap64 ((wrap64 ((wrap64 ((wrap64 (s1 + (1 : Int))) + (1 : Int))) + (1 : Int))) + (1 : Int))) + (1 : Int))))) then kr (-1 : Int) else (bif (decide (0 ≤ s5) && decide (s5 < s0.length)) then (bif (!decide ((((((((s0.getD s5.toNat (dft tCred)).2).2).2).2).1).1) = (wrap64 ((wrap64 ((wrap64 ((wrap64 ((wrap64 ((wrap64 (s1 + (1 : Int))) + (1 : Int))) + (1 : Int))) + (1 : Int))) + (1 : Int))) + (1 : Int))))) then kr (-1 : Int) else (bif (decide (0 ≤ s5) && decide (s5 < s0.length)) then (bif (!decide ((((((((s0.getD s5.toNat (dft tCred)).2).2).2).2).1).2) = (wrap64 ((wrap64 ((wrap64 ((wrap64 ((wrap64 ((wrap64 ((wrap64 (s1 + (1 : Int))) + (1 : Int))) + (1 : Int))) + (1 : Int))) + (1 : Int))) + (1 : Int))) + (1 : Int))))) then kr (-1 : Int) else (bif (decide (0 ≤ s5) && decide (s5 < s0.length)) then (bif (!decide ((((((((s0.getD s5.toNat (dft tCred)).2).2).2).2).2).1) = (wrap64 ((wrap64 ((wrap64 ((wrap64 ((wrap64 ((wrap64 ((wrap64 ((wrap64 (s1 + (1 : Int))) + (1 : Int))) + (1 : Int))) + (1 : Int))) + (1 : Int))) + (1 : Int))) + (1 : Int))) + (1 : Int))))) then kr (-1 : Int) else (bif (decide (0 ≤ s5) && decide (s5 < s0.length)) then (bif (!decide ((((((((s0.getD s5.toNat (dft tCred)).2).2).2).2).2).2) = (wrap64 ((wrap64 ((wrap64 ((wrap64 ((wrap64 ((wrap64 ((wrap64 ((wrap64 ((wrap64 (s1 + (1 : Int))) + (1 : Int))) + (1 : Int))) + (1 : Int))) + (1 : Int))) + (1 : Int))) + (1 : Int))) + (1 : Int))) + (1 : Int))))) then kr (-1 : Int) else rec_ (s0, (wrap64 ((wrap64 ((wrap64 ((wrap64 ((wrap64 ((wrap64 ((wrap64 ((wrap64 ((wrap64 ((wrap64 (s1 + (1 : Int))) + (1 : Int))) + (1 : Int))) + (1 : Int))) + (1 : Int))) + (1 : Int))) + (1 : Int))) + (1 : Int))) + (1 : Int))) + (1 : Int))), (wrap64 (s5 + (1 : Int))))) else none)) else none)) else none)) else none)) else none)) else none)) else none)) else none)) else none)) else none) else kx s1)
/-- loop.example/g00474/laws.heldCredS -/
def x_laws_heldCredS (N : Nat) (a0 : (List (Den tCred))) (a1 : Int) : Option Int :=
  iter (B_laws_heldCredS_L0 N (fun x1 => some x1) (fun ρ2 => some (ρ2))) N (a0, a1, (0 : Int))
abbrev ct_laws_heldCredS (N : Nat) : CT := ⟨21, (.pr (.d (.sl tCred)) (.d I)), (.t I), fun a => x_laws_heldCredS N a.1 a.2⟩
theorem c_laws_heldCredS (N : Nat) : CTok Try.prog (ct_laws_heldCredS N) :=
  CT_ok (Γ := []) (Θ := []) (Λ := ([⟨0, 0, (.pr (.d 0 (.sl tCred)) (.pr (.d 1 I) (.d 5 I))), (.d 1 I), fun {Ω} kx kr => iter (B_laws_heldCredS_L0 N kx kr) N⟩] : List (LC (DenR (.t I))))) (by kernel_rfl) mixed trivial (by kernel_rfl)
    ⟨LoopEq.mk N (fun Ω kx kr => B_laws_heldCredS_L0 N kx kr) (fun Ω g kx kr s => by kernel_rfl), trivial⟩ (by kernel_rfl) (fun a => by kernel_rfl)

/-- loop.example/g00474/laws.FnExactCredsIn -/
def x_laws_FnExactCredsIn (N : Nat) (a0 : (List (Den tStep))) : Option Bool :=
  (x_laws_szStepS N a0 (1048576 : Int)).bind fun r1 => (bif (decide (r1 < (0 : Int))) then some true else (x_laws_toStepS N a0).bind fun r2 => (x_spec_CredsIn N r2).bind fun r3 => (x_laws_toStepS N a0).bind fun r4 => (x_impl_CredsIn N r4).bind fun r5 => (x_laws_eqCredS N r5 r3).bind fun r6 => (bif (!r6) then some false else (x_laws_toStepS N a0).bind fun r7 => (x_laws_eqStepS N r4 r7).bind fun r8 => (bif (!r8) then some false else (x_laws_markStepS N r4 (1 : Int)).bind fun r9 => (bif (decide (r9.1 < (0 : Int))) then some false else (x_laws_eqCredS N r5 r3).bind fun r10 => (bif (!r10) then some false else (x_laws_markCredS N r5 (1 : Int)).bind fun r11 => (x_laws_heldCredS N r11.2.1 (1 : Int)).bind fun r12 => (bif (decide (r12 < (0 : Int))) then some false else (bif (!decide (r12 = r11.1)) then some false else (x_laws_toStepS N a0).bind fun r13 => (x_impl_CredsIn N r13).bind fun r14 => (x_laws_eqCredS N r14 r3).bind fun r15 => (bif (!r15) then some false else (x_laws_heldCredS N r11.2.1 (1 : Int)).bind fun r16 => (bif (decide (r16 < (0 : Int))) then some false else (bif (!decide (r16 = r11.1)) then some false else some true))))))))))
abbrev ct_laws_FnExactCredsIn (N : Nat) : CT := ⟨3, (.d (.sl tStep)), (.t .bl), fun a => x_laws_FnExactCredsIn N a⟩
theorem c_laws_FnExactCredsIn (N : Nat) : CTok Try.prog (ct_laws_FnExactCredsIn N) :=
  CT_ok (Γ := [.c (ct_laws_szStepS N), .c (ct_laws_toStepS N), .c (ct_spec_CredsIn N), .c (ct_impl_CredsIn N), .c (ct_laws_eqCredS N), .c (ct_laws_eqStepS N), .m (cm_laws_markStepS N), .m (cm_laws_markCredS N), .c (ct_laws_heldCredS N)]) (Θ := []) (Λ := ([] : List (LC (DenR (.t .bl))))) (by kernel_rfl) mixed ⟨c_laws_szStepS N, ⟨c_laws_toStepS N, ⟨c_spec_CredsIn N, ⟨c_impl_CredsIn N, ⟨c_laws_eqCredS N, ⟨c_laws_eqStepS N, ⟨c_laws_markStepS N, ⟨c_laws_markCredS N, ⟨c_laws_heldCredS N, trivial⟩⟩⟩⟩⟩⟩⟩⟩⟩ (by kernel_rfl)
    trivial (by kernel_rfl) (fun a => by kernel_rfl)

end Go.Proofs.Ytcmlapepofgkpaa.C
