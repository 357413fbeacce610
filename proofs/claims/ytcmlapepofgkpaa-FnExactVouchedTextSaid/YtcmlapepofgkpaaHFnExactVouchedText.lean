/- Each function of the program that is reached computes the datum printed here: no condition beyond the arguments that its contract names. -/
import Derived.Test.YtcmlapepofgkpaaNxq
import Derived.Test.YtcmlapepofgkpaaChecked
import Derived.KernelRfl
namespace Go.Proofs.Ytcmlapepofgkpaa.C
open Go Go.Proofs.Ytcmlapepofgkpaa.Nx Go.RowKit
set_option maxRecDepth 100000
set_option linter.unusedVariables false
noncomputable section
abbrev I : Ty := .i .i64
abbrev tRole : Ty := (.st (.pr I I))
abbrev tCred : Ty := (.st (.pr I (.pr tRole (.pr I (.pr tRole (.pr tRole (.pr I I)))))))
abbrev tSignature : Ty := (.st (.pr I (.pr (.sl .tx) (.sl .tx))))
abbrev tVouched : Ty := (.st (.pr tCred tSignature))
theorem mixed : Try.prog.follows .mixedOrders = true := by kernel_rfl

/-- a round -/
def B_laws_szStringS_L0 (N : Nat) {Ω : Type} (kx : DenS (.d 1 I) → Option Ω) (kr : Int → Option Ω) (rec_ : DenS (.pr (.d 0 (.sl .tx)) (.pr (.d 1 I) (.d 5 I))) → Option Ω) : DenS (.pr (.d 0 (.sl .tx)) (.pr (.d 1 I) (.d 5 I))) → Option Ω := fun (s0, s1, s5) =>
  (bif (decide (s5 < (s0.length : Int))) then (bif (decide (0 ≤ s5) && decide (s5 < s0.length)) then (bif (decide ((wrap64 (s1 - ((s0.getD s5.toNat ByteArray.empty).size : Int))) < (0 : Int))) then kr (-1 : Int) else rec_ (s0, (wrap64 (s1 - ((s0.getD s5.toNat ByteArray.empty).size : Int))), (wrap64 (s5 + (1 : Int))))) else none) else kx s1)
/-- loop.example/g00474/laws.szStringS -/
def x_laws_szStringS (N : Nat) (a0 : (List ByteArray)) (a1 : Int) : Option Int :=
  (bif (decide ((wrap64 (a1 - (a0.length : Int))) < (0 : Int))) then some (-1 : Int) else iter (B_laws_szStringS_L0 N (fun x1 => some x1) (fun ρ2 => some (ρ2))) N (a0, (wrap64 (a1 - (a0.length : Int))), (0 : Int)))
abbrev ct_laws_szStringS (N : Nat) : CT := ⟨156, (.pr (.d (.sl .tx)) (.d I)), (.t I), fun a => x_laws_szStringS N a.1 a.2⟩
theorem c_laws_szStringS (N : Nat) : CTok Try.prog (ct_laws_szStringS N) :=
  CT_ok (Γ := []) (Θ := []) (Λ := ([⟨0, 0, (.pr (.d 0 (.sl .tx)) (.pr (.d 1 I) (.d 5 I))), (.d 1 I), fun {Ω} kx kr => iter (B_laws_szStringS_L0 N kx kr) N⟩] : List (LC (DenR (.t I))))) (by kernel_rfl) mixed trivial (by kernel_rfl)
    ⟨LoopEq.mk N (fun Ω kx kr => B_laws_szStringS_L0 N kx kr) (fun Ω g kx kr s => by kernel_rfl), trivial⟩ (by kernel_rfl) (fun a => by kernel_rfl)

/-- loop.example/g00474/laws.szSignature -/
def x_laws_szSignature (N : Nat) (a0 : (Den tSignature)) (a1 : Int) : Option Int :=
  (x_laws_szStringS N a0.2.1 a1).bind fun r1 => (bif (decide (r1 < (0 : Int))) then some (-1 : Int) else (x_laws_szStringS N a0.2.2 r1).bind fun r2 => (bif (decide (r2 < (0 : Int))) then some (-1 : Int) else some r2))
abbrev ct_laws_szSignature (N : Nat) : CT := ⟨83, (.pr (.d tSignature) (.d I)), (.t I), fun a => x_laws_szSignature N a.1 a.2⟩
theorem c_laws_szSignature (N : Nat) : CTok Try.prog (ct_laws_szSignature N) :=
  CT_ok (Γ := [.c (ct_laws_szStringS N)]) (Θ := []) (Λ := ([] : List (LC (DenR (.t I))))) (by kernel_rfl) mixed ⟨c_laws_szStringS N, trivial⟩ (by kernel_rfl)
    trivial (by kernel_rfl) (fun a => by kernel_rfl)

/-- loop.example/g00474/laws.szVouched -/
def x_laws_szVouched (N : Nat) (a0 : (Den tVouched)) (a1 : Int) : Option Int :=
  (x_laws_szSignature N a0.2 a1).bind fun r1 => (bif (decide (r1 < (0 : Int))) then some (-1 : Int) else some r1)
abbrev ct_laws_szVouched (N : Nat) : CT := ⟨31, (.pr (.d tVouched) (.d I)), (.t I), fun a => x_laws_szVouched N a.1 a.2⟩
theorem c_laws_szVouched (N : Nat) : CTok Try.prog (ct_laws_szVouched N) :=
  CT_ok (Γ := [.c (ct_laws_szSignature N)]) (Θ := []) (Λ := ([] : List (LC (DenR (.t I))))) (by kernel_rfl) mixed ⟨c_laws_szSignature N, trivial⟩ (by kernel_rfl)
    trivial (by kernel_rfl) (fun a => by kernel_rfl)

/-- loop.example/g00474/laws.toRole -/
def x_laws_toRole (N : Nat) (a0 : (Den tRole)) : Option (Den tRole) :=
  some a0
abbrev ct_laws_toRole (N : Nat) : CT := ⟨43, (.d tRole), (.t tRole), fun a => x_laws_toRole N a⟩
theorem c_laws_toRole (N : Nat) : CTok Try.prog (ct_laws_toRole N) :=
  CT_ok (Γ := []) (Θ := []) (Λ := ([] : List (LC (DenR (.t tRole))))) (by kernel_rfl) mixed trivial (by kernel_rfl)
    trivial (by kernel_rfl) (fun a => by kernel_rfl)

/-- loop.example/g00474/laws.toCred -/
def x_laws_toCred (N : Nat) (a0 : (Den tCred)) : Option (Den tCred) :=
  (x_laws_toRole N a0.2.1).bind fun r1 => (x_laws_toRole N a0.2.2.2.1).bind fun r2 => (x_laws_toRole N a0.2.2.2.2.1).bind fun r3 => some (a0.1, r1, a0.2.2.1, r2, r3, a0.2.2.2.2.2)
abbrev ct_laws_toCred (N : Nat) : CT := ⟨87, (.d tCred), (.t tCred), fun a => x_laws_toCred N a⟩
theorem c_laws_toCred (N : Nat) : CTok Try.prog (ct_laws_toCred N) :=
  CT_ok (Γ := [.c (ct_laws_toRole N)]) (Θ := []) (Λ := ([] : List (LC (DenR (.t tCred))))) (by kernel_rfl) mixed ⟨c_laws_toRole N, trivial⟩ (by kernel_rfl)
    trivial (by kernel_rfl) (fun a => by kernel_rfl)

/-- a round -/
def B_laws_toStringS_L0 (N : Nat) {Ω : Type} (kx : DenS (.o 3 .tx) → Option Ω) (kr : (List ByteArray) → Option Ω) (rec_ : DenS (.pr (.d 0 (.sl .tx)) (.pr (.o 3 .tx) (.d 4 I))) → Option Ω) : DenS (.pr (.d 0 (.sl .tx)) (.pr (.o 3 .tx) (.d 4 I))) → Option Ω := fun (s0, s3, s4) =>
  (bif (decide (s4 < (s0.length : Int))) then (bif (decide (0 ≤ s4) && decide (s4 < s0.length)) then (bif (decide (0 ≤ s4) && decide (s4 < s3.length)) then rec_ (s0, (s3.set s4.toNat (s0.getD s4.toNat ByteArray.empty)), (wrap64 (s4 + (1 : Int)))) else none) else none) else kx s3)
/-- loop.example/g00474/laws.toStringS -/
def x_laws_toStringS (N : Nat) (a0 : (List ByteArray)) : Option (List ByteArray) :=
  (bif (decide ((a0.length : Int) = (a0.length : Int)) && (decide (0 ≤ (a0.length : Int)) && (decide ((a0.length : Int) * (16 : Nat) ≤ 140737488355328) && decide ((a0.length : Int) ≤ 9223372036854775807)))) then iter (B_laws_toStringS_L0 N (fun x1 => some x1) (fun ρ2 => some (ρ2))) N (a0, (List.replicate (a0.length : Int).toNat ByteArray.empty), (0 : Int)) else none)
abbrev ct_laws_toStringS (N : Nat) : CT := ⟨158, (.d (.sl .tx)), (.t (.sl .tx)), fun a => x_laws_toStringS N a⟩
theorem c_laws_toStringS (N : Nat) : CTok Try.prog (ct_laws_toStringS N) :=
  CT_ok (Γ := []) (Θ := [(7, .tx)]) (Λ := ([⟨0, 0, (.pr (.d 0 (.sl .tx)) (.pr (.o 3 .tx) (.d 4 I))), (.o 3 .tx), fun {Ω} kx kr => iter (B_laws_toStringS_L0 N kx kr) N⟩] : List (LC (DenR (.t (.sl .tx)))))) (by kernel_rfl) mixed trivial (by kernel_rfl)
    ⟨LoopEq.mk N (fun Ω kx kr => B_laws_toStringS_L0 N kx kr) (fun Ω g kx kr s => by kernel_rfl), trivial⟩ (by kernel_rfl) (fun a => by kernel_rfl)

/-- loop.example/g00474/laws.toSignature -/
def x_laws_toSignature (N : Nat) (a0 : (Den tSignature)) : Option (Den tSignature) :=
  (x_laws_toStringS N a0.2.1).bind fun r1 => (x_laws_toStringS N a0.2.2).bind fun r2 => some (a0.1, r1, r2)
abbrev ct_laws_toSignature (N : Nat) : CT := ⟨88, (.d tSignature), (.t tSignature), fun a => x_laws_toSignature N a⟩
theorem c_laws_toSignature (N : Nat) : CTok Try.prog (ct_laws_toSignature N) :=
  CT_ok (Γ := [.c (ct_laws_toStringS N)]) (Θ := []) (Λ := ([] : List (LC (DenR (.t tSignature))))) (by kernel_rfl) mixed ⟨c_laws_toStringS N, trivial⟩ (by kernel_rfl)
    trivial (by kernel_rfl) (fun a => by kernel_rfl)

/-- loop.example/g00474/laws.toVouched -/
def x_laws_toVouched (N : Nat) (a0 : (Den tVouched)) : Option (Den tVouched) :=
  (x_laws_toCred N a0.1).bind fun r1 => (x_laws_toSignature N a0.2).bind fun r2 => some (r1, r2)
abbrev ct_laws_toVouched (N : Nat) : CT := ⟨33, (.d tVouched), (.t tVouched), fun a => x_laws_toVouched N a⟩
theorem c_laws_toVouched (N : Nat) : CTok Try.prog (ct_laws_toVouched N) :=
  CT_ok (Γ := [.c (ct_laws_toCred N), .c (ct_laws_toSignature N)]) (Θ := []) (Λ := ([] : List (LC (DenR (.t tVouched))))) (by kernel_rfl) mixed ⟨c_laws_toCred N, ⟨c_laws_toSignature N, trivial⟩⟩ (by kernel_rfl)
    trivial (by kernel_rfl) (fun a => by kernel_rfl)

/-- loop.example/g00474/spec.l01In -/
def x_spec_l01In (N : Nat) (a0 : Int) (a1 : Int) (a2 : Int) : Option Bool :=
  (bif (decide (a1 ≤ a0)) then some (decide (a0 ≤ a2)) else some false)
abbrev ct_spec_l01In (N : Nat) : CT := ⟨117, (.pr (.d I) (.pr (.d I) (.d I))), (.t .bl), fun a => x_spec_l01In N a.1 a.2.1 a.2.2⟩
theorem c_spec_l01In (N : Nat) : CTok Try.prog (ct_spec_l01In N) :=
  CT_ok (Γ := []) (Θ := []) (Λ := ([] : List (LC (DenR (.t .bl))))) (by kernel_rfl) mixed trivial (by kernel_rfl)
    trivial (by kernel_rfl) (fun a => by kernel_rfl)

/-- loop.example/g00474/spec.RoleOk -/
def x_spec_RoleOk (N : Nat) (a0 : (Den tRole)) : Option Bool :=
  (x_spec_l01In N a0.1 (0 : Int) (5 : Int)).bind fun r1 => (bif r1 then (x_spec_l01In N a0.2 (0 : Int) (3 : Int)).bind fun r2 => some r2 else some false)
abbrev ct_spec_RoleOk (N : Nat) : CT := ⟨201, (.d tRole), (.t .bl), fun a => x_spec_RoleOk N a⟩
theorem c_spec_RoleOk (N : Nat) : CTok Try.prog (ct_spec_RoleOk N) :=
  CT_ok (Γ := [.c (ct_spec_l01In N)]) (Θ := []) (Λ := ([] : List (LC (DenR (.t .bl))))) (by kernel_rfl) mixed ⟨c_spec_l01In N, trivial⟩ (by kernel_rfl)
    trivial (by kernel_rfl) (fun a => by kernel_rfl)

/-- loop.example/g00474/spec.CredOk -/
def x_spec_CredOk (N : Nat) (a0 : (Den tCred)) : Option Bool :=
  (x_spec_RoleOk N a0.2.1).bind fun r1 => (bif (!r1) then some false else (x_spec_l01In N a0.2.2.2.2.2.1 (1 : Int) (9999 : Int)).bind fun r2 => (bif (!r2) then some false else (x_spec_l01In N a0.2.2.2.2.2.2 (0 : Int) (99 : Int)).bind fun r3 => (bif (!r3) then some false else (bif (decide (a0.1 = (1 : Int))) then (x_spec_l01In N a0.2.2.1 (0 : Int) (5 : Int)).bind fun r4 => (bif r4 then (bif (decide (a0.2.2.2.1.1 = (0 : Int)) && decide (a0.2.2.2.1.2 = (0 : Int))) then some (decide (a0.2.2.2.2.1.1 = (0 : Int)) && decide (a0.2.2.2.2.1.2 = (0 : Int))) else some false) else some false) else (bif (decide (a0.1 = (2 : Int))) then (bif (decide (a0.2.2.1 = (0 : Int))) then (x_spec_RoleOk N a0.2.2.2.1).bind fun r5 => (bif r5 then some (decide (a0.2.2.2.2.1.1 = (0 : Int)) && decide (a0.2.2.2.2.1.2 = (0 : Int))) else some false) else some false) else (bif (decide (a0.1 = (3 : Int))) then (bif (decide (a0.2.2.1 = (0 : Int))) then (x_spec_RoleOk N a0.2.2.2.1).bind fun r6 => (bif r6 then (x_spec_RoleOk N a0.2.2.2.2.1).bind fun r7 => (bif r7 then some (decide (a0.2.2.2.2.1.1 = (0 : Int))) else some false) else some false) else some false) else (bif (decide (a0.1 = (4 : Int))) then (bif (decide (a0.2.2.1 = (0 : Int))) then (x_spec_RoleOk N a0.2.2.2.1).bind fun r8 => (bif r8 then (x_spec_RoleOk N a0.2.2.2.2.1).bind fun r9 => some r9 else some false) else some false) else some false)))))))
abbrev ct_spec_CredOk (N : Nat) : CT := ⟨144, (.d tCred), (.t .bl), fun a => x_spec_CredOk N a⟩
theorem c_spec_CredOk (N : Nat) : CTok Try.prog (ct_spec_CredOk N) :=
  CT_ok (Γ := [.c (ct_spec_RoleOk N), .c (ct_spec_l01In N)]) (Θ := []) (Λ := ([] : List (LC (DenR (.t .bl))))) (by kernel_rfl) mixed ⟨c_spec_RoleOk N, ⟨c_spec_l01In N, trivial⟩⟩ (by kernel_rfl)
    trivial (by kernel_rfl) (fun a => by kernel_rfl)

/-- a round -/
def B_spec_l01Var_L0 (N : Nat) {Ω : Type} (kx : DenS (.pr (.d 0 I) (.o 3 (.i .u8))) → Option Ω) (kr : ByteArray → Option Ω) (rec_ : DenS (.pr (.d 0 I) (.o 3 (.i .u8))) → Option Ω) : DenS (.pr (.d 0 I) (.o 3 (.i .u8))) → Option Ω := fun (s0, s3) =>
  (bif (decide ((127 : Int) < s0)) then (bif (decide ((s3.length + [((wrap64 ((s0.tmod (128 : Int)) + (128 : Int))) % 256)].length) * 1 ≤ 140737488355328)) then rec_ ((wrap64 (s0.tdiv (128 : Int))), (s3 ++ [((wrap64 ((s0.tmod (128 : Int)) + (128 : Int))) % 256)])) else none) else kx (s0, s3))
/-- loop.example/g00474/spec.l01Var -/
def x_spec_l01Var (N : Nat) (a0 : Int) : Option ByteArray :=
  iter (B_spec_l01Var_L0 N (fun (x1, x2) => (bif (decide ((x2.length + [(x1 % 256)].length) * 1 ≤ 140737488355328)) then some (txt (x2 ++ [(x1 % 256)])) else none)) (fun ρ3 => some (ρ3))) N (a0, [])
abbrev ct_spec_l01Var (N : Nat) : CT := ⟨86, (.d I), (.t .tx), fun a => x_spec_l01Var N a⟩
theorem c_spec_l01Var (N : Nat) : CTok Try.prog (ct_spec_l01Var N) :=
  CT_ok (Γ := []) (Θ := [(4, (.i .u8)), (12, (.i .u8)), (19, (.i .u8))]) (Λ := ([⟨0, 0, (.pr (.d 0 I) (.o 3 (.i .u8))), (.pr (.d 0 I) (.o 3 (.i .u8))), fun {Ω} kx kr => iter (B_spec_l01Var_L0 N kx kr) N⟩] : List (LC (DenR (.t .tx))))) (by kernel_rfl) mixed trivial (by kernel_rfl)
    ⟨LoopEq.mk N (fun Ω kx kr => B_spec_l01Var_L0 N kx kr) (fun Ω g kx kr s => by kernel_rfl), trivial⟩ (by kernel_rfl) (fun a => by kernel_rfl)

/-- loop.example/g00474/spec.CredText -/
def x_spec_CredText (N : Nat) (a0 : (Den tCred)) : Option ByteArray :=
  (x_spec_CredOk N a0).bind fun r1 => (bif (!r1) then some ByteArray.empty else (x_spec_l01Var N a0.1).bind fun r2 => (x_spec_l01Var N a0.2.1.1).bind fun r3 => (bif (decide (r2.size + r3.size ≤ 4611686018427387904)) then (x_spec_l01Var N a0.2.1.2).bind fun r4 => (bif (decide ((r2 ++ r3).size + r4.size ≤ 4611686018427387904)) then (x_spec_l01Var N a0.2.2.1).bind fun r5 => (bif (decide (((r2 ++ r3) ++ r4).size + r5.size ≤ 4611686018427387904)) then (x_spec_l01Var N a0.2.2.2.1.1).bind fun r6 => (bif (decide ((((r2 ++ r3) ++ r4) ++ r5).size + r6.size ≤ 4611686018427387904)) then (x_spec_l01Var N a0.2.2.2.1.2).bind fun r7 => (bif (decide (((((r2 ++ r3) ++ r4) ++ r5) ++ r6).size + r7.size ≤ 4611686018427387904)) then (x_spec_l01Var N a0.2.2.2.2.1.1).bind fun r8 => (bif (decide ((((((r2 ++ r3) ++ r4) ++ r5) ++ r6) ++ r7).size + r8.size ≤ 4611686018427387904)) then (x_spec_l01Var N a0.2.2.2.2.1.2).bind fun r9 => (bif (decide (((((((r2 ++ r3) ++ r4) ++ r5) ++ r6) ++ r7) ++ r8).size + r9.size ≤ 4611686018427387904)) then (x_spec_l01Var N a0.2.2.2.2.2.1).bind fun r10 => (bif (decide ((((((((r2 ++ r3) ++ r4) ++ r5) ++ r6) ++ r7) ++ r8) ++ r9).size + r10.size ≤ 4611686018427387904)) then (x_spec_l01Var N a0.2.2.2.2.2.2).bind fun r11 => (bif (decide (((((((((r2 ++ r3) ++ r4) ++ r5) ++ r6) ++ r7) ++ r8) ++ r9) ++ r10).size + r11.size ≤ 4611686018427387904)) then some (((((((((r2 ++ r3) ++ r4) ++ r5) ++ r6) ++ r7) ++ r8) ++ r9) ++ r10) ++ r11) else none) else none) else none) else none) else none) else none) else none) else none) else none))
abbrev ct_spec_CredText (N : Nat) : CT := ⟨84, (.d tCred), (.t .tx), fun a => x_spec_CredText N a⟩
theorem c_spec_CredText (N : Nat) : CTok Try.prog (ct_spec_CredText N) :=
  CT_ok (Γ := [.c (ct_spec_CredOk N), .c (ct_spec_l01Var N)]) (Θ := []) (Λ := ([] : List (LC (DenR (.t .tx))))) (by kernel_rfl) mixed ⟨c_spec_CredOk N, ⟨c_spec_l01Var N, trivial⟩⟩ (by kernel_rfl)
    trivial (by kernel_rfl) (fun a => by kernel_rfl)

/-- a round -/
def B_spec_l04Steps_L0 (N : Nat) {Ω : Type} (kx : DenS (.d 1 I) → Option Ω) (kr : Int → Option Ω) (rec_ : DenS (.pr (.d 1 I) (.d 2 I)) → Option Ω) : DenS (.pr (.d 1 I) (.d 2 I)) → Option Ω := fun (s1, s2) =>
  (bif (decide ((1 : Int) < s2)) then rec_ ((wrap64 (s1 + (1 : Int))), (wrap64 (s2.tdiv (2 : Int)))) else kx s1)
/-- loop.example/g00474/spec.l04Steps -/
def x_spec_l04Steps (N : Nat)  : Option Int :=
  iter (B_spec_l04Steps_L0 N (fun x1 => some x1) (fun ρ2 => some (ρ2))) N ((0 : Int), (4 : Int))
abbrev ct_spec_l04Steps (N : Nat) : CT := ⟨98, .un, (.t I), fun a => x_spec_l04Steps N ⟩
theorem c_spec_l04Steps (N : Nat) : CTok Try.prog (ct_spec_l04Steps N) :=
  CT_ok (Γ := []) (Θ := []) (Λ := ([⟨0, 0, (.pr (.d 1 I) (.d 2 I)), (.d 1 I), fun {Ω} kx kr => iter (B_spec_l04Steps_L0 N kx kr) N⟩] : List (LC (DenR (.t I))))) (by kernel_rfl) mixed trivial (by kernel_rfl)
    ⟨LoopEq.mk N (fun Ω kx kr => B_spec_l04Steps_L0 N kx kr) (fun Ω g kx kr s => by kernel_rfl), trivial⟩ (by kernel_rfl) (fun a => by kernel_rfl)

/-- a round -/
def B_spec_l04Long_L0 (N : Nat) {Ω : Type} (kx : DenS .un → Option Ω) (kr : Bool → Option Ω) (rec_ : DenS (.pr (.d 0 (.sl .tx)) (.d 3 I)) → Option Ω) : DenS (.pr (.d 0 (.sl .tx)) (.d 3 I)) → Option Ω := fun (s0, s3) =>
  (bif (decide (s3 < (s0.length : Int))) then (bif (decide (0 ≤ s3) && decide (s3 < s0.length)) then (bif (!decide (((s0.getD s3.toNat ByteArray.empty).size : Int) = (8 : Int))) then kr false else rec_ (s0, (wrap64 (s3 + (1 : Int))))) else none) else kx ())
/-- loop.example/g00474/spec.l04Long -/
def x_spec_l04Long (N : Nat) (a0 : (List ByteArray)) : Option Bool :=
  iter (B_spec_l04Long_L0 N (fun _ => some true) (fun ρ1 => some (ρ1))) N (a0, (0 : Int))
abbrev ct_spec_l04Long (N : Nat) : CT := ⟨157, (.d (.sl .tx)), (.t .bl), fun a => x_spec_l04Long N a⟩
theorem c_spec_l04Long (N : Nat) : CTok Try.prog (ct_spec_l04Long N) :=
  CT_ok (Γ := []) (Θ := []) (Λ := ([⟨0, 0, (.pr (.d 0 (.sl .tx)) (.d 3 I)), .un, fun {Ω} kx kr => iter (B_spec_l04Long_L0 N kx kr) N⟩] : List (LC (DenR (.t .bl))))) (by kernel_rfl) mixed trivial (by kernel_rfl)
    ⟨LoopEq.mk N (fun Ω kx kr => B_spec_l04Long_L0 N kx kr) (fun Ω g kx kr s => by kernel_rfl), trivial⟩ (by kernel_rfl) (fun a => by kernel_rfl)

/-- loop.example/g00474/spec.l04Form -/
def x_spec_l04Form (N : Nat) (a0 : (Den tSignature)) : Option Bool :=
  (x_spec_l01In N a0.1 (0 : Int) (3 : Int)).bind fun r1 => (bif r1 then (bif (decide ((a0.2.1.length : Int) = (11 : Int))) then (x_spec_l04Steps N).bind fun r2 => (bif (decide ((a0.2.2.length : Int) = r2)) then (x_spec_l04Long N a0.2.1).bind fun r3 => (bif r3 then (x_spec_l04Long N a0.2.2).bind fun r4 => some r4 else some false) else some false) else some false) else some false)
abbrev ct_spec_l04Form (N : Nat) : CT := ⟨85, (.d tSignature), (.t .bl), fun a => x_spec_l04Form N a⟩
theorem c_spec_l04Form (N : Nat) : CTok Try.prog (ct_spec_l04Form N) :=
  CT_ok (Γ := [.c (ct_spec_l01In N), .c (ct_spec_l04Steps N), .c (ct_spec_l04Long N)]) (Θ := []) (Λ := ([] : List (LC (DenR (.t .bl))))) (by kernel_rfl) mixed ⟨c_spec_l01In N, ⟨c_spec_l04Steps N, ⟨c_spec_l04Long N, trivial⟩⟩⟩ (by kernel_rfl)
    trivial (by kernel_rfl) (fun a => by kernel_rfl)

/-- a round -/
def B_spec_VouchedText_L0 (N : Nat) {Ω : Type} (kx : DenS (.pr (.ip 1 tVouched) (.d 4 .tx)) → Option Ω) (kr : ByteArray → Option Ω) (rec_ : DenS (.pr (.ip 1 tVouched) (.pr (.d 4 .tx) (.d 5 I))) → Option Ω) : DenS (.pr (.ip 1 tVouched) (.pr (.d 4 .tx) (.d 5 I))) → Option Ω := fun (s1, s4, s5) =>
  (bif (decide (s5 < (s1.2.2.1.length : Int))) then (bif (decide (0 ≤ s5) && decide (s5 < s1.2.2.1.length)) then (x_spec_l01Var N (8 : Int)).bind fun r5 => (bif (decide (s4.size + r5.size ≤ 4611686018427387904)) then (bif (decide ((s4 ++ r5).size + (s1.2.2.1.getD s5.toNat ByteArray.empty).size ≤ 4611686018427387904)) then rec_ (s1, ((s4 ++ r5) ++ (s1.2.2.1.getD s5.toNat ByteArray.empty)), (wrap64 (s5 + (1 : Int)))) else none) else none) else none) else kx (s1, s4))
/-- a round -/
def B_spec_VouchedText_L2 (N : Nat) {Ω : Type} (kx : DenS (.d 4 .tx) → Option Ω) (kr : ByteArray → Option Ω) (rec_ : DenS (.pr (.ip 1 tVouched) (.pr (.d 4 .tx) (.d 6 I))) → Option Ω) : DenS (.pr (.ip 1 tVouched) (.pr (.d 4 .tx) (.d 6 I))) → Option Ω := fun (s1, s4, s6) =>
  (bif (decide (s6 < (s1.2.2.2.length : Int))) then (bif (decide (0 ≤ s6) && decide (s6 < s1.2.2.2.length)) then (x_spec_l01Var N (8 : Int)).bind fun r8 => (bif (decide (s4.size + r8.size ≤ 4611686018427387904)) then (bif (decide ((s4 ++ r8).size + (s1.2.2.2.getD s6.toNat ByteArray.empty).size ≤ 4611686018427387904)) then rec_ (s1, ((s4 ++ r8) ++ (s1.2.2.2.getD s6.toNat ByteArray.empty)), (wrap64 (s6 + (1 : Int)))) else none) else none) else none) else kx s4)
/-- loop.example/g00474/spec.VouchedText -/
def x_spec_VouchedText (N : Nat) (a0 : (Den tVouched)) : Option ByteArray :=
  (x_spec_CredText N a0.1).bind fun r1 => (bif (decide (r1 = ByteArray.empty)) then some ByteArray.empty else (x_spec_l04Form N a0.2).bind fun r2 => (bif (!r2) then some ByteArray.empty else (x_spec_l01Var N (r1.size : Int)).bind fun r3 => (bif (decide (r3.size + r1.size ≤ 4611686018427387904)) then (x_spec_l01Var N a0.2.1).bind fun r4 => (bif (decide ((r3 ++ r1).size + r4.size ≤ 4611686018427387904)) then iter (B_spec_VouchedText_L0 N (fun (x6, x7) => iter (B_spec_VouchedText_L2 N (fun x9 => some x9) (fun ρ10 => some (ρ10))) N (x6, x7, (0 : Int))) (fun ρ11 => some (ρ11))) N (a0, ((r3 ++ r1) ++ r4), (0 : Int)) else none) else none)))
abbrev ct_spec_VouchedText (N : Nat) : CT := ⟨32, (.d tVouched), (.t .tx), fun a => x_spec_VouchedText N a⟩
theorem c_spec_VouchedText (N : Nat) : CTok Try.prog (ct_spec_VouchedText N) :=
  CT_ok (Γ := [.c (ct_spec_CredText N), .c (ct_spec_l04Form N), .c (ct_spec_l01Var N)]) (Θ := []) (Λ := ([⟨0, 0, (.pr (.ip 1 tVouched) (.pr (.d 4 .tx) (.d 5 I))), (.pr (.ip 1 tVouched) (.d 4 .tx)), fun {Ω} kx kr => iter (B_spec_VouchedText_L0 N kx kr) N⟩, ⟨2, 0, (.pr (.ip 1 tVouched) (.pr (.d 4 .tx) (.d 6 I))), (.d 4 .tx), fun {Ω} kx kr => iter (B_spec_VouchedText_L2 N kx kr) N⟩] : List (LC (DenR (.t .tx))))) (by kernel_rfl) mixed ⟨c_spec_CredText N, ⟨c_spec_l04Form N, ⟨c_spec_l01Var N, trivial⟩⟩⟩ (by kernel_rfl)
    ⟨LoopEq.mk N (fun Ω kx kr => B_spec_VouchedText_L0 N kx kr) (fun Ω g kx kr s => by kernel_rfl), ⟨LoopEq.mk N (fun Ω kx kr => B_spec_VouchedText_L2 N kx kr) (fun Ω g kx kr s => by kernel_rfl), trivial⟩⟩ (by kernel_rfl) (fun a => by kernel_rfl)

/-- loop.example/g00474/impl.in -/
def x_impl_in (N : Nat) (a0 : Int) (a1 : Int) (a2 : Int) : Option Bool :=
  (bif (decide (a1 ≤ a0)) then some (decide (a0 ≤ a2)) else some false)
abbrev ct_impl_in (N : Nat) : CT := ⟨160, (.pr (.d I) (.pr (.d I) (.d I))), (.t .bl), fun a => x_impl_in N a.1 a.2.1 a.2.2⟩
theorem c_impl_in (N : Nat) : CTok Try.prog (ct_impl_in N) :=
  CT_ok (Γ := []) (Θ := []) (Λ := ([] : List (LC (DenR (.t .bl))))) (by kernel_rfl) mixed trivial (by kernel_rfl)
    trivial (by kernel_rfl) (fun a => by kernel_rfl)

/-- loop.example/g00474/impl.RoleOk -/
def x_impl_RoleOk (N : Nat) (a0 : (Den tRole)) : Option Bool :=
  (x_impl_in N a0.1 (0 : Int) (5 : Int)).bind fun r1 => (bif r1 then (x_impl_in N a0.2 (0 : Int) (3 : Int)).bind fun r2 => some r2 else some false)
abbrev ct_impl_RoleOk (N : Nat) : CT := ⟨159, (.d tRole), (.t .bl), fun a => x_impl_RoleOk N a⟩
theorem c_impl_RoleOk (N : Nat) : CTok Try.prog (ct_impl_RoleOk N) :=
  CT_ok (Γ := [.c (ct_impl_in N)]) (Θ := []) (Λ := ([] : List (LC (DenR (.t .bl))))) (by kernel_rfl) mixed ⟨c_impl_in N, trivial⟩ (by kernel_rfl)
    trivial (by kernel_rfl) (fun a => by kernel_rfl)

/-- loop.example/g00474/impl.isPerson -/
def x_impl_isPerson (N : Nat) (a0 : Int) : Option Bool :=
  (x_impl_in N a0 (0 : Int) (5 : Int)).bind fun r1 => some r1
abbrev ct_impl_isPerson (N : Nat) : CT := ⟨161, (.d I), (.t .bl), fun a => x_impl_isPerson N a⟩
theorem c_impl_isPerson (N : Nat) : CTok Try.prog (ct_impl_isPerson N) :=
  CT_ok (Γ := [.c (ct_impl_in N)]) (Θ := []) (Λ := ([] : List (LC (DenR (.t .bl))))) (by kernel_rfl) mixed ⟨c_impl_in N, trivial⟩ (by kernel_rfl)
    trivial (by kernel_rfl) (fun a => by kernel_rfl)

/-- loop.example/g00474/impl.CredOk -/
def x_impl_CredOk (N : Nat) (a0 : (Den tCred)) : Option Bool :=
  (x_impl_RoleOk N a0.2.1).bind fun r1 => (bif (!r1) then some false else (x_impl_in N a0.2.2.2.2.2.1 (1 : Int) (9999 : Int)).bind fun r2 => (bif (!r2) then some false else (x_impl_in N a0.2.2.2.2.2.2 (0 : Int) (99 : Int)).bind fun r3 => (bif (!r3) then some false else (bif (decide (a0.1 = (1 : Int))) then (x_impl_isPerson N a0.2.2.1).bind fun r4 => (bif r4 then (bif (decide (a0.2.2.2.1.1 = (0 : Int)) && decide (a0.2.2.2.1.2 = (0 : Int))) then some (decide (a0.2.2.2.2.1.1 = (0 : Int)) && decide (a0.2.2.2.2.1.2 = (0 : Int))) else some false) else some false) else (bif (decide (a0.1 = (2 : Int))) then (bif (decide (a0.2.2.1 = (0 : Int))) then (x_impl_RoleOk N a0.2.2.2.1).bind fun r5 => (bif r5 then some (decide (a0.2.2.2.2.1.1 = (0 : Int)) && decide (a0.2.2.2.2.1.2 = (0 : Int))) else some false) else some false) else (bif (decide (a0.1 = (3 : Int))) then (bif (decide (a0.2.2.1 = (0 : Int))) then (x_impl_RoleOk N a0.2.2.2.1).bind fun r6 => (bif r6 then (x_impl_RoleOk N a0.2.2.2.2.1).bind fun r7 => (bif r7 then some (decide (a0.2.2.2.2.1.1 = (0 : Int))) else some false) else some false) else some false) else (bif (decide (a0.1 = (4 : Int))) then (bif (decide (a0.2.2.1 = (0 : Int))) then (x_impl_RoleOk N a0.2.2.2.1).bind fun r8 => (bif r8 then (x_impl_RoleOk N a0.2.2.2.2.1).bind fun r9 => some r9 else some false) else some false) else some false)))))))
abbrev ct_impl_CredOk (N : Nat) : CT := ⟨89, (.d tCred), (.t .bl), fun a => x_impl_CredOk N a⟩
theorem c_impl_CredOk (N : Nat) : CTok Try.prog (ct_impl_CredOk N) :=
  CT_ok (Γ := [.c (ct_impl_RoleOk N), .c (ct_impl_in N), .c (ct_impl_isPerson N)]) (Θ := []) (Λ := ([] : List (LC (DenR (.t .bl))))) (by kernel_rfl) mixed ⟨c_impl_RoleOk N, ⟨c_impl_in N, ⟨c_impl_isPerson N, trivial⟩⟩⟩ (by kernel_rfl)
    trivial (by kernel_rfl) (fun a => by kernel_rfl)

/-- loop.example/g00474/impl.signFormed$1 -/
def x_impl_signFormed_1 (N : Nat) (a0 : ByteArray) : Option Bool :=
  some (!decide ((a0.size : Int) = (8 : Int)))
abbrev ct_impl_signFormed_1 (N : Nat) : CT := ⟨162, (.d .tx), (.t .bl), fun a => x_impl_signFormed_1 N a⟩
theorem c_impl_signFormed_1 (N : Nat) : CTok Try.prog (ct_impl_signFormed_1 N) :=
  CT_ok (Γ := []) (Θ := []) (Λ := ([] : List (LC (DenR (.t .bl))))) (by kernel_rfl) mixed trivial (by kernel_rfl)
    trivial (by kernel_rfl) (fun a => by kernel_rfl)

/-- a round -/
def B_slices_IndexFunc_string_string__impl_signFormed_1_L0 (N : Nat) {Ω : Type} (kx : DenS .un → Option Ω) (kr : Int → Option Ω) (rec_ : DenS (.pr (.d 0 (.sl .tx)) (.pr (.fn 1 162 .un) (.pr (.d 7 I) (.d 8 I)))) → Option Ω) : DenS (.pr (.d 0 (.sl .tx)) (.pr (.fn 1 162 .un) (.pr (.d 7 I) (.d 8 I)))) → Option Ω := fun (s0, s1, s7, s8) =>
  (bif (decide (s8 < s7)) then (bif (decide (0 ≤ s8) && decide (s8 < s0.length)) then (x_impl_signFormed_1 N (s0.getD s8.toNat ByteArray.empty)).bind fun r1 => (bif r1 then kr s8 else rec_ (s0, (), s7, (wrap64 (s8 + (1 : Int))))) else none) else kx ())
/-- slices.IndexFunc[[]string,string] -/
def x_slices_IndexFunc_string_string__impl_signFormed_1 (N : Nat) (a0 : (List ByteArray)) : Option Int :=
  iter (B_slices_IndexFunc_string_string__impl_signFormed_1_L0 N (fun _ => some (-1 : Int)) (fun ρ2 => some (ρ2))) N (a0, (), (a0.length : Int), (0 : Int))
abbrev ct_slices_IndexFunc_string_string__impl_signFormed_1 (N : Nat) : CT := ⟨204, (.pr (.d (.sl .tx)) (.fn 162 .un)), (.t I), fun a => x_slices_IndexFunc_string_string__impl_signFormed_1 N a.1⟩
theorem c_slices_IndexFunc_string_string__impl_signFormed_1 (N : Nat) : CTok Try.prog (ct_slices_IndexFunc_string_string__impl_signFormed_1 N) :=
  CT_ok (Γ := [.c (ct_impl_signFormed_1 N)]) (Θ := []) (Λ := ([⟨0, 0, (.pr (.d 0 (.sl .tx)) (.pr (.fn 1 162 .un) (.pr (.d 7 I) (.d 8 I)))), .un, fun {Ω} kx kr => iter (B_slices_IndexFunc_string_string__impl_signFormed_1_L0 N kx kr) N⟩] : List (LC (DenR (.t I))))) (by kernel_rfl) mixed ⟨c_impl_signFormed_1 N, trivial⟩ (by kernel_rfl)
    ⟨LoopEq.mk N (fun Ω kx kr => B_slices_IndexFunc_string_string__impl_signFormed_1_L0 N kx kr) (fun Ω g kx kr s => by kernel_rfl), trivial⟩ (by kernel_rfl) (fun a => by kernel_rfl)

/-- slices.ContainsFunc[[]string,string] -/
def x_slices_ContainsFunc_string_string__impl_signFormed_1 (N : Nat) (a0 : (List ByteArray)) : Option Bool :=
  (x_slices_IndexFunc_string_string__impl_signFormed_1 N a0).bind fun r1 => some (decide ((0 : Int) ≤ r1))
abbrev ct_slices_ContainsFunc_string_string__impl_signFormed_1 (N : Nat) : CT := ⟨163, (.pr (.d (.sl .tx)) (.fn 162 .un)), (.t .bl), fun a => x_slices_ContainsFunc_string_string__impl_signFormed_1 N a.1⟩
theorem c_slices_ContainsFunc_string_string__impl_signFormed_1 (N : Nat) : CTok Try.prog (ct_slices_ContainsFunc_string_string__impl_signFormed_1 N) :=
  CT_ok (Γ := [.c (ct_slices_IndexFunc_string_string__impl_signFormed_1 N)]) (Θ := []) (Λ := ([] : List (LC (DenR (.t .bl))))) (by kernel_rfl) mixed ⟨c_slices_IndexFunc_string_string__impl_signFormed_1 N, trivial⟩ (by kernel_rfl)
    trivial (by kernel_rfl) (fun a => by kernel_rfl)

/-- loop.example/g00474/impl.signFormed -/
def x_impl_signFormed (N : Nat) (a0 : (Den tSignature)) : Option Bool :=
  (x_impl_in N a0.1 (0 : Int) (3 : Int)).bind fun r1 => (bif r1 then (bif (decide ((a0.2.1.length : Int) = (11 : Int))) then (bif (decide ((a0.2.2.length : Int) = (2 : Int))) then (x_slices_ContainsFunc_string_string__impl_signFormed_1 N a0.2.1).bind fun r2 => (bif (!r2) then (x_slices_ContainsFunc_string_string__impl_signFormed_1 N a0.2.2).bind fun r3 => some (!r3) else some false) else some false) else some false) else some false)
abbrev ct_impl_signFormed (N : Nat) : CT := ⟨90, (.d tSignature), (.t .bl), fun a => x_impl_signFormed N a⟩
theorem c_impl_signFormed (N : Nat) : CTok Try.prog (ct_impl_signFormed N) :=
  CT_ok (Γ := [.c (ct_impl_in N), .c (ct_slices_ContainsFunc_string_string__impl_signFormed_1 N)]) (Θ := []) (Λ := ([] : List (LC (DenR (.t .bl))))) (by kernel_rfl) mixed ⟨c_impl_in N, ⟨c_slices_ContainsFunc_string_string__impl_signFormed_1 N, trivial⟩⟩ (by kernel_rfl)
    trivial (by kernel_rfl) (fun a => by kernel_rfl)

/-- a round -/
def B_impl_varText_L0 (N : Nat) {Ω : Type} (kx : DenS (.pr (.d 0 I) (.o 3 (.i .u8))) → Option Ω) (kr : ByteArray → Option Ω) (rec_ : DenS (.pr (.d 0 I) (.o 3 (.i .u8))) → Option Ω) : DenS (.pr (.d 0 I) (.o 3 (.i .u8))) → Option Ω := fun (s0, s3) =>
  (bif (decide ((127 : Int) < s0)) then (bif (decide ((s3.length + [((orI .i64 (andI .i64 s0 (127 : Int)) (128 : Int)) % 256)].length) * 1 ≤ 140737488355328)) then rec_ ((shrI .i64 s0 (7 : Int)), (s3 ++ [((orI .i64 (andI .i64 s0 (127 : Int)) (128 : Int)) % 256)])) else none) else kx (s0, s3))
/-- loop.example/g00474/impl.varText -/
def x_impl_varText (N : Nat) (a0 : Int) : Option ByteArray :=
  iter (B_impl_varText_L0 N (fun (x1, x2) => (bif (decide ((x2.length + [(x1 % 256)].length) * 1 ≤ 140737488355328)) then some (txt (x2 ++ [(x1 % 256)])) else none)) (fun ρ3 => some (ρ3))) N (a0, [])
abbrev ct_impl_varText (N : Nat) : CT := ⟨92, (.d I), (.t .tx), fun a => x_impl_varText N a⟩
theorem c_impl_varText (N : Nat) : CTok Try.prog (ct_impl_varText N) :=
  CT_ok (Γ := []) (Θ := [(4, (.i .u8)), (12, (.i .u8)), (19, (.i .u8))]) (Λ := ([⟨0, 0, (.pr (.d 0 I) (.o 3 (.i .u8))), (.pr (.d 0 I) (.o 3 (.i .u8))), fun {Ω} kx kr => iter (B_impl_varText_L0 N kx kr) N⟩] : List (LC (DenR (.t .tx))))) (by kernel_rfl) mixed trivial (by kernel_rfl)
    ⟨LoopEq.mk N (fun Ω kx kr => B_impl_varText_L0 N kx kr) (fun Ω g kx kr s => by kernel_rfl), trivial⟩ (by kernel_rfl) (fun a => by kernel_rfl)

/-- a round -/
def B_impl_CredText_L0 (N : Nat) {Ω : Type} (kx : DenS (.d 3 .tx) → Option Ω) (kr : ByteArray → Option Ω) (rec_ : DenS (.pr (.d 3 .tx) (.pr (.d 35 (.sl I)) (.pr (.d 36 I) (.d 37 I)))) → Option Ω) : DenS (.pr (.d 3 .tx) (.pr (.d 35 (.sl I)) (.pr (.d 36 I) (.d 37 I)))) → Option Ω := fun (s3, s35, s36, s37) =>
  (bif (decide (s37 < s36)) then (bif (decide (0 ≤ s37) && decide (s37 < s35.length)) then (x_impl_varText N (s35.getD s37.toNat (0 : Int))).bind fun r2 => (bif (decide (s3.size + r2.size ≤ 4611686018427387904)) then rec_ ((s3 ++ r2), s35, s36, (wrap64 (s37 + (1 : Int)))) else none) else none) else kx s3)
/-- loop.example/g00474/impl.CredText -/
def x_impl_CredText (N : Nat) (a0 : (Den tCred)) : Option ByteArray :=
  (x_impl_CredOk N a0).bind fun r1 => (bif (!r1) then some ByteArray.empty else iter (B_impl_CredText_L0 N (fun x3 => some x3) (fun ρ4 => some (ρ4))) N (ByteArray.empty, [a0.1, a0.2.1.1, a0.2.1.2, a0.2.2.1, a0.2.2.2.1.1, a0.2.2.2.1.2, a0.2.2.2.2.1.1, a0.2.2.2.2.1.2, a0.2.2.2.2.2.1, a0.2.2.2.2.2.2], ([a0.1, a0.2.1.1, a0.2.1.2, a0.2.2.1, a0.2.2.2.1.1, a0.2.2.2.1.2, a0.2.2.2.2.1.1, a0.2.2.2.2.1.2, a0.2.2.2.2.2.1, a0.2.2.2.2.2.2].length : Int), (0 : Int)))
abbrev ct_impl_CredText (N : Nat) : CT := ⟨91, (.d tCred), (.t .tx), fun a => x_impl_CredText N a⟩
theorem c_impl_CredText (N : Nat) : CTok Try.prog (ct_impl_CredText N) :=
  CT_ok (Γ := [.c (ct_impl_CredOk N), .c (ct_impl_varText N)]) (Θ := [(35, I)]) (Λ := ([⟨0, 0, (.pr (.d 3 .tx) (.pr (.d 35 (.sl I)) (.pr (.d 36 I) (.d 37 I)))), (.d 3 .tx), fun {Ω} kx kr => iter (B_impl_CredText_L0 N kx kr) N⟩] : List (LC (DenR (.t .tx))))) (by kernel_rfl) mixed ⟨c_impl_CredOk N, ⟨c_impl_varText N, trivial⟩⟩ (by kernel_rfl)
    ⟨LoopEq.mk N (fun Ω kx kr => B_impl_CredText_L0 N kx kr) (fun Ω g kx kr s => by kernel_rfl), trivial⟩ (by kernel_rfl) (fun a => by kernel_rfl)

/-- slices.Clone[[]string,string] -/
def x_slices_Clone_string_string (N : Nat) (a0 : (List ByteArray)) : Option (List ByteArray) :=
  (bif (decide (a0.length = 0)) then agree (some []) ((bif (decide ((([] : List ByteArray).length + a0.length) * 16 ≤ 140737488355328)) then some (([] : List ByteArray) ++ a0) else none)) else (bif (decide ((([] : List ByteArray).length + a0.length) * 16 ≤ 140737488355328)) then some (([] : List ByteArray) ++ a0) else none))
abbrev ct_slices_Clone_string_string (N : Nat) : CT := ⟨93, (.d (.sl .tx)), (.t (.sl .tx)), fun a => x_slices_Clone_string_string N a⟩
theorem c_slices_Clone_string_string (N : Nat) : CTok Try.prog (ct_slices_Clone_string_string N) :=
  CT_ok (Γ := []) (Θ := [(5, .tx)]) (Λ := ([] : List (LC (DenR (.t (.sl .tx)))))) (by kernel_rfl) mixed trivial (by kernel_rfl)
    trivial (by kernel_rfl) (fun a => by kernel_rfl)

/-- a round -/
def B_impl_VouchedText_L0 (N : Nat) {Ω : Type} (kx : DenS (.d 4 .tx) → Option Ω) (kr : ByteArray → Option Ω) (rec_ : DenS (.pr (.d 4 .tx) (.pr (.d 37 (.sl .tx)) (.pr (.d 38 I) (.d 39 I)))) → Option Ω) : DenS (.pr (.d 4 .tx) (.pr (.d 37 (.sl .tx)) (.pr (.d 38 I) (.d 39 I)))) → Option Ω := fun (s4, s37, s38, s39) =>
  (bif (decide (s39 < s38)) then (bif (decide (0 ≤ s39) && decide (s39 < s37.length)) then (x_impl_varText N ((s37.getD s39.toNat ByteArray.empty).size : Int)).bind fun r7 => (bif (decide (r7.size + (s37.getD s39.toNat ByteArray.empty).size ≤ 4611686018427387904)) then (bif (decide (s4.size + (r7 ++ (s37.getD s39.toNat ByteArray.empty)).size ≤ 4611686018427387904)) then rec_ ((s4 ++ (r7 ++ (s37.getD s39.toNat ByteArray.empty))), s37, s38, (wrap64 (s39 + (1 : Int)))) else none) else none) else none) else kx s4)
/-- loop.example/g00474/impl.VouchedText -/
def x_impl_VouchedText (N : Nat) (a0 : (Den tVouched)) : Option ByteArray :=
  (x_impl_CredOk N a0.1).bind fun r1 => (bif (!r1) then some ByteArray.empty else (x_impl_signFormed N a0.2).bind fun r2 => (bif (!r2) then some ByteArray.empty else (x_impl_CredText N a0.1).bind fun r3 => (x_impl_varText N (r3.size : Int)).bind fun r4 => (bif (decide (r4.size + r3.size ≤ 4611686018427387904)) then (x_impl_varText N a0.2.1).bind fun r5 => (bif (decide ((r4 ++ r3).size + r5.size ≤ 4611686018427387904)) then (x_slices_Clone_string_string N a0.2.2.1).bind fun r6 => (bif (decide ((r6.length + a0.2.2.2.length) * 16 ≤ 140737488355328)) then iter (B_impl_VouchedText_L0 N (fun x8 => some x8) (fun ρ9 => some (ρ9))) N (((r4 ++ r3) ++ r5), (r6 ++ a0.2.2.2), ((r6 ++ a0.2.2.2).length : Int), (0 : Int)) else none) else none) else none)))
abbrev ct_impl_VouchedText (N : Nat) : CT := ⟨34, (.d tVouched), (.t .tx), fun a => x_impl_VouchedText N a⟩
theorem c_impl_VouchedText (N : Nat) : CTok Try.prog (ct_impl_VouchedText N) :=
  CT_ok (Γ := [.c (ct_impl_CredOk N), .c (ct_impl_signFormed N), .c (ct_impl_CredText N), .c (ct_impl_varText N), .c (ct_slices_Clone_string_string N)]) (Θ := []) (Λ := ([⟨0, 0, (.pr (.d 4 .tx) (.pr (.d 37 (.sl .tx)) (.pr (.d 38 I) (.d 39 I)))), (.d 4 .tx), fun {Ω} kx kr => iter (B_impl_VouchedText_L0 N kx kr) N⟩] : List (LC (DenR (.t .tx))))) (by kernel_rfl) mixed ⟨c_impl_CredOk N, ⟨c_impl_signFormed N, ⟨c_impl_CredText N, ⟨c_impl_varText N, ⟨c_slices_Clone_string_string N, trivial⟩⟩⟩⟩⟩ (by kernel_rfl)
    ⟨LoopEq.mk N (fun Ω kx kr => B_impl_VouchedText_L0 N kx kr) (fun Ω g kx kr s => by kernel_rfl), trivial⟩ (by kernel_rfl) (fun a => by kernel_rfl)

/-- loop.example/g00474/laws.eqRole -/
def x_laws_eqRole (N : Nat) (a0 : (Den tRole)) (a1 : (Den tRole)) : Option Bool :=
  (bif (!decide (a0.1 = a1.1)) then some false else (bif (!decide (a0.2 = a1.2)) then some false else some true))
abbrev ct_laws_eqRole (N : Nat) : CT := ⟨149, (.pr (.d tRole) (.d tRole)), (.t .bl), fun a => x_laws_eqRole N a.1 a.2⟩
theorem c_laws_eqRole (N : Nat) : CTok Try.prog (ct_laws_eqRole N) :=
  CT_ok (Γ := []) (Θ := []) (Λ := ([] : List (LC (DenR (.t .bl))))) (by kernel_rfl) mixed trivial (by kernel_rfl)
    trivial (by kernel_rfl) (fun a => by kernel_rfl)

/-- loop.example/g00474/laws.eqCred -/
def x_laws_eqCred (N : Nat) (a0 : (Den tCred)) (a1 : (Den tCred)) : Option Bool :=
  (bif (!decide (a0.1 = a1.1)) then some false else (x_laws_eqRole N a0.2.1 a1.2.1).bind fun r1 => (bif (!r1) then some false else (bif (!decide (a0.2.2.1 = a1.2.2.1)) then some false else (x_laws_eqRole N a0.2.2.2.1 a1.2.2.2.1).bind fun r2 => (bif (!r2) then some false else (x_laws_eqRole N a0.2.2.2.2.1 a1.2.2.2.2.1).bind fun r3 => (bif (!r3) then some false else (bif (!decide (a0.2.2.2.2.2.1 = a1.2.2.2.2.2.1)) then some false else (bif (!decide (a0.2.2.2.2.2.2 = a1.2.2.2.2.2.2)) then some false else some true)))))))
abbrev ct_laws_eqCred (N : Nat) : CT := ⟨73, (.pr (.d tCred) (.d tCred)), (.t .bl), fun a => x_laws_eqCred N a.1 a.2⟩
theorem c_laws_eqCred (N : Nat) : CTok Try.prog (ct_laws_eqCred N) :=
  CT_ok (Γ := [.c (ct_laws_eqRole N)]) (Θ := []) (Λ := ([] : List (LC (DenR (.t .bl))))) (by kernel_rfl) mixed ⟨c_laws_eqRole N, trivial⟩ (by kernel_rfl)
    trivial (by kernel_rfl) (fun a => by kernel_rfl)

/-- a round -/
def B_laws_eqStringS_L0 (N : Nat) {Ω : Type} (kx : DenS .un → Option Ω) (kr : Bool → Option Ω) (rec_ : DenS (.pr (.d 0 (.sl .tx)) (.pr (.d 1 (.sl .tx)) (.d 5 I))) → Option Ω) : DenS (.pr (.d 0 (.sl .tx)) (.pr (.d 1 (.sl .tx)) (.d 5 I))) → Option Ω := fun (s0, s1, s5) =>
  (bif (decide (s5 < (s0.length : Int))) then (bif (decide (0 ≤ s5) && decide (s5 < s0.length)) then (bif (decide (0 ≤ s5) && decide (s5 < s1.length)) then (bif (!decide ((s0.getD s5.toNat ByteArray.empty) = (s1.getD s5.toNat ByteArray.empty))) then kr false else rec_ (s0, s1, (wrap64 (s5 + (1 : Int))))) else none) else none) else kx ())
/-- loop.example/g00474/laws.eqStringS -/
def x_laws_eqStringS (N : Nat) (a0 : (List ByteArray)) (a1 : (List ByteArray)) : Option Bool :=
  (bif (!decide ((a0.length : Int) = (a1.length : Int))) then some false else iter (B_laws_eqStringS_L0 N (fun _ => some true) (fun ρ1 => some (ρ1))) N (a0, a1, (0 : Int)))
abbrev ct_laws_eqStringS (N : Nat) : CT := ⟨164, (.pr (.d (.sl .tx)) (.d (.sl .tx))), (.t .bl), fun a => x_laws_eqStringS N a.1 a.2⟩
theorem c_laws_eqStringS (N : Nat) : CTok Try.prog (ct_laws_eqStringS N) :=
  CT_ok (Γ := []) (Θ := []) (Λ := ([⟨0, 0, (.pr (.d 0 (.sl .tx)) (.pr (.d 1 (.sl .tx)) (.d 5 I))), .un, fun {Ω} kx kr => iter (B_laws_eqStringS_L0 N kx kr) N⟩] : List (LC (DenR (.t .bl))))) (by kernel_rfl) mixed trivial (by kernel_rfl)
    ⟨LoopEq.mk N (fun Ω kx kr => B_laws_eqStringS_L0 N kx kr) (fun Ω g kx kr s => by kernel_rfl), trivial⟩ (by kernel_rfl) (fun a => by kernel_rfl)

/-- loop.example/g00474/laws.eqSignature -/
def x_laws_eqSignature (N : Nat) (a0 : (Den tSignature)) (a1 : (Den tSignature)) : Option Bool :=
  (bif (!decide (a0.1 = a1.1)) then some false else (x_laws_eqStringS N a0.2.1 a1.2.1).bind fun r1 => (bif (!r1) then some false else (x_laws_eqStringS N a0.2.2 a1.2.2).bind fun r2 => (bif (!r2) then some false else some true)))
abbrev ct_laws_eqSignature (N : Nat) : CT := ⟨94, (.pr (.d tSignature) (.d tSignature)), (.t .bl), fun a => x_laws_eqSignature N a.1 a.2⟩
theorem c_laws_eqSignature (N : Nat) : CTok Try.prog (ct_laws_eqSignature N) :=
  CT_ok (Γ := [.c (ct_laws_eqStringS N)]) (Θ := []) (Λ := ([] : List (LC (DenR (.t .bl))))) (by kernel_rfl) mixed ⟨c_laws_eqStringS N, trivial⟩ (by kernel_rfl)
    trivial (by kernel_rfl) (fun a => by kernel_rfl)

/-- loop.example/g00474/laws.eqVouched -/
def x_laws_eqVouched (N : Nat) (a0 : (Den tVouched)) (a1 : (Den tVouched)) : Option Bool :=
  (x_laws_eqCred N a0.1 a1.1).bind fun r1 => (bif (!r1) then some false else (x_laws_eqSignature N a0.2 a1.2).bind fun r2 => (bif (!r2) then some false else some true))
abbrev ct_laws_eqVouched (N : Nat) : CT := ⟨35, (.pr (.d tVouched) (.d tVouched)), (.t .bl), fun a => x_laws_eqVouched N a.1 a.2⟩
theorem c_laws_eqVouched (N : Nat) : CTok Try.prog (ct_laws_eqVouched N) :=
  CT_ok (Γ := [.c (ct_laws_eqCred N), .c (ct_laws_eqSignature N)]) (Θ := []) (Λ := ([] : List (LC (DenR (.t .bl))))) (by kernel_rfl) mixed ⟨c_laws_eqCred N, ⟨c_laws_eqSignature N, trivial⟩⟩ (by kernel_rfl)
    trivial (by kernel_rfl) (fun a => by kernel_rfl)

/-- loop.example/g00474/laws.FnExactVouchedText -/
def x_laws_FnExactVouchedText (N : Nat) (a0 : (Den tVouched)) : Option Bool :=
  (x_laws_szVouched N a0 (1048576 : Int)).bind fun r1 => (bif (decide (r1 < (0 : Int))) then some true else (x_laws_toVouched N a0).bind fun r2 => (x_spec_VouchedText N r2).bind fun r3 => (x_laws_toVouched N a0).bind fun r4 => (x_impl_VouchedText N r4).bind fun r5 => (bif (!decide (r5 = r3)) then some false else (x_laws_toVouched N a0).bind fun r6 => (x_laws_eqVouched N r4 r6).bind fun r7 => (bif (!r7) then some false else some true)))
abbrev ct_laws_FnExactVouchedText (N : Nat) : CT := ⟨5, (.d tVouched), (.t .bl), fun a => x_laws_FnExactVouchedText N a⟩
theorem c_laws_FnExactVouchedText (N : Nat) : CTok Try.prog (ct_laws_FnExactVouchedText N) :=
  CT_ok (Γ := [.c (ct_laws_szVouched N), .c (ct_laws_toVouched N), .c (ct_spec_VouchedText N), .c (ct_impl_VouchedText N), .c (ct_laws_eqVouched N)]) (Θ := []) (Λ := ([] : List (LC (DenR (.t .bl))))) (by kernel_rfl) mixed ⟨c_laws_szVouched N, ⟨c_laws_toVouched N, ⟨c_spec_VouchedText N, ⟨c_impl_VouchedText N, ⟨c_laws_eqVouched N, trivial⟩⟩⟩⟩⟩ (by kernel_rfl)
    trivial (by kernel_rfl) (fun a => by kernel_rfl)

end
end Go.Proofs.Ytcmlapepofgkpaa.C
