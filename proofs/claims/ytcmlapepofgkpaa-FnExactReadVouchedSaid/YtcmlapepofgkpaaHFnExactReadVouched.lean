/- Each function of the program that is reached computes the datum printed here: no condition beyond the arguments that its contract names. -/
import Derived.Test.YtcmlapepofgkpaaNxq
import Derived.Test.YtcmlapepofgkpaaChecked
import Derived.KernelRfl
namespace Go.Proofs.Ytcmlapepofgkpaa.C
open Go Go.Proofs.Ytcmlapepofgkpaa.Nx Go.RowKit
set_option maxRecDepth 100000
set_option linter.unusedVariables false
noncomputable section
abbrev I : Ty := .i .i64
abbrev tRole : Ty := (.st (.pr I I))
abbrev tCred : Ty := (.st (.pr I (.pr tRole (.pr I (.pr tRole (.pr tRole (.pr I I)))))))
abbrev tSignature : Ty := (.st (.pr I (.pr (.sl .tx) (.sl .tx))))
abbrev tVouched : Ty := (.st (.pr tCred tSignature))
theorem mixed : Try.prog.follows .mixedOrders = true := by kernel_rfl

/-- loop.example/g00474/spec.l01In -/
def x_spec_l01In (N : Nat) (a0 : Int) (a1 : Int) (a2 : Int) : Option Bool :=
  (bif (decide (a1 ≤ a0)) then some (decide (a0 ≤ a2)) else some false)
abbrev ct_spec_l01In (N : Nat) : CT := ⟨117, (.pr (.d I) (.pr (.d I) (.d I))), (.t .bl), fun a => x_spec_l01In N a.1 a.2.1 a.2.2⟩
theorem c_spec_l01In (N : Nat) : CTok Try.prog (ct_spec_l01In N) :=
  CT_ok (Γ := []) (Θ := []) (Λ := ([] : List (LC (DenR (.t .bl))))) (by kernel_rfl) mixed trivial (by kernel_rfl)
    trivial (by kernel_rfl) (fun a => by kernel_rfl)

/-- a round -/
def B_spec_l01Var_L0 (N : Nat) {Ω : Type} (kx : DenS (.pr (.d 0 I) (.o 3 (.i .u8))) → Option Ω) (kr : ByteArray → Option Ω) (rec_ : DenS (.pr (.d 0 I) (.o 3 (.i .u8))) → Option Ω) : DenS (.pr (.d 0 I) (.o 3 (.i .u8))) → Option Ω := fun (s0, s3) =>
  (bif (decide ((127 : Int) < s0)) then (bif (decide ((s3.length + [((wrap64 ((s0.tmod (128 : Int)) + (128 : Int))) % 256)].length) * 1 ≤ 140737488355328)) then rec_ ((wrap64 (s0.tdiv (128 : Int))), (s3 ++ [((wrap64 ((s0.tmod (128 : Int)) + (128 : Int))) % 256)])) else none) else kx (s0, s3))
/-- loop.example/g00474/spec.l01Var -/
def x_spec_l01Var (N : Nat) (a0 : Int) : Option ByteArray :=
  iter (B_spec_l01Var_L0 N (fun (x1, x2) => (bif (decide ((x2.length + [(x1 % 256)].length) * 1 ≤ 140737488355328)) then some (txt (x2 ++ [(x1 % 256)])) else none)) (fun ρ3 => some (ρ3))) N (a0, [])
abbrev ct_spec_l01Var (N : Nat) : CT := ⟨86, (.d I), (.t .tx), fun a => x_spec_l01Var N a⟩
theorem c_spec_l01Var (N : Nat) : CTok Try.prog (ct_spec_l01Var N) :=
  CT_ok (Γ := []) (Θ := [(4, (.i .u8)), (12, (.i .u8)), (19, (.i .u8))]) (Λ := ([⟨0, 0, (.pr (.d 0 I) (.o 3 (.i .u8))), (.pr (.d 0 I) (.o 3 (.i .u8))), fun {Ω} kx kr => iter (B_spec_l01Var_L0 N kx kr) N⟩] : List (LC (DenR (.t .tx))))) (by kernel_rfl) mixed trivial (by kernel_rfl)
    ⟨LoopEq.mk N (fun Ω kx kr => B_spec_l01Var_L0 N kx kr) (fun Ω g kx kr s => by kernel_rfl), trivial⟩ (by kernel_rfl) (fun a => by kernel_rfl)

/-- a round -/
def B_spec_ReadVar_L0 (N : Nat) {Ω : Type} (kx : DenS .un → Option Ω) (kr : (Int × (Int × Bool)) → Option Ω) (rec_ : DenS (.pr (.d 0 .tx) (.pr (.d 1 I) (.pr (.d 7 I) (.pr (.d 8 I) (.d 9 I))))) → Option Ω) : DenS (.pr (.d 0 .tx) (.pr (.d 1 I) (.pr (.d 7 I) (.pr (.d 8 I) (.d 9 I))))) → Option Ω := fun (s0, s1, s7, s8, s9) =>
  (bif (decide (s9 < (s0.size : Int))) then (bif (decide (s9 < (wrap64 (s1 + (5 : Int))))) then (bif (decide (0 ≤ s9) && decide (s9 < s0.size)) then (bif (decide (0 ≤ s9) && decide (s9 < s0.size)) then (bif (decide ((bu s0 s9) < (128 : Int))) then (bif (decide ((1000000000 : Int) < (wrap64 (s7 + (wrap64 (((wrap64 (bu s0 s9)).tmod (128 : Int)) * s8)))))) then kr ((0 : Int), (0 : Int), false) else (bif (inB s1 (wrap64 (s9 + (1 : Int))) (s0.size : Int)) then (x_spec_l01Var N (wrap64 (s7 + (wrap64 (((wrap64 (bu s0 s9)).tmod (128 : Int)) * s8))))).bind fun r2 => (bif (!decide (r2 = (s0.extract s1.toNat (wrap64 (s9 + (1 : Int))).toNat))) then kr ((0 : Int), (0 : Int), false) else kr ((wrap64 (s7 + (wrap64 (((wrap64 (bu s0 s9)).tmod (128 : Int)) * s8)))), (wrap64 (s9 + (1 : Int))), true)) else none)) else rec_ (s0, s1, (wrap64 (s7 + (wrap64 (((wrap64 (bu s0 s9)).tmod (128 : Int)) * s8)))), (wrap64 (s8 * (128 : Int))), (wrap64 (s9 + (1 : Int))))) else none) else none) else kx ()) else kx ())
/-- loop.example/g00474/spec.ReadVar -/
def x_spec_ReadVar (N : Nat) (a0 : ByteArray) (a1 : Int) : Option (Int × (Int × Bool)) :=
  (x_spec_l01In N a1 (0 : Int) (a0.size : Int)).bind fun r1 => (bif (!r1) then some ((0 : Int), (0 : Int), false) else iter (B_spec_ReadVar_L0 N (fun _ => some ((0 : Int), (0 : Int), false)) (fun ρ3 => some (ρ3))) N (a0, a1, (0 : Int), (1 : Int), a1))
abbrev ct_spec_ReadVar (N : Nat) : CT := ⟨97, (.pr (.d .tx) (.d I)), (.pr (.t I) (.pr (.t I) (.t .bl))), fun a => x_spec_ReadVar N a.1 a.2⟩
theorem c_spec_ReadVar (N : Nat) : CTok Try.prog (ct_spec_ReadVar N) :=
  CT_ok (Γ := [.c (ct_spec_l01In N), .c (ct_spec_l01Var N)]) (Θ := []) (Λ := ([⟨0, 0, (.pr (.d 0 .tx) (.pr (.d 1 I) (.pr (.d 7 I) (.pr (.d 8 I) (.d 9 I))))), .un, fun {Ω} kx kr => iter (B_spec_ReadVar_L0 N kx kr) N⟩] : List (LC (DenR (.pr (.t I) (.pr (.t I) (.t .bl))))))) (by kernel_rfl) mixed ⟨c_spec_l01In N, ⟨c_spec_l01Var N, trivial⟩⟩ (by kernel_rfl)
    ⟨LoopEq.mk N (fun Ω kx kr => B_spec_ReadVar_L0 N kx kr) (fun Ω g kx kr s => by kernel_rfl), trivial⟩ (by kernel_rfl) (fun a => by kernel_rfl)

/-- loop.example/g00474/spec.ReadShort -/
def x_spec_ReadShort (N : Nat) (a0 : ByteArray) (a1 : Int) : Option (ByteArray × (Int × Bool)) :=
  (x_spec_ReadVar N a0 a1).bind fun r1 => (bif (!r1.2.2) then some (ByteArray.empty, (0 : Int), false) else (bif (decide ((20000 : Int) < r1.1)) then some (ByteArray.empty, (0 : Int), false) else (bif (decide ((wrap64 ((a0.size : Int) - r1.2.1)) < r1.1)) then some (ByteArray.empty, (0 : Int), false) else (bif (inB r1.2.1 (wrap64 (r1.2.1 + r1.1)) (a0.size : Int)) then some ((a0.extract r1.2.1.toNat (wrap64 (r1.2.1 + r1.1)).toNat), (wrap64 (r1.2.1 + r1.1)), true) else none))))
abbrev ct_spec_ReadShort (N : Nat) : CT := ⟨95, (.pr (.d .tx) (.d I)), (.pr (.t .tx) (.pr (.t I) (.t .bl))), fun a => x_spec_ReadShort N a.1 a.2⟩
theorem c_spec_ReadShort (N : Nat) : CTok Try.prog (ct_spec_ReadShort N) :=
  CT_ok (Γ := [.c (ct_spec_ReadVar N)]) (Θ := []) (Λ := ([] : List (LC (DenR (.pr (.t .tx) (.pr (.t I) (.t .bl))))))) (by kernel_rfl) mixed ⟨c_spec_ReadVar N, trivial⟩ (by kernel_rfl)
    trivial (by kernel_rfl) (fun a => by kernel_rfl)

/-- loop.example/g00474/spec.RoleOk -/
def x_spec_RoleOk (N : Nat) (a0 : (Den tRole)) : Option Bool :=
  (x_spec_l01In N a0.1 (0 : Int) (5 : Int)).bind fun r1 => (bif r1 then (x_spec_l01In N a0.2 (0 : Int) (3 : Int)).bind fun r2 => some r2 else some false)
abbrev ct_spec_RoleOk (N : Nat) : CT := ⟨201, (.d tRole), (.t .bl), fun a => x_spec_RoleOk N a⟩
theorem c_spec_RoleOk (N : Nat) : CTok Try.prog (ct_spec_RoleOk N) :=
  CT_ok (Γ := [.c (ct_spec_l01In N)]) (Θ := []) (Λ := ([] : List (LC (DenR (.t .bl))))) (by kernel_rfl) mixed ⟨c_spec_l01In N, trivial⟩ (by kernel_rfl)
    trivial (by kernel_rfl) (fun a => by kernel_rfl)

/-- loop.example/g00474/spec.CredOk -/
def x_spec_CredOk (N : Nat) (a0 : (Den tCred)) : Option Bool :=
  (x_spec_RoleOk N a0.2.1).bind fun r1 => (bif (!r1) then some false else (x_spec_l01In N a0.2.2.2.2.2.1 (1 : Int) (9999 : Int)).bind fun r2 => (bif (!r2) then some false else (x_spec_l01In N a0.2.2.2.2.2.2 (0 : Int) (99 : Int)).bind fun r3 => (bif (!r3) then some false else (bif (decide (a0.1 = (1 : Int))) then (x_spec_l01In N a0.2.2.1 (0 : Int) (5 : Int)).bind fun r4 => (bif r4 then (bif (decide (a0.2.2.2.1.1 = (0 : Int)) && decide (a0.2.2.2.1.2 = (0 : Int))) then some (decide (a0.2.2.2.2.1.1 = (0 : Int)) && decide (a0.2.2.2.2.1.2 = (0 : Int))) else some false) else some false) else (bif (decide (a0.1 = (2 : Int))) then (bif (decide (a0.2.2.1 = (0 : Int))) then (x_spec_RoleOk N a0.2.2.2.1).bind fun r5 => (bif r5 then some (decide (a0.2.2.2.2.1.1 = (0 : Int)) && decide (a0.2.2.2.2.1.2 = (0 : Int))) else some false) else some false) else (bif (decide (a0.1 = (3 : Int))) then (bif (decide (a0.2.2.1 = (0 : Int))) then (x_spec_RoleOk N a0.2.2.2.1).bind fun r6 => (bif r6 then (x_spec_RoleOk N a0.2.2.2.2.1).bind fun r7 => (bif r7 then some (decide (a0.2.2.2.2.1.1 = (0 : Int))) else some false) else some false) else some false) else (bif (decide (a0.1 = (4 : Int))) then (bif (decide (a0.2.2.1 = (0 : Int))) then (x_spec_RoleOk N a0.2.2.2.1).bind fun r8 => (bif r8 then (x_spec_RoleOk N a0.2.2.2.2.1).bind fun r9 => some r9 else some false) else some false) else some false)))))))
abbrev ct_spec_CredOk (N : Nat) : CT := ⟨144, (.d tCred), (.t .bl), fun a => x_spec_CredOk N a⟩
theorem c_spec_CredOk (N : Nat) : CTok Try.prog (ct_spec_CredOk N) :=
  CT_ok (Γ := [.c (ct_spec_RoleOk N), .c (ct_spec_l01In N)]) (Θ := []) (Λ := ([] : List (LC (DenR (.t .bl))))) (by kernel_rfl) mixed ⟨c_spec_RoleOk N, ⟨c_spec_l01In N, trivial⟩⟩ (by kernel_rfl)
    trivial (by kernel_rfl) (fun a => by kernel_rfl)

/-- loop.example/g00474/spec.CredText -/
def x_spec_CredText (N : Nat) (a0 : (Den tCred)) : Option ByteArray :=
  (x_spec_CredOk N a0).bind fun r1 => (bif (!r1) then some ByteArray.empty else (x_spec_l01Var N a0.1).bind fun r2 => (x_spec_l01Var N a0.2.1.1).bind fun r3 => (bif (decide (r2.size + r3.size ≤ 4611686018427387904)) then (x_spec_l01Var N a0.2.1.2).bind fun r4 => (bif (decide ((r2 ++ r3).size + r4.size ≤ 4611686018427387904)) then (x_spec_l01Var N a0.2.2.1).bind fun r5 => (bif (decide (((r2 ++ r3) ++ r4).size + r5.size ≤ 4611686018427387904)) then (x_spec_l01Var N a0.2.2.2.1.1).bind fun r6 => (bif (decide ((((r2 ++ r3) ++ r4) ++ r5).size + r6.size ≤ 4611686018427387904)) then (x_spec_l01Var N a0.2.2.2.1.2).bind fun r7 => (bif (decide (((((r2 ++ r3) ++ r4) ++ r5) ++ r6).size + r7.size ≤ 4611686018427387904)) then (x_spec_l01Var N a0.2.2.2.2.1.1).bind fun r8 => (bif (decide ((((((r2 ++ r3) ++ r4) ++ r5) ++ r6) ++ r7).size + r8.size ≤ 4611686018427387904)) then (x_spec_l01Var N a0.2.2.2.2.1.2).bind fun r9 => (bif (decide (((((((r2 ++ r3) ++ r4) ++ r5) ++ r6) ++ r7) ++ r8).size + r9.size ≤ 4611686018427387904)) then (x_spec_l01Var N a0.2.2.2.2.2.1).bind fun r10 => (bif (decide ((((((((r2 ++ r3) ++ r4) ++ r5) ++ r6) ++ r7) ++ r8) ++ r9).size + r10.size ≤ 4611686018427387904)) then (x_spec_l01Var N a0.2.2.2.2.2.2).bind fun r11 => (bif (decide (((((((((r2 ++ r3) ++ r4) ++ r5) ++ r6) ++ r7) ++ r8) ++ r9) ++ r10).size + r11.size ≤ 4611686018427387904)) then some (((((((((r2 ++ r3) ++ r4) ++ r5) ++ r6) ++ r7) ++ r8) ++ r9) ++ r10) ++ r11) else none) else none) else none) else none) else none) else none) else none) else none) else none))
abbrev ct_spec_CredText (N : Nat) : CT := ⟨84, (.d tCred), (.t .tx), fun a => x_spec_CredText N a⟩
theorem c_spec_CredText (N : Nat) : CTok Try.prog (ct_spec_CredText N) :=
  CT_ok (Γ := [.c (ct_spec_CredOk N), .c (ct_spec_l01Var N)]) (Θ := []) (Λ := ([] : List (LC (DenR (.t .tx))))) (by kernel_rfl) mixed ⟨c_spec_CredOk N, ⟨c_spec_l01Var N, trivial⟩⟩ (by kernel_rfl)
    trivial (by kernel_rfl) (fun a => by kernel_rfl)

/-- a round -/
def B_spec_ReadCred_L0 (N : Nat) {Ω : Type} (kx : DenS (.pr (.d 0 .tx) (.pr (.bx 2 tCred) (.o 4 I))) → Option Ω) (kr : ((Den tCred) × Bool) → Option Ω) (rec_ : DenS (.pr (.d 0 .tx) (.pr (.bx 2 tCred) (.pr (.o 4 I) (.pr (.d 5 I) (.d 6 I))))) → Option Ω) : DenS (.pr (.d 0 .tx) (.pr (.bx 2 tCred) (.pr (.o 4 I) (.pr (.d 5 I) (.d 6 I))))) → Option Ω := fun (s0, s2, s4, s5, s6) =>
  (bif (decide (s6 < (10 : Int))) then (x_spec_ReadVar N s0 s5).bind fun r1 => (bif (!r1.2.2) then kr (((0 : Int), ((0 : Int), (0 : Int)), (0 : Int), ((0 : Int), (0 : Int)), ((0 : Int), (0 : Int)), (0 : Int), (0 : Int)), false) else (bif (decide ((s4.length + [r1.1].length) * 8 ≤ 140737488355328)) then rec_ (s0, s2, (s4 ++ [r1.1]), r1.2.1, (wrap64 (s6 + (1 : Int)))) else none)) else kx (s0, s2, s4))
/-- loop.example/g00474/spec.ReadCred -/
def x_spec_ReadCred (N : Nat) (a0 : ByteArray) : Option ((Den tCred) × Bool) :=
  iter (B_spec_ReadCred_L0 N (fun (x2, x3, x4) => (bif (decide (0 ≤ (0 : Int)) && decide ((0 : Int) < x4.length)) then (bif (decide (0 ≤ (1 : Int)) && decide ((1 : Int) < x4.length)) then (bif (decide (0 ≤ (2 : Int)) && decide ((2 : Int) < x4.length)) then (bif (decide (0 ≤ (3 : Int)) && decide ((3 : Int) < x4.length)) then (bif (decide (0 ≤ (4 : Int)) && decide ((4 : Int) < x4.length)) then (bif (decide (0 ≤ (5 : Int)) && decide ((5 : Int) < x4.length)) then (bif (decide (0 ≤ (6 : Int)) && decide ((6 : Int) < x4.length)) then (bif (decide (0 ≤ (7 : Int)) && decide ((7 : Int) < x4.length)) then (bif (decide (0 ≤ (8 : Int)) && decide ((8 : Int) < x4.length)) then (bif (decide (0 ≤ (9 : Int)) && decide ((9 : Int) < x4.length)) then (x_spec_CredOk N ((x4.getD ((0 : Int).toNat) (0 : Int)), ((x4.getD ((1 : Int).toNat) (0 : Int)), (x4.getD ((2 : Int).toNat) (0 : Int))), (x4.getD ((3 : Int).toNat) (0 : Int)), ((x4.getD ((4 : Int).toNat) (0 : Int)), (x4.getD ((5 : Int).toNat) (0 : Int))), ((x4.getD ((6 : Int).toNat) (0 : Int)), (x4.getD ((7 : Int).toNat) (0 : Int))), (x4.getD ((8 : Int).toNat) (0 : Int)), (x4.getD ((9 : Int).toNat) (0 : Int)))).bind fun r5 => (bif (!r5) then some (((0 : Int), ((0 : Int), (0 : Int)), (0 : Int), ((0 : Int), (0 : Int)), ((0 : Int), (0 : Int)), (0 : Int), (0 : Int)), false) else (x_spec_CredText N ((x4.getD ((0 : Int).toNat) (0 : Int)), ((x4.getD ((1 : Int).toNat) (0 : Int)), (x4.getD ((2 : Int).toNat) (0 : Int))), (x4.getD ((3 : Int).toNat) (0 : Int)), ((x4.getD ((4 : Int).toNat) (0 : Int)), (x4.getD ((5 : Int).toNat) (0 : Int))), ((x4.getD ((6 : Int).toNat) (0 : Int)), (x4.getD ((7 : Int).toNat) (0 : Int))), (x4.getD ((8 : Int).toNat) (0 : Int)), (x4.getD ((9 : Int).toNat) (0 : Int)))).bind fun r6 => (bif (!decide (r6 = x2)) then some (((0 : Int), ((0 : Int), (0 : Int)), (0 : Int), ((0 : Int), (0 : Int)), ((0 : Int), (0 : Int)), (0 : Int), (0 : Int)), false) else some (((x4.getD ((0 : Int).toNat) (0 : Int)), ((x4.getD ((1 : Int).toNat) (0 : Int)), (x4.getD ((2 : Int).toNat) (0 : Int))), (x4.getD ((3 : Int).toNat) (0 : Int)), ((x4.getD ((4 : Int).toNat) (0 : Int)), (x4.getD ((5 : Int).toNat) (0 : Int))), ((x4.getD ((6 : Int).toNat) (0 : Int)), (x4.getD ((7 : Int).toNat) (0 : Int))), (x4.getD ((8 : Int).toNat) (0 : Int)), (x4.getD ((9 : Int).toNat) (0 : Int))), true))) else none) else none) else none) else none) else none) else none) else none) else none) else none) else none)) (fun ρ7 => some (ρ7))) N (a0, ((0 : Int), ((0 : Int), (0 : Int)), (0 : Int), ((0 : Int), (0 : Int)), ((0 : Int), (0 : Int)), (0 : Int), (0 : Int)), [], (0 : Int), (0 : Int))
abbrev ct_spec_ReadCred (N : Nat) : CT := ⟨96, (.d .tx), (.pr (.t tCred) (.t .bl)), fun a => x_spec_ReadCred N a⟩
theorem c_spec_ReadCred (N : Nat) : CTok Try.prog (ct_spec_ReadCred N) :=
  CT_ok (Γ := [.c (ct_spec_ReadVar N), .c (ct_spec_CredOk N), .c (ct_spec_CredText N)]) (Θ := [(11, I), (28, I)]) (Λ := ([⟨0, 0, (.pr (.d 0 .tx) (.pr (.bx 2 tCred) (.pr (.o 4 I) (.pr (.d 5 I) (.d 6 I))))), (.pr (.d 0 .tx) (.pr (.bx 2 tCred) (.o 4 I))), fun {Ω} kx kr => iter (B_spec_ReadCred_L0 N kx kr) N⟩] : List (LC (DenR (.pr (.t tCred) (.t .bl)))))) (by kernel_rfl) mixed ⟨c_spec_ReadVar N, ⟨c_spec_CredOk N, ⟨c_spec_CredText N, trivial⟩⟩⟩ (by kernel_rfl)
    ⟨LoopEq.mk N (fun Ω kx kr => B_spec_ReadCred_L0 N kx kr) (fun Ω g kx kr s => by kernel_rfl), trivial⟩ (by kernel_rfl) (fun a => by kernel_rfl)

/-- a round -/
def B_spec_l04Steps_L0 (N : Nat) {Ω : Type} (kx : DenS (.d 1 I) → Option Ω) (kr : Int → Option Ω) (rec_ : DenS (.pr (.d 1 I) (.d 2 I)) → Option Ω) : DenS (.pr (.d 1 I) (.d 2 I)) → Option Ω := fun (s1, s2) =>
  (bif (decide ((1 : Int) < s2)) then rec_ ((wrap64 (s1 + (1 : Int))), (wrap64 (s2.tdiv (2 : Int)))) else kx s1)
/-- loop.example/g00474/spec.l04Steps -/
def x_spec_l04Steps (N : Nat)  : Option Int :=
  iter (B_spec_l04Steps_L0 N (fun x1 => some x1) (fun ρ2 => some (ρ2))) N ((0 : Int), (4 : Int))
abbrev ct_spec_l04Steps (N : Nat) : CT := ⟨98, .un, (.t I), fun a => x_spec_l04Steps N ⟩
theorem c_spec_l04Steps (N : Nat) : CTok Try.prog (ct_spec_l04Steps N) :=
  CT_ok (Γ := []) (Θ := []) (Λ := ([⟨0, 0, (.pr (.d 1 I) (.d 2 I)), (.d 1 I), fun {Ω} kx kr => iter (B_spec_l04Steps_L0 N kx kr) N⟩] : List (LC (DenR (.t I))))) (by kernel_rfl) mixed trivial (by kernel_rfl)
    ⟨LoopEq.mk N (fun Ω kx kr => B_spec_l04Steps_L0 N kx kr) (fun Ω g kx kr s => by kernel_rfl), trivial⟩ (by kernel_rfl) (fun a => by kernel_rfl)

/-- a round -/
def B_spec_l04Long_L0 (N : Nat) {Ω : Type} (kx : DenS .un → Option Ω) (kr : Bool → Option Ω) (rec_ : DenS (.pr (.d 0 (.sl .tx)) (.d 3 I)) → Option Ω) : DenS (.pr (.d 0 (.sl .tx)) (.d 3 I)) → Option Ω := fun (s0, s3) =>
  (bif (decide (s3 < (s0.length : Int))) then (bif (decide (0 ≤ s3) && decide (s3 < s0.length)) then (bif (!decide (((s0.getD s3.toNat ByteArray.empty).size : Int) = (8 : Int))) then kr false else rec_ (s0, (wrap64 (s3 + (1 : Int))))) else none) else kx ())
/-- loop.example/g00474/spec.l04Long -/
def x_spec_l04Long (N : Nat) (a0 : (List ByteArray)) : Option Bool :=
  iter (B_spec_l04Long_L0 N (fun _ => some true) (fun ρ1 => some (ρ1))) N (a0, (0 : Int))
abbrev ct_spec_l04Long (N : Nat) : CT := ⟨157, (.d (.sl .tx)), (.t .bl), fun a => x_spec_l04Long N a⟩
theorem c_spec_l04Long (N : Nat) : CTok Try.prog (ct_spec_l04Long N) :=
  CT_ok (Γ := []) (Θ := []) (Λ := ([⟨0, 0, (.pr (.d 0 (.sl .tx)) (.d 3 I)), .un, fun {Ω} kx kr => iter (B_spec_l04Long_L0 N kx kr) N⟩] : List (LC (DenR (.t .bl))))) (by kernel_rfl) mixed trivial (by kernel_rfl)
    ⟨LoopEq.mk N (fun Ω kx kr => B_spec_l04Long_L0 N kx kr) (fun Ω g kx kr s => by kernel_rfl), trivial⟩ (by kernel_rfl) (fun a => by kernel_rfl)

/-- loop.example/g00474/spec.l04Form -/
def x_spec_l04Form (N : Nat) (a0 : (Den tSignature)) : Option Bool :=
  (x_spec_l01In N a0.1 (0 : Int) (3 : Int)).bind fun r1 => (bif r1 then (bif (decide ((a0.2.1.length : Int) = (11 : Int))) then (x_spec_l04Steps N).bind fun r2 => (bif (decide ((a0.2.2.length : Int) = r2)) then (x_spec_l04Long N a0.2.1).bind fun r3 => (bif r3 then (x_spec_l04Long N a0.2.2).bind fun r4 => some r4 else some false) else some false) else some false) else some false)
abbrev ct_spec_l04Form (N : Nat) : CT := ⟨85, (.d tSignature), (.t .bl), fun a => x_spec_l04Form N a⟩
theorem c_spec_l04Form (N : Nat) : CTok Try.prog (ct_spec_l04Form N) :=
  CT_ok (Γ := [.c (ct_spec_l01In N), .c (ct_spec_l04Steps N), .c (ct_spec_l04Long N)]) (Θ := []) (Λ := ([] : List (LC (DenR (.t .bl))))) (by kernel_rfl) mixed ⟨c_spec_l01In N, ⟨c_spec_l04Steps N, ⟨c_spec_l04Long N, trivial⟩⟩⟩ (by kernel_rfl)
    trivial (by kernel_rfl) (fun a => by kernel_rfl)

/-- a round -/
def B_spec_VouchedText_L0 (N : Nat) {Ω : Type} (kx : DenS (.pr (.ip 1 tVouched) (.d 4 .tx)) → Option Ω) (kr : ByteArray → Option Ω) (rec_ : DenS (.pr (.ip 1 tVouched) (.pr (.d 4 .tx) (.d 5 I))) → Option Ω) : DenS (.pr (.ip 1 tVouched) (.pr (.d 4 .tx) (.d 5 I))) → Option Ω := fun (s1, s4, s5) =>
  (bif (decide (s5 < (s1.2.2.1.length : Int))) then (bif (decide (0 ≤ s5) && decide (s5 < s1.2.2.1.length)) then (x_spec_l01Var N (8 : Int)).bind fun r5 => (bif (decide (s4.size + r5.size ≤ 4611686018427387904)) then (bif (decide ((s4 ++ r5).size + (s1.2.2.1.getD s5.toNat ByteArray.empty).size ≤ 4611686018427387904)) then rec_ (s1, ((s4 ++ r5) ++ (s1.2.2.1.getD s5.toNat ByteArray.empty)), (wrap64 (s5 + (1 : Int)))) else none) else none) else none) else kx (s1, s4))
/-- a round -/
def B_spec_VouchedText_L2 (N : Nat) {Ω : Type} (kx : DenS (.d 4 .tx) → Option Ω) (kr : ByteArray → Option Ω) (rec_ : DenS (.pr (.ip 1 tVouched) (.pr (.d 4 .tx) (.d 6 I))) → Option Ω) : DenS (.pr (.ip 1 tVouched) (.pr (.d 4 .tx) (.d 6 I))) → Option Ω := fun (s1, s4, s6) =>
  (bif (decide (s6 < (s1.2.2.2.length : Int))) then (bif (decide (0 ≤ s6) && decide (s6 < s1.2.2.2.length)) then (x_spec_l01Var N (8 : Int)).bind fun r8 => (bif (decide (s4.size + r8.size ≤ 4611686018427387904)) then (bif (decide ((s4 ++ r8).size + (s1.2.2.2.getD s6.toNat ByteArray.empty).size ≤ 4611686018427387904)) then rec_ (s1, ((s4 ++ r8) ++ (s1.2.2.2.getD s6.toNat ByteArray.empty)), (wrap64 (s6 + (1 : Int)))) else none) else none) else none) else kx s4)
/-- loop.example/g00474/spec.VouchedText -/
def x_spec_VouchedText (N : Nat) (a0 : (Den tVouched)) : Option ByteArray :=
  (x_spec_CredText N a0.1).bind fun r1 => (bif (decide (r1 = ByteArray.empty)) then some ByteArray.empty else (x_spec_l04Form N a0.2).bind fun r2 => (bif (!r2) then some ByteArray.empty else (x_spec_l01Var N (r1.size : Int)).bind fun r3 => (bif (decide (r3.size + r1.size ≤ 4611686018427387904)) then (x_spec_l01Var N a0.2.1).bind fun r4 => (bif (decide ((r3 ++ r1).size + r4.size ≤ 4611686018427387904)) then iter (B_spec_VouchedText_L0 N (fun (x6, x7) => iter (B_spec_VouchedText_L2 N (fun x9 => some x9) (fun ρ10 => some (ρ10))) N (x6, x7, (0 : Int))) (fun ρ11 => some (ρ11))) N (a0, ((r3 ++ r1) ++ r4), (0 : Int)) else none) else none)))
abbrev ct_spec_VouchedText (N : Nat) : CT := ⟨32, (.d tVouched), (.t .tx), fun a => x_spec_VouchedText N a⟩
theorem c_spec_VouchedText (N : Nat) : CTok Try.prog (ct_spec_VouchedText N) :=
  CT_ok (Γ := [.c (ct_spec_CredText N), .c (ct_spec_l04Form N), .c (ct_spec_l01Var N)]) (Θ := []) (Λ := ([⟨0, 0, (.pr (.ip 1 tVouched) (.pr (.d 4 .tx) (.d 5 I))), (.pr (.ip 1 tVouched) (.d 4 .tx)), fun {Ω} kx kr => iter (B_spec_VouchedText_L0 N kx kr) N⟩, ⟨2, 0, (.pr (.ip 1 tVouched) (.pr (.d 4 .tx) (.d 6 I))), (.d 4 .tx), fun {Ω} kx kr => iter (B_spec_VouchedText_L2 N kx kr) N⟩] : List (LC (DenR (.t .tx))))) (by kernel_rfl) mixed ⟨c_spec_CredText N, ⟨c_spec_l04Form N, ⟨c_spec_l01Var N, trivial⟩⟩⟩ (by kernel_rfl)
    ⟨LoopEq.mk N (fun Ω kx kr => B_spec_VouchedText_L0 N kx kr) (fun Ω g kx kr s => by kernel_rfl), ⟨LoopEq.mk N (fun Ω kx kr => B_spec_VouchedText_L2 N kx kr) (fun Ω g kx kr s => by kernel_rfl), trivial⟩⟩ (by kernel_rfl) (fun a => by kernel_rfl)

/-- a round -/
def B_spec_ReadVouched_L0 (N : Nat) {Ω : Type} (kx : DenS (.pr (.d 0 .tx) (.pr (.bx 2 tVouched) (.pr (.bx 4 tVouched) (.bx 13 tVouched)))) → Option Ω) (kr : ((Den tVouched) × Bool) → Option Ω) (rec_ : DenS (.pr (.d 0 .tx) (.pr (.bx 2 tVouched) (.pr (.bx 4 tVouched) (.pr (.d 6 I) (.pr (.bx 13 tVouched) (.d 14 I)))))) → Option Ω) : DenS (.pr (.d 0 .tx) (.pr (.bx 2 tVouched) (.pr (.bx 4 tVouched) (.pr (.d 6 I) (.pr (.bx 13 tVouched) (.d 14 I)))))) → Option Ω := fun (s0, s2, s4, s6, s13, s14) =>
  (x_spec_l04Steps N).bind fun r4 => (bif (decide (s14 < (wrap64 ((11 : Int) + r4)))) then (x_spec_ReadShort N s0 s6).bind fun r5 => (bif (!r5.2.2) then kr (s4, false) else (bif (decide (s14 < (11 : Int))) then (bif (decide ((s13.2.2.1.length + [r5.1].length) * 16 ≤ 140737488355328)) then rec_ (s0, s2, s4, r5.2.1, (s13.1, s13.2.1, (s13.2.2.1 ++ [r5.1]), s13.2.2.2), (wrap64 (s14 + (1 : Int)))) else none) else (bif (decide ((s13.2.2.2.length + [r5.1].length) * 16 ≤ 140737488355328)) then rec_ (s0, s2, s4, r5.2.1, (s13.1, s13.2.1, s13.2.2.1, (s13.2.2.2 ++ [r5.1])), (wrap64 (s14 + (1 : Int)))) else none))) else kx (s0, s2, s4, s13))
/-- loop.example/g00474/spec.ReadVouched -/
def x_spec_ReadVouched (N : Nat) (a0 : ByteArray) : Option ((Den tVouched) × Bool) :=
  (x_spec_ReadShort N a0 (0 : Int)).bind fun r1 => (bif (!r1.2.2) then some ((((0 : Int), ((0 : Int), (0 : Int)), (0 : Int), ((0 : Int), (0 : Int)), ((0 : Int), (0 : Int)), (0 : Int), (0 : Int)), (0 : Int), [], []), false) else (x_spec_ReadCred N r1.1).bind fun r2 => (x_spec_ReadVar N a0 r1.2.1).bind fun r3 => (bif (!r2.2) then some ((((0 : Int), ((0 : Int), (0 : Int)), (0 : Int), ((0 : Int), (0 : Int)), ((0 : Int), (0 : Int)), (0 : Int), (0 : Int)), (0 : Int), [], []), false) else (bif (!r3.2.2) then some ((((0 : Int), ((0 : Int), (0 : Int)), (0 : Int), ((0 : Int), (0 : Int)), ((0 : Int), (0 : Int)), (0 : Int), (0 : Int)), (0 : Int), [], []), false) else iter (B_spec_ReadVouched_L0 N (fun (x6, x7, x8, x9) => (x_spec_VouchedText N x9).bind fun r10 => (bif (!decide (r10 = x6)) then some (x8, false) else some (x9, true))) (fun ρ11 => some (ρ11))) N (a0, (((0 : Int), ((0 : Int), (0 : Int)), (0 : Int), ((0 : Int), (0 : Int)), ((0 : Int), (0 : Int)), (0 : Int), (0 : Int)), (0 : Int), [], []), (((0 : Int), ((0 : Int), (0 : Int)), (0 : Int), ((0 : Int), (0 : Int)), ((0 : Int), (0 : Int)), (0 : Int), (0 : Int)), (0 : Int), [], []), r3.2.1, (r2.1, r3.1, [], []), (0 : Int)))))
abbrev ct_spec_ReadVouched (N : Nat) : CT := ⟨36, (.d .tx), (.pr (.t tVouched) (.t .bl)), fun a => x_spec_ReadVouched N a⟩
theorem c_spec_ReadVouched (N : Nat) : CTok Try.prog (ct_spec_ReadVouched N) :=
  CT_ok (Γ := [.c (ct_spec_ReadShort N), .c (ct_spec_ReadCred N), .c (ct_spec_ReadVar N), .c (ct_spec_l04Steps N), .c (ct_spec_VouchedText N)]) (Θ := [(74, .tx), (82, .tx)]) (Λ := ([⟨0, 0, (.pr (.d 0 .tx) (.pr (.bx 2 tVouched) (.pr (.bx 4 tVouched) (.pr (.d 6 I) (.pr (.bx 13 tVouched) (.d 14 I)))))), (.pr (.d 0 .tx) (.pr (.bx 2 tVouched) (.pr (.bx 4 tVouched) (.bx 13 tVouched)))), fun {Ω} kx kr => iter (B_spec_ReadVouched_L0 N kx kr) N⟩] : List (LC (DenR (.pr (.t tVouched) (.t .bl)))))) (by kernel_rfl) mixed ⟨c_spec_ReadShort N, ⟨c_spec_ReadCred N, ⟨c_spec_ReadVar N, ⟨c_spec_l04Steps N, ⟨c_spec_VouchedText N, trivial⟩⟩⟩⟩⟩ (by kernel_rfl)
    ⟨LoopEq.mk N (fun Ω kx kr => B_spec_ReadVouched_L0 N kx kr) (fun Ω g kx kr s => by kernel_rfl), trivial⟩ (by kernel_rfl) (fun a => by kernel_rfl)

/-- loop.example/g00474/impl.in -/
def x_impl_in (N : Nat) (a0 : Int) (a1 : Int) (a2 : Int) : Option Bool :=
  (bif (decide (a1 ≤ a0)) then some (decide (a0 ≤ a2)) else some false)
abbrev ct_impl_in (N : Nat) : CT := ⟨160, (.pr (.d I) (.pr (.d I) (.d I))), (.t .bl), fun a => x_impl_in N a.1 a.2.1 a.2.2⟩
theorem c_impl_in (N : Nat) : CTok Try.prog (ct_impl_in N) :=
  CT_ok (Γ := []) (Θ := []) (Λ := ([] : List (LC (DenR (.t .bl))))) (by kernel_rfl) mixed trivial (by kernel_rfl)
    trivial (by kernel_rfl) (fun a => by kernel_rfl)

/-- a round -/
def B_impl_ReadVar_L0 (N : Nat) {Ω : Type} (kx : DenS .un → Option Ω) (kr : (Int × (Int × Bool)) → Option Ω) (rec_ : DenS (.pr (.d 0 .tx) (.pr (.d 1 I) (.pr (.d 7 I) (.d 8 I)))) → Option Ω) : DenS (.pr (.d 0 .tx) (.pr (.d 1 I) (.pr (.d 7 I) (.d 8 I)))) → Option Ω := fun (s0, s1, s7, s8) =>
  (bif (decide (s8 < (5 : Int))) then (bif (decide ((wrap64 (s1 + s8)) < (s0.size : Int))) then (bif (decide (0 ≤ (wrap64 (s1 + s8))) && decide ((wrap64 (s1 + s8)) < s0.size)) then (bif (decide (0 ≤ (wrap64 ((7 : Int) * s8)))) then (bif (decide ((127 : Int) < (wrap64 (bu s0 (wrap64 (s1 + s8)))))) then rec_ (s0, s1, (orI .i64 s7 (shlI .i64 (andI .i64 (wrap64 (bu s0 (wrap64 (s1 + s8)))) (127 : Int)) (wrap64 ((7 : Int) * s8)))), (wrap64 (s8 + (1 : Int)))) else (bif (decide ((wrap64 (bu s0 (wrap64 (s1 + s8)))) = (0 : Int))) then (bif (decide ((0 : Int) < s8)) then kr ((0 : Int), (0 : Int), false) else (bif (decide ((1000000000 : Int) < (orI .i64 s7 (shlI .i64 (andI .i64 (wrap64 (bu s0 (wrap64 (s1 + s8)))) (127 : Int)) (wrap64 ((7 : Int) * s8)))))) then kr ((0 : Int), (0 : Int), false) else kr ((orI .i64 s7 (shlI .i64 (andI .i64 (wrap64 (bu s0 (wrap64 (s1 + s8)))) (127 : Int)) (wrap64 ((7 : Int) * s8)))), (wrap64 ((wrap64 (s1 + s8)) + (1 : Int))), true))) else (bif (decide ((1000000000 : Int) < (orI .i64 s7 (shlI .i64 (andI .i64 (wrap64 (bu s0 (wrap64 (s1 + s8)))) (127 : Int)) (wrap64 ((7 : Int) * s8)))))) then kr ((0 : Int), (0 : Int), false) else kr ((orI .i64 s7 (shlI .i64 (andI .i64 (wrap64 (bu s0 (wrap64 (s1 + s8)))) (127 : Int)) (wrap64 ((7 : Int) * s8)))), (wrap64 ((wrap64 (s1 + s8)) + (1 : Int))), true)))) else none) else none) else kx ()) else kx ())
/-- loop.example/g00474/impl.ReadVar -/
def x_impl_ReadVar (N : Nat) (a0 : ByteArray) (a1 : Int) : Option (Int × (Int × Bool)) :=
  (x_impl_in N a1 (0 : Int) (a0.size : Int)).bind fun r1 => (bif (!r1) then some ((0 : Int), (0 : Int), false) else iter (B_impl_ReadVar_L0 N (fun _ => some ((0 : Int), (0 : Int), false)) (fun ρ2 => some (ρ2))) N (a0, a1, (0 : Int), (0 : Int)))
abbrev ct_impl_ReadVar (N : Nat) : CT := ⟨101, (.pr (.d .tx) (.d I)), (.pr (.t I) (.pr (.t I) (.t .bl))), fun a => x_impl_ReadVar N a.1 a.2⟩
theorem c_impl_ReadVar (N : Nat) : CTok Try.prog (ct_impl_ReadVar N) :=
  CT_ok (Γ := [.c (ct_impl_in N)]) (Θ := []) (Λ := ([⟨0, 0, (.pr (.d 0 .tx) (.pr (.d 1 I) (.pr (.d 7 I) (.d 8 I)))), .un, fun {Ω} kx kr => iter (B_impl_ReadVar_L0 N kx kr) N⟩] : List (LC (DenR (.pr (.t I) (.pr (.t I) (.t .bl))))))) (by kernel_rfl) mixed ⟨c_impl_in N, trivial⟩ (by kernel_rfl)
    ⟨LoopEq.mk N (fun Ω kx kr => B_impl_ReadVar_L0 N kx kr) (fun Ω g kx kr s => by kernel_rfl), trivial⟩ (by kernel_rfl) (fun a => by kernel_rfl)

/-- loop.example/g00474/impl.ReadShort -/
def x_impl_ReadShort (N : Nat) (a0 : ByteArray) (a1 : Int) : Option (ByteArray × (Int × Bool)) :=
  (x_impl_ReadVar N a0 a1).bind fun r1 => (bif (!r1.2.2) then some (ByteArray.empty, (0 : Int), false) else (bif (decide ((20000 : Int) < r1.1)) then some (ByteArray.empty, (0 : Int), false) else (bif (decide ((wrap64 ((a0.size : Int) - r1.2.1)) < r1.1)) then some (ByteArray.empty, (0 : Int), false) else (bif (inB r1.2.1 (wrap64 (r1.2.1 + r1.1)) (a0.size : Int)) then some ((a0.extract r1.2.1.toNat (wrap64 (r1.2.1 + r1.1)).toNat), (wrap64 (r1.2.1 + r1.1)), true) else none))))
abbrev ct_impl_ReadShort (N : Nat) : CT := ⟨99, (.pr (.d .tx) (.d I)), (.pr (.t .tx) (.pr (.t I) (.t .bl))), fun a => x_impl_ReadShort N a.1 a.2⟩
theorem c_impl_ReadShort (N : Nat) : CTok Try.prog (ct_impl_ReadShort N) :=
  CT_ok (Γ := [.c (ct_impl_ReadVar N)]) (Θ := []) (Λ := ([] : List (LC (DenR (.pr (.t .tx) (.pr (.t I) (.t .bl))))))) (by kernel_rfl) mixed ⟨c_impl_ReadVar N, trivial⟩ (by kernel_rfl)
    trivial (by kernel_rfl) (fun a => by kernel_rfl)

/-- a round -/
def B_impl_readVars_L0 (N : Nat) {Ω : Type} (kx : DenS (.pr (.d 1 I) (.o 9 I)) → Option Ω) (kr : ((List Int) × (Int × Bool)) → Option Ω) (rec_ : DenS (.pr (.d 0 .tx) (.pr (.d 1 I) (.pr (.o 9 I) (.pr (.d 14 I) (.d 15 I))))) → Option Ω) : DenS (.pr (.d 0 .tx) (.pr (.d 1 I) (.pr (.o 9 I) (.pr (.d 14 I) (.d 15 I))))) → Option Ω := fun (s0, s1, s9, s14, s15) =>
  (bif (decide (s15 < s14)) then (x_impl_ReadVar N s0 s1).bind fun r1 => (bif (!r1.2.2) then kr ([], (0 : Int), false) else (bif (decide ((s9.length + [r1.1].length) * 8 ≤ 140737488355328)) then rec_ (s0, r1.2.1, (s9 ++ [r1.1]), s14, (wrap64 (s15 + (1 : Int)))) else none)) else kx (s1, s9))
/-- loop.example/g00474/impl.readVars -/
def x_impl_readVars (N : Nat) (a0 : ByteArray) (a1 : Int) (a2 : Int) : Option ((List Int) × (Int × Bool)) :=
  iter (B_impl_readVars_L0 N (fun (x2, x3) => some (x3, x2, true)) (fun ρ4 => some (ρ4))) N (a0, a1, [], a2, (0 : Int))
abbrev ct_impl_readVars (N : Nat) : CT := ⟨165, (.pr (.d .tx) (.pr (.d I) (.d I))), (.pr (.t (.sl I)) (.pr (.t I) (.t .bl))), fun a => x_impl_readVars N a.1 a.2.1 a.2.2⟩
theorem c_impl_readVars (N : Nat) : CTok Try.prog (ct_impl_readVars N) :=
  CT_ok (Γ := [.c (ct_impl_ReadVar N)]) (Θ := [(13, I), (28, I)]) (Λ := ([⟨0, 0, (.pr (.d 0 .tx) (.pr (.d 1 I) (.pr (.o 9 I) (.pr (.d 14 I) (.d 15 I))))), (.pr (.d 1 I) (.o 9 I)), fun {Ω} kx kr => iter (B_impl_readVars_L0 N kx kr) N⟩] : List (LC (DenR (.pr (.t (.sl I)) (.pr (.t I) (.t .bl))))))) (by kernel_rfl) mixed ⟨c_impl_ReadVar N, trivial⟩ (by kernel_rfl)
    ⟨LoopEq.mk N (fun Ω kx kr => B_impl_readVars_L0 N kx kr) (fun Ω g kx kr s => by kernel_rfl), trivial⟩ (by kernel_rfl) (fun a => by kernel_rfl)

/-- loop.example/g00474/impl.RoleOk -/
def x_impl_RoleOk (N : Nat) (a0 : (Den tRole)) : Option Bool :=
  (x_impl_in N a0.1 (0 : Int) (5 : Int)).bind fun r1 => (bif r1 then (x_impl_in N a0.2 (0 : Int) (3 : Int)).bind fun r2 => some r2 else some false)
abbrev ct_impl_RoleOk (N : Nat) : CT := ⟨159, (.d tRole), (.t .bl), fun a => x_impl_RoleOk N a⟩
theorem c_impl_RoleOk (N : Nat) : CTok Try.prog (ct_impl_RoleOk N) :=
  CT_ok (Γ := [.c (ct_impl_in N)]) (Θ := []) (Λ := ([] : List (LC (DenR (.t .bl))))) (by kernel_rfl) mixed ⟨c_impl_in N, trivial⟩ (by kernel_rfl)
    trivial (by kernel_rfl) (fun a => by kernel_rfl)

/-- loop.example/g00474/impl.isPerson -/
def x_impl_isPerson (N : Nat) (a0 : Int) : Option Bool :=
  (x_impl_in N a0 (0 : Int) (5 : Int)).bind fun r1 => some r1
abbrev ct_impl_isPerson (N : Nat) : CT := ⟨161, (.d I), (.t .bl), fun a => x_impl_isPerson N a⟩
theorem c_impl_isPerson (N : Nat) : CTok Try.prog (ct_impl_isPerson N) :=
  CT_ok (Γ := [.c (ct_impl_in N)]) (Θ := []) (Λ := ([] : List (LC (DenR (.t .bl))))) (by kernel_rfl) mixed ⟨c_impl_in N, trivial⟩ (by kernel_rfl)
    trivial (by kernel_rfl) (fun a => by kernel_rfl)

/-- loop.example/g00474/impl.CredOk -/
def x_impl_CredOk (N : Nat) (a0 : (Den tCred)) : Option Bool :=
  (x_impl_RoleOk N a0.2.1).bind fun r1 => (bif (!r1) then some false else (x_impl_in N a0.2.2.2.2.2.1 (1 : Int) (9999 : Int)).bind fun r2 => (bif (!r2) then some false else (x_impl_in N a0.2.2.2.2.2.2 (0 : Int) (99 : Int)).bind fun r3 => (bif (!r3) then some false else (bif (decide (a0.1 = (1 : Int))) then (x_impl_isPerson N a0.2.2.1).bind fun r4 => (bif r4 then (bif (decide (a0.2.2.2.1.1 = (0 : Int)) && decide (a0.2.2.2.1.2 = (0 : Int))) then some (decide (a0.2.2.2.2.1.1 = (0 : Int)) && decide (a0.2.2.2.2.1.2 = (0 : Int))) else some false) else some false) else (bif (decide (a0.1 = (2 : Int))) then (bif (decide (a0.2.2.1 = (0 : Int))) then (x_impl_RoleOk N a0.2.2.2.1).bind fun r5 => (bif r5 then some (decide (a0.2.2.2.2.1.1 = (0 : Int)) && decide (a0.2.2.2.2.1.2 = (0 : Int))) else some false) else some false) else (bif (decide (a0.1 = (3 : Int))) then (bif (decide (a0.2.2.1 = (0 : Int))) then (x_impl_RoleOk N a0.2.2.2.1).bind fun r6 => (bif r6 then (x_impl_RoleOk N a0.2.2.2.2.1).bind fun r7 => (bif r7 then some (decide (a0.2.2.2.2.1.1 = (0 : Int))) else some false) else some false) else some false) else (bif (decide (a0.1 = (4 : Int))) then (bif (decide (a0.2.2.1 = (0 : Int))) then (x_impl_RoleOk N a0.2.2.2.1).bind fun r8 => (bif r8 then (x_impl_RoleOk N a0.2.2.2.2.1).bind fun r9 => some r9 else some false) else some false) else some false)))))))
abbrev ct_impl_CredOk (N : Nat) : CT := ⟨89, (.d tCred), (.t .bl), fun a => x_impl_CredOk N a⟩
theorem c_impl_CredOk (N : Nat) : CTok Try.prog (ct_impl_CredOk N) :=
  CT_ok (Γ := [.c (ct_impl_RoleOk N), .c (ct_impl_in N), .c (ct_impl_isPerson N)]) (Θ := []) (Λ := ([] : List (LC (DenR (.t .bl))))) (by kernel_rfl) mixed ⟨c_impl_RoleOk N, ⟨c_impl_in N, ⟨c_impl_isPerson N, trivial⟩⟩⟩ (by kernel_rfl)
    trivial (by kernel_rfl) (fun a => by kernel_rfl)

/-- loop.example/g00474/impl.ReadCred -/
def x_impl_ReadCred (N : Nat) (a0 : ByteArray) : Option ((Den tCred) × Bool) :=
  (x_impl_readVars N a0 (0 : Int) (10 : Int)).bind fun r1 => (bif (!r1.2.2) then some (((0 : Int), ((0 : Int), (0 : Int)), (0 : Int), ((0 : Int), (0 : Int)), ((0 : Int), (0 : Int)), (0 : Int), (0 : Int)), false) else (bif (!decide (r1.2.1 = (a0.size : Int))) then some (((0 : Int), ((0 : Int), (0 : Int)), (0 : Int), ((0 : Int), (0 : Int)), ((0 : Int), (0 : Int)), (0 : Int), (0 : Int)), false) else (bif (decide (0 ≤ (0 : Int)) && decide ((0 : Int) < r1.1.length)) then (bif (decide (0 ≤ (1 : Int)) && decide ((1 : Int) < r1.1.length)) then (bif (decide (0 ≤ (2 : Int)) && decide ((2 : Int) < r1.1.length)) then (bif (decide (0 ≤ (3 : Int)) && decide ((3 : Int) < r1.1.length)) then (bif (decide (0 ≤ (4 : Int)) && decide ((4 : Int) < r1.1.length)) then (bif (decide (0 ≤ (5 : Int)) && decide ((5 : Int) < r1.1.length)) then (bif (decide (0 ≤ (6 : Int)) && decide ((6 : Int) < r1.1.length)) then (bif (decide (0 ≤ (7 : Int)) && decide ((7 : Int) < r1.1.length)) then (bif (decide (0 ≤ (8 : Int)) && decide ((8 : Int) < r1.1.length)) then (bif (decide (0 ≤ (9 : Int)) && decide ((9 : Int) < r1.1.length)) then (x_impl_CredOk N ((r1.1.getD ((0 : Int).toNat) (0 : Int)), ((r1.1.getD ((1 : Int).toNat) (0 : Int)), (r1.1.getD ((2 : Int).toNat) (0 : Int))), (r1.1.getD ((3 : Int).toNat) (0 : Int)), ((r1.1.getD ((4 : Int).toNat) (0 : Int)), (r1.1.getD ((5 : Int).toNat) (0 : Int))), ((r1.1.getD ((6 : Int).toNat) (0 : Int)), (r1.1.getD ((7 : Int).toNat) (0 : Int))), (r1.1.getD ((8 : Int).toNat) (0 : Int)), (r1.1.getD ((9 : Int).toNat) (0 : Int)))).bind fun r2 => (bif (!r2) then some (((0 : Int), ((0 : Int), (0 : Int)), (0 : Int), ((0 : Int), (0 : Int)), ((0 : Int), (0 : Int)), (0 : Int), (0 : Int)), false) else some (((r1.1.getD ((0 : Int).toNat) (0 : Int)), ((r1.1.getD ((1 : Int).toNat) (0 : Int)), (r1.1.getD ((2 : Int).toNat) (0 : Int))), (r1.1.getD ((3 : Int).toNat) (0 : Int)), ((r1.1.getD ((4 : Int).toNat) (0 : Int)), (r1.1.getD ((5 : Int).toNat) (0 : Int))), ((r1.1.getD ((6 : Int).toNat) (0 : Int)), (r1.1.getD ((7 : Int).toNat) (0 : Int))), (r1.1.getD ((8 : Int).toNat) (0 : Int)), (r1.1.getD ((9 : Int).toNat) (0 : Int))), true)) else none) else none) else none) else none) else none) else none) else none) else none) else none) else none)))
abbrev ct_impl_ReadCred (N : Nat) : CT := ⟨100, (.d .tx), (.pr (.t tCred) (.t .bl)), fun a => x_impl_ReadCred N a⟩
theorem c_impl_ReadCred (N : Nat) : CTok Try.prog (ct_impl_ReadCred N) :=
  CT_ok (Γ := [.c (ct_impl_readVars N), .c (ct_impl_CredOk N)]) (Θ := []) (Λ := ([] : List (LC (DenR (.pr (.t tCred) (.t .bl)))))) (by kernel_rfl) mixed ⟨c_impl_readVars N, ⟨c_impl_CredOk N, trivial⟩⟩ (by kernel_rfl)
    trivial (by kernel_rfl) (fun a => by kernel_rfl)

/-- slices.Clone[[]string,string] -/
def x_slices_Clone_string_string (N : Nat) (a0 : (List ByteArray)) : Option (List ByteArray) :=
  (bif (decide (a0.length = 0)) then agree (some []) ((bif (decide ((([] : List ByteArray).length + a0.length) * 16 ≤ 140737488355328)) then some (([] : List ByteArray) ++ a0) else none)) else (bif (decide ((([] : List ByteArray).length + a0.length) * 16 ≤ 140737488355328)) then some (([] : List ByteArray) ++ a0) else none))
abbrev ct_slices_Clone_string_string (N : Nat) : CT := ⟨93, (.d (.sl .tx)), (.t (.sl .tx)), fun a => x_slices_Clone_string_string N a⟩
theorem c_slices_Clone_string_string (N : Nat) : CTok Try.prog (ct_slices_Clone_string_string N) :=
  CT_ok (Γ := []) (Θ := [(5, .tx)]) (Λ := ([] : List (LC (DenR (.t (.sl .tx)))))) (by kernel_rfl) mixed trivial (by kernel_rfl)
    trivial (by kernel_rfl) (fun a => by kernel_rfl)

/-- loop.example/g00474/impl.signFormed$1 -/
def x_impl_signFormed_1 (N : Nat) (a0 : ByteArray) : Option Bool :=
  some (!decide ((a0.size : Int) = (8 : Int)))
abbrev ct_impl_signFormed_1 (N : Nat) : CT := ⟨162, (.d .tx), (.t .bl), fun a => x_impl_signFormed_1 N a⟩
theorem c_impl_signFormed_1 (N : Nat) : CTok Try.prog (ct_impl_signFormed_1 N) :=
  CT_ok (Γ := []) (Θ := []) (Λ := ([] : List (LC (DenR (.t .bl))))) (by kernel_rfl) mixed trivial (by kernel_rfl)
    trivial (by kernel_rfl) (fun a => by kernel_rfl)

/-- a round -/
def B_slices_IndexFunc_string_string__impl_signFormed_1_L0 (N : Nat) {Ω : Type} (kx : DenS .un → Option Ω) (kr : Int → Option Ω) (rec_ : DenS (.pr (.d 0 (.sl .tx)) (.pr (.fn 1 162 .un) (.pr (.d 7 I) (.d 8 I)))) → Option Ω) : DenS (.pr (.d 0 (.sl .tx)) (.pr (.fn 1 162 .un) (.pr (.d 7 I) (.d 8 I)))) → Option Ω := fun (s0, s1, s7, s8) =>
  (bif (decide (s8 < s7)) then (bif (decide (0 ≤ s8) && decide (s8 < s0.length)) then (x_impl_signFormed_1 N (s0.getD s8.toNat ByteArray.empty)).bind fun r1 => (bif r1 then kr s8 else rec_ (s0, (), s7, (wrap64 (s8 + (1 : Int))))) else none) else kx ())
/-- slices.IndexFunc[[]string,string] -/
def x_slices_IndexFunc_string_string__impl_signFormed_1 (N : Nat) (a0 : (List ByteArray)) : Option Int :=
  iter (B_slices_IndexFunc_string_string__impl_signFormed_1_L0 N (fun _ => some (-1 : Int)) (fun ρ2 => some (ρ2))) N (a0, (), (a0.length : Int), (0 : Int))
abbrev ct_slices_IndexFunc_string_string__impl_signFormed_1 (N : Nat) : CT := ⟨204, (.pr (.d (.sl .tx)) (.fn 162 .un)), (.t I), fun a => x_slices_IndexFunc_string_string__impl_signFormed_1 N a.1⟩
theorem c_slices_IndexFunc_string_string__impl_signFormed_1 (N : Nat) : CTok Try.prog (ct_slices_IndexFunc_string_string__impl_signFormed_1 N) :=
  CT_ok (Γ := [.c (ct_impl_signFormed_1 N)]) (Θ := []) (Λ := ([⟨0, 0, (.pr (.d 0 (.sl .tx)) (.pr (.fn 1 162 .un) (.pr (.d 7 I) (.d 8 I)))), .un, fun {Ω} kx kr => iter (B_slices_IndexFunc_string_string__impl_signFormed_1_L0 N kx kr) N⟩] : List (LC (DenR (.t I))))) (by kernel_rfl) mixed ⟨c_impl_signFormed_1 N, trivial⟩ (by kernel_rfl)
    ⟨LoopEq.mk N (fun Ω kx kr => B_slices_IndexFunc_string_string__impl_signFormed_1_L0 N kx kr) (fun Ω g kx kr s => by kernel_rfl), trivial⟩ (by kernel_rfl) (fun a => by kernel_rfl)

/-- slices.ContainsFunc[[]string,string] -/
def x_slices_ContainsFunc_string_string__impl_signFormed_1 (N : Nat) (a0 : (List ByteArray)) : Option Bool :=
  (x_slices_IndexFunc_string_string__impl_signFormed_1 N a0).bind fun r1 => some (decide ((0 : Int) ≤ r1))
abbrev ct_slices_ContainsFunc_string_string__impl_signFormed_1 (N : Nat) : CT := ⟨163, (.pr (.d (.sl .tx)) (.fn 162 .un)), (.t .bl), fun a => x_slices_ContainsFunc_string_string__impl_signFormed_1 N a.1⟩
theorem c_slices_ContainsFunc_string_string__impl_signFormed_1 (N : Nat) : CTok Try.prog (ct_slices_ContainsFunc_string_string__impl_signFormed_1 N) :=
  CT_ok (Γ := [.c (ct_slices_IndexFunc_string_string__impl_signFormed_1 N)]) (Θ := []) (Λ := ([] : List (LC (DenR (.t .bl))))) (by kernel_rfl) mixed ⟨c_slices_IndexFunc_string_string__impl_signFormed_1 N, trivial⟩ (by kernel_rfl)
    trivial (by kernel_rfl) (fun a => by kernel_rfl)

/-- loop.example/g00474/impl.signFormed -/
def x_impl_signFormed (N : Nat) (a0 : (Den tSignature)) : Option Bool :=
  (x_impl_in N a0.1 (0 : Int) (3 : Int)).bind fun r1 => (bif r1 then (bif (decide ((a0.2.1.length : Int) = (11 : Int))) then (bif (decide ((a0.2.2.length : Int) = (2 : Int))) then (x_slices_ContainsFunc_string_string__impl_signFormed_1 N a0.2.1).bind fun r2 => (bif (!r2) then (x_slices_ContainsFunc_string_string__impl_signFormed_1 N a0.2.2).bind fun r3 => some (!r3) else some false) else some false) else some false) else some false)
abbrev ct_impl_signFormed (N : Nat) : CT := ⟨90, (.d tSignature), (.t .bl), fun a => x_impl_signFormed N a⟩
theorem c_impl_signFormed (N : Nat) : CTok Try.prog (ct_impl_signFormed N) :=
  CT_ok (Γ := [.c (ct_impl_in N), .c (ct_slices_ContainsFunc_string_string__impl_signFormed_1 N)]) (Θ := []) (Λ := ([] : List (LC (DenR (.t .bl))))) (by kernel_rfl) mixed ⟨c_impl_in N, ⟨c_slices_ContainsFunc_string_string__impl_signFormed_1 N, trivial⟩⟩ (by kernel_rfl)
    trivial (by kernel_rfl) (fun a => by kernel_rfl)

/-- a round -/
def B_impl_varText_L0 (N : Nat) {Ω : Type} (kx : DenS (.pr (.d 0 I) (.o 3 (.i .u8))) → Option Ω) (kr : ByteArray → Option Ω) (rec_ : DenS (.pr (.d 0 I) (.o 3 (.i .u8))) → Option Ω) : DenS (.pr (.d 0 I) (.o 3 (.i .u8))) → Option Ω := fun (s0, s3) =>
  (bif (decide ((127 : Int) < s0)) then (bif (decide ((s3.length + [((orI .i64 (andI .i64 s0 (127 : Int)) (128 : Int)) % 256)].length) * 1 ≤ 140737488355328)) then rec_ ((shrI .i64 s0 (7 : Int)), (s3 ++ [((orI .i64 (andI .i64 s0 (127 : Int)) (128 : Int)) % 256)])) else none) else kx (s0, s3))
/-- loop.example/g00474/impl.varText -/
def x_impl_varText (N : Nat) (a0 : Int) : Option ByteArray :=
  iter (B_impl_varText_L0 N (fun (x1, x2) => (bif (decide ((x2.length + [(x1 % 256)].length) * 1 ≤ 140737488355328)) then some (txt (x2 ++ [(x1 % 256)])) else none)) (fun ρ3 => some (ρ3))) N (a0, [])
abbrev ct_impl_varText (N : Nat) : CT := ⟨92, (.d I), (.t .tx), fun a => x_impl_varText N a⟩
theorem c_impl_varText (N : Nat) : CTok Try.prog (ct_impl_varText N) :=
  CT_ok (Γ := []) (Θ := [(4, (.i .u8)), (12, (.i .u8)), (19, (.i .u8))]) (Λ := ([⟨0, 0, (.pr (.d 0 I) (.o 3 (.i .u8))), (.pr (.d 0 I) (.o 3 (.i .u8))), fun {Ω} kx kr => iter (B_impl_varText_L0 N kx kr) N⟩] : List (LC (DenR (.t .tx))))) (by kernel_rfl) mixed trivial (by kernel_rfl)
    ⟨LoopEq.mk N (fun Ω kx kr => B_impl_varText_L0 N kx kr) (fun Ω g kx kr s => by kernel_rfl), trivial⟩ (by kernel_rfl) (fun a => by kernel_rfl)

/-- a round -/
def B_impl_CredText_L0 (N : Nat) {Ω : Type} (kx : DenS (.d 3 .tx) → Option Ω) (kr : ByteArray → Option Ω) (rec_ : DenS (.pr (.d 3 .tx) (.pr (.d 35 (.sl I)) (.pr (.d 36 I) (.d 37 I)))) → Option Ω) : DenS (.pr (.d 3 .tx) (.pr (.d 35 (.sl I)) (.pr (.d 36 I) (.d 37 I)))) → Option Ω := fun (s3, s35, s36, s37) =>
  (bif (decide (s37 < s36)) then (bif (decide (0 ≤ s37) && decide (s37 < s35.length)) then (x_impl_varText N (s35.getD s37.toNat (0 : Int))).bind fun r2 => (bif (decide (s3.size + r2.size ≤ 4611686018427387904)) then rec_ ((s3 ++ r2), s35, s36, (wrap64 (s37 + (1 : Int)))) else none) else none) else kx s3)
/-- loop.example/g00474/impl.CredText -/
def x_impl_CredText (N : Nat) (a0 : (Den tCred)) : Option ByteArray :=
  (x_impl_CredOk N a0).bind fun r1 => (bif (!r1) then some ByteArray.empty else iter (B_impl_CredText_L0 N (fun x3 => some x3) (fun ρ4 => some (ρ4))) N (ByteArray.empty, [a0.1, a0.2.1.1, a0.2.1.2, a0.2.2.1, a0.2.2.2.1.1, a0.2.2.2.1.2, a0.2.2.2.2.1.1, a0.2.2.2.2.1.2, a0.2.2.2.2.2.1, a0.2.2.2.2.2.2], ([a0.1, a0.2.1.1, a0.2.1.2, a0.2.2.1, a0.2.2.2.1.1, a0.2.2.2.1.2, a0.2.2.2.2.1.1, a0.2.2.2.2.1.2, a0.2.2.2.2.2.1, a0.2.2.2.2.2.2].length : Int), (0 : Int)))
abbrev ct_impl_CredText (N : Nat) : CT := ⟨91, (.d tCred), (.t .tx), fun a => x_impl_CredText N a⟩
theorem c_impl_CredText (N : Nat) : CTok Try.prog (ct_impl_CredText N) :=
  CT_ok (Γ := [.c (ct_impl_CredOk N), .c (ct_impl_varText N)]) (Θ := [(35, I)]) (Λ := ([⟨0, 0, (.pr (.d 3 .tx) (.pr (.d 35 (.sl I)) (.pr (.d 36 I) (.d 37 I)))), (.d 3 .tx), fun {Ω} kx kr => iter (B_impl_CredText_L0 N kx kr) N⟩] : List (LC (DenR (.t .tx))))) (by kernel_rfl) mixed ⟨c_impl_CredOk N, ⟨c_impl_varText N, trivial⟩⟩ (by kernel_rfl)
    ⟨LoopEq.mk N (fun Ω kx kr => B_impl_CredText_L0 N kx kr) (fun Ω g kx kr s => by kernel_rfl), trivial⟩ (by kernel_rfl) (fun a => by kernel_rfl)

/-- a round -/
def B_impl_VouchedText_L0 (N : Nat) {Ω : Type} (kx : DenS (.d 4 .tx) → Option Ω) (kr : ByteArray → Option Ω) (rec_ : DenS (.pr (.d 4 .tx) (.pr (.d 37 (.sl .tx)) (.pr (.d 38 I) (.d 39 I)))) → Option Ω) : DenS (.pr (.d 4 .tx) (.pr (.d 37 (.sl .tx)) (.pr (.d 38 I) (.d 39 I)))) → Option Ω := fun (s4, s37, s38, s39) =>
  (bif (decide (s39 < s38)) then (bif (decide (0 ≤ s39) && decide (s39 < s37.length)) then (x_impl_varText N ((s37.getD s39.toNat ByteArray.empty).size : Int)).bind fun r7 => (bif (decide (r7.size + (s37.getD s39.toNat ByteArray.empty).size ≤ 4611686018427387904)) then (bif (decide (s4.size + (r7 ++ (s37.getD s39.toNat ByteArray.empty)).size ≤ 4611686018427387904)) then rec_ ((s4 ++ (r7 ++ (s37.getD s39.toNat ByteArray.empty))), s37, s38, (wrap64 (s39 + (1 : Int)))) else none) else none) else none) else kx s4)
/-- loop.example/g00474/impl.VouchedText -/
def x_impl_VouchedText (N : Nat) (a0 : (Den tVouched)) : Option ByteArray :=
  (x_impl_CredOk N a0.1).bind fun r1 => (bif (!r1) then some ByteArray.empty else (x_impl_signFormed N a0.2).bind fun r2 => (bif (!r2) then some ByteArray.empty else (x_impl_CredText N a0.1).bind fun r3 => (x_impl_varText N (r3.size : Int)).bind fun r4 => (bif (decide (r4.size + r3.size ≤ 4611686018427387904)) then (x_impl_varText N a0.2.1).bind fun r5 => (bif (decide ((r4 ++ r3).size + r5.size ≤ 4611686018427387904)) then (x_slices_Clone_string_string N a0.2.2.1).bind fun r6 => (bif (decide ((r6.length + a0.2.2.2.length) * 16 ≤ 140737488355328)) then iter (B_impl_VouchedText_L0 N (fun x8 => some x8) (fun ρ9 => some (ρ9))) N (((r4 ++ r3) ++ r5), (r6 ++ a0.2.2.2), ((r6 ++ a0.2.2.2).length : Int), (0 : Int)) else none) else none) else none)))
abbrev ct_impl_VouchedText (N : Nat) : CT := ⟨34, (.d tVouched), (.t .tx), fun a => x_impl_VouchedText N a⟩
theorem c_impl_VouchedText (N : Nat) : CTok Try.prog (ct_impl_VouchedText N) :=
  CT_ok (Γ := [.c (ct_impl_CredOk N), .c (ct_impl_signFormed N), .c (ct_impl_CredText N), .c (ct_impl_varText N), .c (ct_slices_Clone_string_string N)]) (Θ := []) (Λ := ([⟨0, 0, (.pr (.d 4 .tx) (.pr (.d 37 (.sl .tx)) (.pr (.d 38 I) (.d 39 I)))), (.d 4 .tx), fun {Ω} kx kr => iter (B_impl_VouchedText_L0 N kx kr) N⟩] : List (LC (DenR (.t .tx))))) (by kernel_rfl) mixed ⟨c_impl_CredOk N, ⟨c_impl_signFormed N, ⟨c_impl_CredText N, ⟨c_impl_varText N, ⟨c_slices_Clone_string_string N, trivial⟩⟩⟩⟩⟩ (by kernel_rfl)
    ⟨LoopEq.mk N (fun Ω kx kr => B_impl_VouchedText_L0 N kx kr) (fun Ω g kx kr s => by kernel_rfl), trivial⟩ (by kernel_rfl) (fun a => by kernel_rfl)

/-- a round -/
def B_impl_ReadVouched_L0 (N : Nat) {Ω : Type} (kx : DenS (.pr (.d 0 .tx) (.pr (.bx 2 tVouched) (.pr (.bx 7 tCred) (.pr (.d 9 I) (.o 11 .tx))))) → Option Ω) (kr : ((Den tVouched) × Bool) → Option Ω) (rec_ : DenS (.pr (.d 0 .tx) (.pr (.bx 2 tVouched) (.pr (.d 5 I) (.pr (.bx 7 tCred) (.pr (.d 9 I) (.pr (.o 11 .tx) (.d 46 I))))))) → Option Ω) : DenS (.pr (.d 0 .tx) (.pr (.bx 2 tVouched) (.pr (.d 5 I) (.pr (.bx 7 tCred) (.pr (.d 9 I) (.pr (.o 11 .tx) (.d 46 I))))))) → Option Ω := fun (s0, s2, s5, s7, s9, s11, s46) =>
  (bif (decide (s46 < (13 : Int))) then (x_impl_ReadShort N s0 s5).bind fun r4 => (bif (!r4.2.2) then kr ((((0 : Int), ((0 : Int), (0 : Int)), (0 : Int), ((0 : Int), (0 : Int)), ((0 : Int), (0 : Int)), (0 : Int), (0 : Int)), (0 : Int), [], []), false) else (bif (decide ((s11.length + [r4.1].length) * 16 ≤ 140737488355328)) then rec_ (s0, s2, r4.2.1, s7, s9, (s11 ++ [r4.1]), (wrap64 (s46 + (1 : Int)))) else none)) else kx (s0, s2, s7, s9, s11))
/-- loop.example/g00474/impl.ReadVouched -/
def x_impl_ReadVouched (N : Nat) (a0 : ByteArray) : Option ((Den tVouched) × Bool) :=
  (x_impl_ReadShort N a0 (0 : Int)).bind fun r1 => (x_impl_ReadCred N r1.1).bind fun r2 => (x_impl_ReadVar N a0 r1.2.1).bind fun r3 => (bif (!r1.2.2) then some ((((0 : Int), ((0 : Int), (0 : Int)), (0 : Int), ((0 : Int), (0 : Int)), ((0 : Int), (0 : Int)), (0 : Int), (0 : Int)), (0 : Int), [], []), false) else (bif (!r2.2) then some ((((0 : Int), ((0 : Int), (0 : Int)), (0 : Int), ((0 : Int), (0 : Int)), ((0 : Int), (0 : Int)), (0 : Int), (0 : Int)), (0 : Int), [], []), false) else (bif (!r3.2.2) then some ((((0 : Int), ((0 : Int), (0 : Int)), (0 : Int), ((0 : Int), (0 : Int)), ((0 : Int), (0 : Int)), (0 : Int), (0 : Int)), (0 : Int), [], []), false) else iter (B_impl_ReadVouched_L0 N (fun (x5, x6, x7, x8, x9) => (bif (inB (0 : Int) (11 : Int) (x9.length : Int)) then (bif (inB (11 : Int) (x9.length : Int) (x9.length : Int)) then agree ((x_slices_Clone_string_string N ((x9.drop ((0 : Int).toNat)).take ((11 : Int).toNat - (0 : Int).toNat))).bind fun r10 => agree ((x_slices_Clone_string_string N ((x9.drop ((11 : Int).toNat)).take ((x9.length : Int).toNat - (11 : Int).toNat))).bind fun r11 => (x_impl_VouchedText N (x7, x8, r10, r11)).bind fun r12 => (bif (!decide (r12 = x5)) then some ((((0 : Int), ((0 : Int), (0 : Int)), (0 : Int), ((0 : Int), (0 : Int)), ((0 : Int), (0 : Int)), (0 : Int), (0 : Int)), (0 : Int), [], []), false) else some ((x7, x8, r10, r11), true))) ((x_slices_Clone_string_string N ((x9.drop ((11 : Int).toNat)).take ((x9.length : Int).toNat - (11 : Int).toNat))).bind fun r13 => (x_impl_VouchedText N (x7, x8, r10, r13)).bind fun r14 => (bif (!decide (r14 = x5)) then some ((((0 : Int), ((0 : Int), (0 : Int)), (0 : Int), ((0 : Int), (0 : Int)), ((0 : Int), (0 : Int)), (0 : Int), (0 : Int)), (0 : Int), [], []), false) else some ((x7, x8, r10, r13), true)))) ((x_slices_Clone_string_string N ((x9.drop ((0 : Int).toNat)).take ((11 : Int).toNat - (0 : Int).toNat))).bind fun r15 => (x_slices_Clone_string_string N ((x9.drop ((11 : Int).toNat)).take ((x9.length : Int).toNat - (11 : Int).toNat))).bind fun r16 => (x_impl_VouchedText N (x7, x8, r15, r16)).bind fun r17 => (bif (!decide (r17 = x5)) then some ((((0 : Int), ((0 : Int), (0 : Int)), (0 : Int), ((0 : Int), (0 : Int)), ((0 : Int), (0 : Int)), (0 : Int), (0 : Int)), (0 : Int), [], []), false) else some ((x7, x8, r15, r16), true))) else none) else none)) (fun ρ18 => some (ρ18))) N (a0, (((0 : Int), ((0 : Int), (0 : Int)), (0 : Int), ((0 : Int), (0 : Int)), ((0 : Int), (0 : Int)), (0 : Int), (0 : Int)), (0 : Int), [], []), r3.2.1, r2.1, r3.1, [], (0 : Int)))))
abbrev ct_impl_ReadVouched (N : Nat) : CT := ⟨37, (.d .tx), (.pr (.t tVouched) (.t .bl)), fun a => x_impl_ReadVouched N a⟩
theorem c_impl_ReadVouched (N : Nat) : CTok Try.prog (ct_impl_ReadVouched N) :=
  CT_ok (Γ := [.c (ct_impl_ReadShort N), .c (ct_impl_ReadCred N), .c (ct_impl_ReadVar N), .c (ct_slices_Clone_string_string N), .c (ct_impl_VouchedText N)]) (Θ := [(45, .tx), (60, .tx)]) (Λ := ([⟨0, 0, (.pr (.d 0 .tx) (.pr (.bx 2 tVouched) (.pr (.d 5 I) (.pr (.bx 7 tCred) (.pr (.d 9 I) (.pr (.o 11 .tx) (.d 46 I))))))), (.pr (.d 0 .tx) (.pr (.bx 2 tVouched) (.pr (.bx 7 tCred) (.pr (.d 9 I) (.o 11 .tx))))), fun {Ω} kx kr => iter (B_impl_ReadVouched_L0 N kx kr) N⟩] : List (LC (DenR (.pr (.t tVouched) (.t .bl)))))) (by kernel_rfl) mixed ⟨c_impl_ReadShort N, ⟨c_impl_ReadCred N, ⟨c_impl_ReadVar N, ⟨c_slices_Clone_string_string N, ⟨c_impl_VouchedText N, trivial⟩⟩⟩⟩⟩ (by kernel_rfl)
    ⟨LoopEq.mk N (fun Ω kx kr => B_impl_ReadVouched_L0 N kx kr) (fun Ω g kx kr s => by kernel_rfl), trivial⟩ (by kernel_rfl) (fun a => by kernel_rfl)

/-- loop.example/g00474/laws.eqRole -/
def x_laws_eqRole (N : Nat) (a0 : (Den tRole)) (a1 : (Den tRole)) : Option Bool :=
  (bif (!decide (a0.1 = a1.1)) then some false else (bif (!decide (a0.2 = a1.2)) then some false else some true))
abbrev ct_laws_eqRole (N : Nat) : CT := ⟨149, (.pr (.d tRole) (.d tRole)), (.t .bl), fun a => x_laws_eqRole N a.1 a.2⟩
theorem c_laws_eqRole (N : Nat) : CTok Try.prog (ct_laws_eqRole N) :=
  CT_ok (Γ := []) (Θ := []) (Λ := ([] : List (LC (DenR (.t .bl))))) (by kernel_rfl) mixed trivial (by kernel_rfl)
    trivial (by kernel_rfl) (fun a => by kernel_rfl)

/-- loop.example/g00474/laws.eqCred -/
def x_laws_eqCred (N : Nat) (a0 : (Den tCred)) (a1 : (Den tCred)) : Option Bool :=
  (bif (!decide (a0.1 = a1.1)) then some false else (x_laws_eqRole N a0.2.1 a1.2.1).bind fun r1 => (bif (!r1) then some false else (bif (!decide (a0.2.2.1 = a1.2.2.1)) then some false else (x_laws_eqRole N a0.2.2.2.1 a1.2.2.2.1).bind fun r2 => (bif (!r2) then some false else (x_laws_eqRole N a0.2.2.2.2.1 a1.2.2.2.2.1).bind fun r3 => (bif (!r3) then some false else (bif (!decide (a0.2.2.2.2.2.1 = a1.2.2.2.2.2.1)) then some false else (bif (!decide (a0.2.2.2.2.2.2 = a1.2.2.2.2.2.2)) then some false else some true)))))))
abbrev ct_laws_eqCred (N : Nat) : CT := ⟨73, (.pr (.d tCred) (.d tCred)), (.t .bl), fun a => x_laws_eqCred N a.1 a.2⟩
theorem c_laws_eqCred (N : Nat) : CTok Try.prog (ct_laws_eqCred N) :=
  CT_ok (Γ := [.c (ct_laws_eqRole N)]) (Θ := []) (Λ := ([] : List (LC (DenR (.t .bl))))) (by kernel_rfl) mixed ⟨c_laws_eqRole N, trivial⟩ (by kernel_rfl)
    trivial (by kernel_rfl) (fun a => by kernel_rfl)

/-- a round -/
def B_laws_eqStringS_L0 (N : Nat) {Ω : Type} (kx : DenS .un → Option Ω) (kr : Bool → Option Ω) (rec_ : DenS (.pr (.d 0 (.sl .tx)) (.pr (.d 1 (.sl .tx)) (.d 5 I))) → Option Ω) : DenS (.pr (.d 0 (.sl .tx)) (.pr (.d 1 (.sl .tx)) (.d 5 I))) → Option Ω := fun (s0, s1, s5) =>
  (bif (decide (s5 < (s0.length : Int))) then (bif (decide (0 ≤ s5) && decide (s5 < s0.length)) then (bif (decide (0 ≤ s5) && decide (s5 < s1.length)) then (bif (!decide ((s0.getD s5.toNat ByteArray.empty) = (s1.getD s5.toNat ByteArray.empty))) then kr false else rec_ (s0, s1, (wrap64 (s5 + (1 : Int))))) else none) else none) else kx ())
/-- loop.example/g00474/laws.eqStringS -/
def x_laws_eqStringS (N : Nat) (a0 : (List ByteArray)) (a1 : (List ByteArray)) : Option Bool :=
  (bif (!decide ((a0.length : Int) = (a1.length : Int))) then some false else iter (B_laws_eqStringS_L0 N (fun _ => some true) (fun ρ1 => some (ρ1))) N (a0, a1, (0 : Int)))
abbrev ct_laws_eqStringS (N : Nat) : CT := ⟨164, (.pr (.d (.sl .tx)) (.d (.sl .tx))), (.t .bl), fun a => x_laws_eqStringS N a.1 a.2⟩
theorem c_laws_eqStringS (N : Nat) : CTok Try.prog (ct_laws_eqStringS N) :=
  CT_ok (Γ := []) (Θ := []) (Λ := ([⟨0, 0, (.pr (.d 0 (.sl .tx)) (.pr (.d 1 (.sl .tx)) (.d 5 I))), .un, fun {Ω} kx kr => iter (B_laws_eqStringS_L0 N kx kr) N⟩] : List (LC (DenR (.t .bl))))) (by kernel_rfl) mixed trivial (by kernel_rfl)
    ⟨LoopEq.mk N (fun Ω kx kr => B_laws_eqStringS_L0 N kx kr) (fun Ω g kx kr s => by kernel_rfl), trivial⟩ (by kernel_rfl) (fun a => by kernel_rfl)

/-- loop.example/g00474/laws.eqSignature -/
def x_laws_eqSignature (N : Nat) (a0 : (Den tSignature)) (a1 : (Den tSignature)) : Option Bool :=
  (bif (!decide (a0.1 = a1.1)) then some false else (x_laws_eqStringS N a0.2.1 a1.2.1).bind fun r1 => (bif (!r1) then some false else (x_laws_eqStringS N a0.2.2 a1.2.2).bind fun r2 => (bif (!r2) then some false else some true)))
abbrev ct_laws_eqSignature (N : Nat) : CT := ⟨94, (.pr (.d tSignature) (.d tSignature)), (.t .bl), fun a => x_laws_eqSignature N a.1 a.2⟩
theorem c_laws_eqSignature (N : Nat) : CTok Try.prog (ct_laws_eqSignature N) :=
  CT_ok (Γ := [.c (ct_laws_eqStringS N)]) (Θ := []) (Λ := ([] : List (LC (DenR (.t .bl))))) (by kernel_rfl) mixed ⟨c_laws_eqStringS N, trivial⟩ (by kernel_rfl)
    trivial (by kernel_rfl) (fun a => by kernel_rfl)

/-- loop.example/g00474/laws.eqVouched -/
def x_laws_eqVouched (N : Nat) (a0 : (Den tVouched)) (a1 : (Den tVouched)) : Option Bool :=
  (x_laws_eqCred N a0.1 a1.1).bind fun r1 => (bif (!r1) then some false else (x_laws_eqSignature N a0.2 a1.2).bind fun r2 => (bif (!r2) then some false else some true))
abbrev ct_laws_eqVouched (N : Nat) : CT := ⟨35, (.pr (.d tVouched) (.d tVouched)), (.t .bl), fun a => x_laws_eqVouched N a.1 a.2⟩
theorem c_laws_eqVouched (N : Nat) : CTok Try.prog (ct_laws_eqVouched N) :=
  CT_ok (Γ := [.c (ct_laws_eqCred N), .c (ct_laws_eqSignature N)]) (Θ := []) (Λ := ([] : List (LC (DenR (.t .bl))))) (by kernel_rfl) mixed ⟨c_laws_eqCred N, ⟨c_laws_eqSignature N, trivial⟩⟩ (by kernel_rfl)
    trivial (by kernel_rfl) (fun a => by kernel_rfl)

/-- a round -/
def B_laws_markText_L0 (N : Nat) {Ω : Type} (kx : DenS (.d 3 .tx) → Option Ω) (kr : ByteArray → Option Ω) (rec_ : DenS (.pr (.d 0 I) (.d 3 .tx)) → Option Ω) : DenS (.pr (.d 0 I) (.d 3 .tx)) → Option Ω := fun (s0, s3) =>
  (bif (decide ((0 : Int) < s0)) then (bif (decide ((txt [((wrap64 ((48 : Int) + (s0.tmod (10 : Int)))) % 256)]).size + s3.size ≤ 4611686018427387904)) then rec_ ((wrap64 (s0.tdiv (10 : Int))), ((txt [((wrap64 ((48 : Int) + (s0.tmod (10 : Int)))) % 256)]) ++ s3)) else none) else kx s3)
/-- loop.example/g00474/laws.markText -/
def x_laws_markText (N : Nat) (a0 : Int) : Option ByteArray :=
  (bif (decide (a0 ≤ (0 : Int))) then some (⟨#[109, 48]⟩ : ByteArray) else iter (B_laws_markText_L0 N (fun x1 => (bif (decide ((⟨#[109]⟩ : ByteArray).size + x1.size ≤ 4611686018427387904)) then some ((⟨#[109]⟩ : ByteArray) ++ x1) else none)) (fun ρ2 => some (ρ2))) N (a0, ByteArray.empty))
abbrev ct_laws_markText (N : Nat) : CT := ⟨141, (.d I), (.t .tx), fun a => x_laws_markText N a⟩
theorem c_laws_markText (N : Nat) : CTok Try.prog (ct_laws_markText N) :=
  CT_ok (Γ := []) (Θ := [(12, (.i .u8))]) (Λ := ([⟨0, 0, (.pr (.d 0 I) (.d 3 .tx)), (.d 3 .tx), fun {Ω} kx kr => iter (B_laws_markText_L0 N kx kr) N⟩] : List (LC (DenR (.t .tx))))) (by kernel_rfl) mixed trivial (by kernel_rfl)
    ⟨LoopEq.mk N (fun Ω kx kr => B_laws_markText_L0 N kx kr) (fun Ω g kx kr s => by kernel_rfl), trivial⟩ (by kernel_rfl) (fun a => by kernel_rfl)

/-- a round -/
def B_laws_markStringS_L0 (N : Nat) {Ω : Type} (kx : DenS (.pr (.o 0 .tx) (.d 1 I)) → Option Ω) (kr : (Int × DenW (.pr (.o 0 .tx) (.d 1 I))) → Option Ω) (rec_ : DenS (.pr (.o 0 .tx) (.pr (.d 1 I) (.d 5 I))) → Option Ω) : DenS (.pr (.o 0 .tx) (.pr (.d 1 I) (.d 5 I))) → Option Ω := fun (s0, s1, s5) =>
  (bif (decide (s5 < (s0.length : Int))) then (x_laws_markText N s1).bind fun r1 => (bif (decide (0 ≤ s5) && decide (s5 < s0.length)) then rec_ ((s0.set s5.toNat r1), (wrap64 (s1 + (1 : Int))), (wrap64 (s5 + (1 : Int)))) else none) else kx (s0, s1))
/-- loop.example/g00474/laws.markStringS -/
def x_laws_markStringS (N : Nat) (a0 : (List ByteArray)) (a1 : Int) : Option (Int × DenW (.pr (.o 0 .tx) (.d 1 I))) :=
  (iter (B_laws_markStringS_L0 N (fun (x2, x3) => some (x3, x2, ())) (fun ρ4 => some (ρ4))) N (a0, a1, (0 : Int))).bind fun r => bif (Nat.beq a0.length r.2.1.length && true) then some r else none
abbrev cm_laws_markStringS (N : Nat) : CM := ⟨166, (.pr (.o 0 .tx) (.d 1 I)), (.t I), fun a => x_laws_markStringS N a.1 a.2⟩
theorem c_laws_markStringS (N : Nat) : CMok Try.prog (cm_laws_markStringS N) :=
  CM_ok (Γ := [.c (ct_laws_markText N)]) (Θ := []) (Λ := ([⟨0, 1, (.pr (.o 0 .tx) (.pr (.d 1 I) (.d 5 I))), (.pr (.o 0 .tx) (.d 1 I)), fun {Ω} kx kr => iter (B_laws_markStringS_L0 N kx kr) N⟩] : List (LC (DenR (.t I) × DenW (.pr (.o 0 .tx) (.d 1 I)))))) (by kernel_rfl) mixed ⟨c_laws_markText N, trivial⟩ (by kernel_rfl)
    ⟨LoopEq.mk N (fun Ω kx kr => B_laws_markStringS_L0 N kx kr) (fun Ω g kx kr s => by kernel_rfl), trivial⟩ (by kernel_rfl) (fun a => by kernel_rfl)

/-- loop.example/g00474/laws.markSignature -/
def x_laws_markSignature (N : Nat) (a0 : (Den tSignature)) (a1 : Int) : Option (Int × DenW (.pr (.ow 0 tSignature) (.d 1 I))) :=
  ((x_laws_markStringS N a0.2.1 a1).bind fun r1 => (x_laws_markStringS N a0.2.2 r1.1).bind fun r2 => some (r2.1, ((), r1.2.1, r2.2.1), ())).bind fun r => bif ((true && (Nat.beq a0.2.1.length r.2.1.2.1.length && Nat.beq a0.2.2.length r.2.1.2.2.length)) && true) then some r else none
abbrev cm_laws_markSignature (N : Nat) : CM := ⟨102, (.pr (.ow 0 tSignature) (.d 1 I)), (.t I), fun a => x_laws_markSignature N a.1 a.2⟩
theorem c_laws_markSignature (N : Nat) : CMok Try.prog (cm_laws_markSignature N) :=
  CM_ok (Γ := [.m (cm_laws_markStringS N)]) (Θ := []) (Λ := ([] : List (LC (DenR (.t I) × DenW (.pr (.ow 0 tSignature) (.d 1 I)))))) (by kernel_rfl) mixed ⟨c_laws_markStringS N, trivial⟩ (by kernel_rfl)
    trivial (by kernel_rfl) (fun a => by kernel_rfl)

/-- loop.example/g00474/laws.markVouched -/
def x_laws_markVouched (N : Nat) (a0 : (Den tVouched)) (a1 : Int) : Option (Int × DenW (.pr (.ow 0 tVouched) (.d 1 I))) :=
  ((x_laws_markSignature N a0.2 a1).bind fun r1 => some (r1.1, (((), ((), ()), (), ((), ()), ((), ()), (), ()), (), r1.2.1.2.1, r1.2.1.2.2), ())).bind fun r => bif (((true && ((true && true) && (true && ((true && true) && ((true && true) && (true && true)))))) && (true && (Nat.beq a0.2.2.1.length r.2.1.2.2.1.length && Nat.beq a0.2.2.2.length r.2.1.2.2.2.length))) && true) then some r else none
abbrev cm_laws_markVouched (N : Nat) : CM := ⟨38, (.pr (.ow 0 tVouched) (.d 1 I)), (.t I), fun a => x_laws_markVouched N a.1 a.2⟩
theorem c_laws_markVouched (N : Nat) : CMok Try.prog (cm_laws_markVouched N) :=
  CM_ok (Γ := [.m (cm_laws_markSignature N)]) (Θ := []) (Λ := ([] : List (LC (DenR (.t I) × DenW (.pr (.ow 0 tVouched) (.d 1 I)))))) (by kernel_rfl) mixed ⟨c_laws_markSignature N, trivial⟩ (by kernel_rfl)
    trivial (by kernel_rfl) (fun a => by kernel_rfl)

/-- a round -/
def B_laws_heldStringS_L0 (N : Nat) {Ω : Type} (kx : DenS (.d 1 I) → Option Ω) (kr : Int → Option Ω) (rec_ : DenS (.pr (.d 0 (.sl .tx)) (.pr (.d 1 I) (.d 5 I))) → Option Ω) : DenS (.pr (.d 0 (.sl .tx)) (.pr (.d 1 I) (.d 5 I))) → Option Ω := fun (s0, s1, s5) =>
  (bif (decide (s5 < (s0.length : Int))) then (bif (decide (0 ≤ s5) && decide (s5 < s0.length)) then (x_laws_markText N s1).bind fun r1 => (bif (!decide ((s0.getD s5.toNat ByteArray.empty) = r1)) then kr (-1 : Int) else rec_ (s0, (wrap64 (s1 + (1 : Int))), (wrap64 (s5 + (1 : Int))))) else none) else kx s1)
/-- loop.example/g00474/laws.heldStringS -/
def x_laws_heldStringS (N : Nat) (a0 : (List ByteArray)) (a1 : Int) : Option Int :=
  iter (B_laws_heldStringS_L0 N (fun x2 => some x2) (fun ρ3 => some (ρ3))) N (a0, a1, (0 : Int))
abbrev ct_laws_heldStringS (N : Nat) : CT := ⟨167, (.pr (.d (.sl .tx)) (.d I)), (.t I), fun a => x_laws_heldStringS N a.1 a.2⟩
theorem c_laws_heldStringS (N : Nat) : CTok Try.prog (ct_laws_heldStringS N) :=
  CT_ok (Γ := [.c (ct_laws_markText N)]) (Θ := []) (Λ := ([⟨0, 0, (.pr (.d 0 (.sl .tx)) (.pr (.d 1 I) (.d 5 I))), (.d 1 I), fun {Ω} kx kr => iter (B_laws_heldStringS_L0 N kx kr) N⟩] : List (LC (DenR (.t I))))) (by kernel_rfl) mixed ⟨c_laws_markText N, trivial⟩ (by kernel_rfl)
    ⟨LoopEq.mk N (fun Ω kx kr => B_laws_heldStringS_L0 N kx kr) (fun Ω g kx kr s => by kernel_rfl), trivial⟩ (by kernel_rfl) (fun a => by kernel_rfl)

/-- loop.example/g00474/laws.heldSignature -/
def x_laws_heldSignature (N : Nat) (a0 : (Den tSignature)) (a1 : Int) : Option Int :=
  (x_laws_heldStringS N a0.2.1 a1).bind fun r1 => (bif (decide (r1 < (0 : Int))) then some (-1 : Int) else (x_laws_heldStringS N a0.2.2 r1).bind fun r2 => (bif (decide (r2 < (0 : Int))) then some (-1 : Int) else some r2))
abbrev ct_laws_heldSignature (N : Nat) : CT := ⟨103, (.pr (.d tSignature) (.d I)), (.t I), fun a => x_laws_heldSignature N a.1 a.2⟩
theorem c_laws_heldSignature (N : Nat) : CTok Try.prog (ct_laws_heldSignature N) :=
  CT_ok (Γ := [.c (ct_laws_heldStringS N)]) (Θ := []) (Λ := ([] : List (LC (DenR (.t I))))) (by kernel_rfl) mixed ⟨c_laws_heldStringS N, trivial⟩ (by kernel_rfl)
    trivial (by kernel_rfl) (fun a => by kernel_rfl)

/-- loop.example/g00474/laws.heldVouched -/
def x_laws_heldVouched (N : Nat) (a0 : (Den tVouched)) (a1 : Int) : Option Int :=
  (x_laws_heldSignature N a0.2 a1).bind fun r1 => (bif (decide (r1 < (0 : Int))) then some (-1 : Int) else some r1)
abbrev ct_laws_heldVouched (N : Nat) : CT := ⟨39, (.pr (.d tVouched) (.d I)), (.t I), fun a => x_laws_heldVouched N a.1 a.2⟩
theorem c_laws_heldVouched (N : Nat) : CTok Try.prog (ct_laws_heldVouched N) :=
  CT_ok (Γ := [.c (ct_laws_heldSignature N)]) (Θ := []) (Λ := ([] : List (LC (DenR (.t I))))) (by kernel_rfl) mixed ⟨c_laws_heldSignature N, trivial⟩ (by kernel_rfl)
    trivial (by kernel_rfl) (fun a => by kernel_rfl)

/-- loop.example/g00474/laws.FnExactReadVouched -/
def x_laws_FnExactReadVouched (N : Nat) (a0 : ByteArray) : Option Bool :=
  (bif (decide ((1048576 : Int) < (a0.size : Int))) then some true else (x_spec_ReadVouched N a0).bind fun r1 => (x_impl_ReadVouched N a0).bind fun r2 => (x_laws_eqVouched N r2.1 r1.1).bind fun r3 => (bif (!r3) then some false else (bif (!(r2.2 == r1.2)) then some false else (x_laws_markVouched N r2.1 (1 : Int)).bind fun r4 => (x_laws_heldVouched N (r2.1.1, r2.1.2.1, r4.2.1.2.2) (1 : Int)).bind fun r5 => (bif (decide (r5 < (0 : Int))) then some false else (bif (!decide (r5 = r4.1)) then some false else (x_impl_ReadVouched N a0).bind fun r6 => (x_laws_eqVouched N r6.1 r1.1).bind fun r7 => (bif (!r7) then some false else (bif (!(r6.2 == r1.2)) then some false else (x_laws_heldVouched N (r2.1.1, r2.1.2.1, r4.2.1.2.2) (1 : Int)).bind fun r8 => (bif (decide (r8 < (0 : Int))) then some false else (bif (!decide (r8 = r4.1)) then some false else some true)))))))))
abbrev ct_laws_FnExactReadVouched (N : Nat) : CT := ⟨6, (.d .tx), (.t .bl), fun a => x_laws_FnExactReadVouched N a⟩
theorem c_laws_FnExactReadVouched (N : Nat) : CTok Try.prog (ct_laws_FnExactReadVouched N) :=
  CT_ok (Γ := [.c (ct_spec_ReadVouched N), .c (ct_impl_ReadVouched N), .c (ct_laws_eqVouched N), .m (cm_laws_markVouched N), .c (ct_laws_heldVouched N)]) (Θ := []) (Λ := ([] : List (LC (DenR (.t .bl))))) (by kernel_rfl) mixed ⟨c_spec_ReadVouched N, ⟨c_impl_ReadVouched N, ⟨c_laws_eqVouched N, ⟨c_laws_markVouched N, ⟨c_laws_heldVouched N, trivial⟩⟩⟩⟩⟩ (by kernel_rfl)
    trivial (by kernel_rfl) (fun a => by kernel_rfl)

end
end Go.Proofs.Ytcmlapepofgkpaa.C
