/- The data that the two functions compute are alike, for all arguments that memory can hold. -/
import Derived.Test.YtcmlapepofgkpaaHFnExactVouchedText
set_option linter.unusedVariables false
set_option linter.unusedSimpArgs false
namespace Go.Proofs.Ytcmlapepofgkpaa.C
open Go Go.Proofs.Ytcmlapepofgkpaa.Nx Go.RowKit
theorem bind_sz {w : Int} {g : Int → Option Int} : ((bif decide (w < 0) then some (-1 : Int) else some w).bind fun r1 => bif decide (r1 < 0) then some (-1) else g r1) = bif decide (w < 0) then some (-1) else g w := by
  cases h : decide (w < 0) <;> simp [h]
theorem sz_StringS {N : Nat} (hN : Big N) (x : Den (.sl .tx)) (g : good (.sl .tx) x) : SzOk (x_laws_szStringS N x) (okz (.sl .tx) x) :=
  sz_rows g (f := fun y a => bif decide (wrap64 (a - (y.size : Int)) < 0) then some (-1) else some (wrap64 (a - (y.size : Int)))) (fun y gy => SzOk.len gy) hN (d := ByteArray.empty) (fun _ _ _ _ => by show _ = (bif _ then (bif _ then (Option.bind (bif _ then _ else _) _) else _) else _); rw [bind_sz]; rfl)
theorem sz_Signature {N : Nat} (hN : Big N) (x : Den tSignature) (g : good tSignature x) : SzOk (x_laws_szSignature N x) (okz tSignature x) :=
  (SzOk.bind (sz_StringS hN _ g.2.1) (SzOk.last (sz_StringS hN _ g.2.2))).mono fun h => by
    obtain ⟨h0, h1⟩ := h; repeat' (first | exact trivial | assumption | refine And.intro ?_ ?_)
theorem sz_Vouched {N : Nat} (hN : Big N) (x : Den tVouched) (g : good tVouched x) : SzOk (x_laws_szVouched N x) (okz tVouched x) :=
  (SzOk.last (sz_Signature hN _ g.2)).mono fun h => by
    repeat' (first | exact trivial | assumption | refine And.intro ?_ ?_)
theorem to_Role {N : Nat} (hN : Big N) (x : Den tRole) (h : okz tRole x) : x_laws_toRole N x = some x := rfl
theorem to_Cred {N : Nat} (hN : Big N) (x : Den tCred) (h : okz tCred x) : x_laws_toCred N x = some x := by
  unfold x_laws_toCred
  simp only [to_Role hN _ h.2.1, to_Role hN _ h.2.2.2.1, to_Role hN _ h.2.2.2.2.1, Option.bind_some] <;> rfl
theorem to_StringS {N : Nat} (hN : Big N) (x : Den (.sl .tx)) (h : okz (.sl .tx) x) : x_laws_toStringS N x = some x :=
  to_rows h (f := fun y => some y) (fun y hy => rfl) hN (by decide) (fun _ _ _ _ => rfl)
theorem to_Signature {N : Nat} (hN : Big N) (x : Den tSignature) (h : okz tSignature x) : x_laws_toSignature N x = some x := by
  unfold x_laws_toSignature
  simp only [to_StringS hN _ h.2.1, to_StringS hN _ h.2.2, Option.bind_some] <;> rfl
theorem to_Vouched {N : Nat} (hN : Big N) (x : Den tVouched) (h : okz tVouched x) : x_laws_toVouched N x = some x := by
  unfold x_laws_toVouched
  simp only [to_Cred hN _ h.1, to_Signature hN _ h.2, Option.bind_some] <;> rfl
theorem eq_Role {N : Nat} (hN : Big N) (x : Den tRole) (h : okz tRole x) : x_laws_eqRole N x x = some true := by
  unfold x_laws_eqRole
  simp
theorem eq_Cred {N : Nat} (hN : Big N) (x : Den tCred) (h : okz tCred x) : x_laws_eqCred N x x = some true := by
  unfold x_laws_eqCred
  simp [eq_Role hN _ h.2.1, eq_Role hN _ h.2.2.2.1, eq_Role hN _ h.2.2.2.2.1]
theorem eq_StringS {N : Nat} (hN : Big N) (x : Den (.sl .tx)) (h : okz (.sl .tx) x) : x_laws_eqStringS N x x = some true :=
  eq_rows h (f := fun y z => some (decide (y = z))) (fun y hy => by simp) hN (fun _ _ _ _ => rfl)
theorem eq_Signature {N : Nat} (hN : Big N) (x : Den tSignature) (h : okz tSignature x) : x_laws_eqSignature N x x = some true := by
  unfold x_laws_eqSignature
  simp [eq_StringS hN _ h.2.1, eq_StringS hN _ h.2.2]
theorem eq_Vouched {N : Nat} (hN : Big N) (x : Den tVouched) (h : okz tVouched x) : x_laws_eqVouched N x x = some true := by
  unfold x_laws_eqVouched
  simp [eq_Cred hN _ h.1, eq_Signature hN _ h.2]
end Go.Proofs.Ytcmlapepofgkpaa.C

namespace Go.Proofs.Ytcmlapepofgkpaa.C
open Go Go.Proofs.Ytcmlapepofgkpaa.Nx Go.RowKit
set_option linter.unusedVariables false
set_option linter.unusedSimpArgs false

theorem peta {α β : Type} (p : α × β) : (p.1, p.2) = p := rfl

def inR (n a b : Int) : Bool := decide (a ≤ n) && decide (n ≤ b)
theorem in_eq (N : Nat) (n a b : Int) : x_impl_in N n a b = some (inR n a b) := by
  unfold x_impl_in inR
  cases decide (a ≤ n) <;> rfl
theorem l01In_eq (N : Nat) (n a b : Int) : x_spec_l01In N n a b = some (inR n a b) := by
  unfold x_spec_l01In inR
  cases decide (a ≤ n) <;> rfl
end Go.Proofs.Ytcmlapepofgkpaa.C

namespace Go.Proofs.Ytcmlapepofgkpaa.C
open Go Go.Proofs.Ytcmlapepofgkpaa.Nx Go.RowKit
set_option linter.unusedVariables false
set_option linter.unusedSimpArgs false

def roleOk (r : Den tRole) : Bool := inR r.1 0 5 && inR r.2 0 3

theorem roleOk_i (N : Nat) (r : Den tRole) : x_impl_RoleOk N r = some (roleOk r) := by
  unfold x_impl_RoleOk roleOk
  simp only [in_eq, Option.bind_some]
  cases inR r.1 0 5 <;> rfl
theorem roleOk_s (N : Nat) (r : Den tRole) : x_spec_RoleOk N r = some (roleOk r) := by
  unfold x_spec_RoleOk roleOk
  simp only [l01In_eq, Option.bind_some]
  cases inR r.1 0 5 <;> rfl
theorem isPerson_i (N : Nat) (n : Int) : x_impl_isPerson N n = some (inR n 0 5) := by
  unfold x_impl_isPerson
  simp only [in_eq, Option.bind_some]

/-- Words that are right. -/
def credOk (c : Den tCred) : Bool :=
  roleOk c.2.1 && (inR c.2.2.2.2.2.1 1 9999 && (inR c.2.2.2.2.2.2 0 99 &&
  (bif decide (c.1 = 1) then inR c.2.2.1 0 5 && ((decide (c.2.2.2.1.1 = 0) && decide (c.2.2.2.1.2 = 0)) && (decide (c.2.2.2.2.1.1 = 0) && decide (c.2.2.2.2.1.2 = 0)))
   else bif decide (c.1 = 2) then decide (c.2.2.1 = 0) && (roleOk c.2.2.2.1 && (decide (c.2.2.2.2.1.1 = 0) && decide (c.2.2.2.2.1.2 = 0)))
   else bif decide (c.1 = 3) then decide (c.2.2.1 = 0) && (roleOk c.2.2.2.1 && (roleOk c.2.2.2.2.1 && decide (c.2.2.2.2.1.1 = 0)))
   else bif decide (c.1 = 4) then decide (c.2.2.1 = 0) && (roleOk c.2.2.2.1 && roleOk c.2.2.2.2.1)
   else false)))

theorem credOk_i (N : Nat) (c : Den tCred) : x_impl_CredOk N c = some (credOk c) := by
  unfold x_impl_CredOk credOk
  simp only [in_eq, roleOk_i, isPerson_i, Option.bind_some]
  generalize roleOk c.2.1 = a1
  generalize inR c.2.2.2.2.2.1 1 9999 = a2
  generalize inR c.2.2.2.2.2.2 0 99 = a3
  generalize inR c.2.2.1 0 5 = a4
  generalize decide (c.1 = 1) = b1
  generalize decide (c.1 = 2) = b2
  generalize decide (c.1 = 3) = b3
  generalize decide (c.1 = 4) = b4
  generalize decide (c.2.2.1 = 0) = d1
  generalize roleOk c.2.2.2.1 = r1
  generalize roleOk c.2.2.2.2.1 = r2
  generalize (decide (c.2.2.2.1.1 = 0) && decide (c.2.2.2.1.2 = 0)) = z1
  generalize (decide (c.2.2.2.2.1.1 = 0) && decide (c.2.2.2.2.1.2 = 0)) = z2
  cases a1 <;> cases a2 <;> cases a3 <;> try rfl
  cases b1 <;> cases b2 <;> cases b3 <;> cases b4 <;> cases d1 <;> cases r1 <;> cases r2 <;> cases a4 <;> cases z1 <;> rfl

theorem credOk_s (N : Nat) (c : Den tCred) : x_spec_CredOk N c = some (credOk c) := by
  rw [← credOk_i N c]
  unfold x_spec_CredOk x_impl_CredOk
  simp only [in_eq, l01In_eq, roleOk_i, roleOk_s, isPerson_i, Option.bind_some]

end Go.Proofs.Ytcmlapepofgkpaa.C

namespace Go.Proofs.Ytcmlapepofgkpaa.C
open Go Go.Proofs.Ytcmlapepofgkpaa.Nx Go.RowKit
set_option linter.unusedVariables false
set_option linter.unusedSimpArgs false

theorem iw {x : Int} (h0 : 0 ≤ x) (h1 : x ≤ 9223372036854775807) : IntKind.i64.wrap x = x := by
  rw [← wr_eq]
  exact w64 (by omega) h1

theorem p64 : ((2 ^ 64 : Nat) : Int) = 18446744073709551616 := rfl
theorem andI127 {a : Int} (h0 : 0 ≤ a) (h1 : a ≤ 9223372036854775807) : andI .i64 a 127 = a % 128 := by
  have e : (BitVec.ofInt 64 a &&& BitVec.ofInt 64 127).toNat = a.toNat % 128 := by
    rw [BitVec.toNat_and, BitVec.toNat_ofInt, BitVec.toNat_ofInt]
    have e1 : (a % ((2 ^ 64 : Nat) : Int)).toNat = a.toNat := by
      rw [p64, Int.emod_eq_of_lt h0 (by omega)]
    have e2 : ((127 : Int) % ((2 ^ 64 : Nat) : Int)).toNat = 2 ^ 7 - 1 := by decide
    rw [e1, e2, Nat.and_two_pow_sub_one_eq_mod]
  show IntKind.i64.wrap ((BitVec.ofInt 64 a &&& BitVec.ofInt 64 127).toNat : Int) = _
  rw [e, iw (by omega) (by omega)]
  omega

theorem orI128 {x : Int} (h0 : 0 ≤ x) (h1 : x < 128) : orI .i64 x 128 = x + 128 := by
  have e : (BitVec.ofInt 64 x ||| BitVec.ofInt 64 128).toNat = x.toNat + 128 := by
    rw [BitVec.toNat_or, BitVec.toNat_ofInt, BitVec.toNat_ofInt]
    have e1 : (x % ((2 ^ 64 : Nat) : Int)).toNat = x.toNat := by
      rw [p64, Int.emod_eq_of_lt h0 (by omega)]
    have e2 : ((128 : Int) % ((2 ^ 64 : Nat) : Int)).toNat = 2 ^ 7 * 1 := by decide
    rw [e1, e2, Nat.or_comm, ← Nat.two_pow_add_eq_or_of_lt (by omega)]
    omega
  show IntKind.i64.wrap ((BitVec.ofInt 64 x ||| BitVec.ofInt 64 128).toNat : Int) = _
  rw [e, iw (by omega) (by omega)]
  omega

theorem shr7 {a : Int} (h0 : 0 ≤ a) : shrI .i64 a 7 = a / 128 := by
  unfold shrI
  have : (2 : Int) ^ (min (7 : Int).toNat IntKind.i64.bits) = 128 := by decide
  rw [this, Int.fdiv_eq_ediv_of_nonneg _ (by omega)]

theorem byte_eq {s0 : Int} (h0 : 127 < s0) (h : s0 ≤ 9223372036854775807) : orI .i64 (andI .i64 s0 (127 : Int)) (128 : Int) = wrap64 ((s0.tmod (128 : Int)) + (128 : Int)) := by
  have e : s0.tmod 128 = s0 % 128 := Int.tmod_eq_emod_of_nonneg (by omega)
  rw [andI127 (by omega) h, orI128 (by omega) (by omega), e, w64 (x := s0 % 128 + 128) (by omega) (by omega)]
theorem step_eq {s0 : Int} (h0 : 127 < s0) (h : s0 ≤ 9223372036854775807) : shrI .i64 s0 (7 : Int) = wrap64 (s0.tdiv (128 : Int)) := by
  have e : s0.tdiv 128 = s0 / 128 := Int.tdiv_eq_ediv_of_nonneg (by omega)
  rw [shr7 (by omega), e, w64 (x := s0 / 128) (by omega) (by omega)]
theorem step_le {s0 : Int} (h0 : 127 < s0) (h : s0 ≤ 9223372036854775807) : wrap64 (s0.tdiv (128 : Int)) ≤ 9223372036854775807 := by
  have e : s0.tdiv 128 = s0 / 128 := Int.tdiv_eq_ediv_of_nonneg (by omega)
  rw [e, w64 (x := s0 / 128) (by omega) (by omega)]; omega

theorem var_step {Ω : Type} (N : Nat) (kx : DenS (.pr (.d 0 I) (.o 3 (.i .u8))) → Option Ω) (kr) (f g) {s0 : Int} (s3 : List Int) (h : s0 ≤ 9223372036854775807) (hfg : ∀ a l, a ≤ 9223372036854775807 → f (a, l) = g (a, l)) :
    B_impl_varText_L0 (Ω := Ω) N kx kr f (s0, s3) = B_spec_l01Var_L0 N kx kr g (s0, s3) := by
  unfold B_impl_varText_L0 B_spec_l01Var_L0
  by_cases h1 : 127 < s0
  · simp only [decide_eq_true h1, cond_true, byte_eq h1 h, step_eq h1 h, hfg _ _ (step_le h1 h)]
  · simp only [decide_eq_false h1, cond_false]

theorem iter_zero {S Ω : Type} (B : (S → Option Ω) → S → Option Ω) (s : S) : iter B 0 s = none := rfl
theorem iter_succ {S Ω : Type} (B : (S → Option Ω) → S → Option Ω) (N : Nat) (s : S) : iter B (N + 1) s = B (iter B N) s := rfl
theorem var_iter {Ω : Type} (N : Nat) (kx : DenS (.pr (.d 0 I) (.o 3 (.i .u8))) → Option Ω) (kr) : ∀ (M : Nat) (s0 : Int) (s3 : List Int), s0 ≤ 9223372036854775807 → iter (B_impl_varText_L0 N kx kr) M (s0, s3) = iter (B_spec_l01Var_L0 N kx kr) M (s0, s3) := by
  intro M
  induction M with
  | zero => intro s0 s3 _; rw [iter_zero, iter_zero]
  | succ M ih =>
    intro s0 s3 h
    rw [iter_succ, iter_succ]
    exact var_step N kx kr _ _ s3 h ih

theorem varText_eq (N : Nat) {n : Int} (h : n ≤ 9223372036854775807) : x_impl_varText N n = x_spec_l01Var N n := by
  unfold x_impl_varText
  rw [var_iter N _ _ N n [] h]
  rfl

/-- A number as a text. -/
def vt (N : Nat) (n : Int) : ByteArray := (x_spec_l01Var N n).getD ByteArray.empty
theorem vt_some {N : Nat} (hN : Big N) {n : Int} (h : n ≤ 9223372036854775807) : x_spec_l01Var N n = some (vt N n) ∧ (vt N n).size ≤ 100 ∧ 0 < (vt N n).size := by
  have hN' : 1099511627776 ≤ N := hN
  have key : ∀ (d M : Nat) (s0 : Int) (s3 : List Int), d < M → s0 < ((128 ^ (d + 1) : Nat) : Int) → s0 ≤ 9223372036854775807 → s3.length + d ≤ 90 →
      ∃ r : ByteArray, iter (B_spec_l01Var_L0 N (fun (x1, x2) => (bif (decide ((x2.length + [(x1 % 256)].length) * 1 ≤ 140737488355328)) then some (txt (x2 ++ [(x1 % 256)])) else none)) (fun ρ3 => some (ρ3))) M (s0, s3) = some r ∧ r.size ≤ 100 ∧ 0 < r.size := by
    intro d
    induction d with
    | zero =>
      intro M s0 s3 hM h1 h2 hl
      obtain ⟨M, rfl⟩ : ∃ K, M = K + 1 := ⟨M - 1, by omega⟩
      show ∃ r, (bif _ then _ else (bif _ then _ else _)) = _ ∧ _
      rw [dF (by simp at h1; omega)]
      simp only [cond_false]
      rw [dT (by simp only [List.length_cons, List.length_nil]; omega)]
      have hs : ∀ l : List Int, (txt l).size = l.length := fun l => by simp [txt, ByteArray.size]
      exact ⟨_, rfl, by rw [hs]; simp; omega, by rw [hs]; simp⟩
    | succ d ih =>
      intro M s0 s3 hM h1 h2 hl
      obtain ⟨M, rfl⟩ : ∃ K, M = K + 1 := ⟨M - 1, by omega⟩
      show ∃ r, (bif _ then _ else (bif _ then _ else _)) = _ ∧ _
      by_cases h3 : 127 < s0
      · rw [dT h3]
        simp only [cond_true]
        rw [dT (by simp only [List.length_cons, List.length_nil]; omega)]
        simp only [cond_true]
        refine ih M _ _ (by omega) ?_ ?_ (by simp; omega)
        · rw [Int.tdiv_eq_ediv_of_nonneg (by omega), w64 (by omega) (by omega)]
          rw [Nat.pow_succ] at h1
          generalize 128 ^ (d + 1) = q at h1 ⊢
          omega
        · rw [Int.tdiv_eq_ediv_of_nonneg (by omega), w64 (by omega) (by omega)]; omega
      · rw [dF h3]
        simp only [cond_false]
        rw [dT (by simp only [List.length_cons, List.length_nil]; omega)]
        have hs : ∀ l : List Int, (txt l).size = l.length := fun l => by simp [txt, ByteArray.size]
        exact ⟨_, rfl, by rw [hs]; simp; omega, by rw [hs]; simp⟩
  obtain ⟨r, h1, h2, h3⟩ := key 9 N n [] (by omega) (by omega) h (by simp)
  have e : x_spec_l01Var N n = some r := h1
  unfold vt
  rw [e]
  exact ⟨rfl, h2, h3⟩
end Go.Proofs.Ytcmlapepofgkpaa.C

namespace Go.Proofs.Ytcmlapepofgkpaa.C
open Go Go.Proofs.Ytcmlapepofgkpaa.Nx Go.RowKit
set_option linter.unusedVariables false
set_option linter.unusedSimpArgs false

/-- Numbers that memory holds. -/
def smallC (c : Den tCred) : Prop := ∀ x ∈ [c.1, c.2.1.1, c.2.1.2, c.2.2.1, c.2.2.2.1.1, c.2.2.2.1.2, c.2.2.2.2.1.1, c.2.2.2.2.1.2, c.2.2.2.2.2.1, c.2.2.2.2.2.2], x ≤ 9223372036854775807

/-- The text of a word. -/
def ctext (N : Nat) (c : Den tCred) : ByteArray := (((((((((vt N c.1 ++ vt N c.2.1.1) ++ vt N c.2.1.2) ++ vt N c.2.2.1) ++ vt N c.2.2.2.1.1) ++ vt N c.2.2.2.1.2) ++ vt N c.2.2.2.2.1.1) ++ vt N c.2.2.2.2.1.2) ++ vt N c.2.2.2.2.2.1) ++ vt N c.2.2.2.2.2.2)

theorem spec_CredText {N : Nat} (hN : Big N) (c : Den tCred) (hc : smallC c) : x_spec_CredText N c = some (bif credOk c then ctext N c else ByteArray.empty) ∧ (ctext N c).size ≤ 1000 ∧ 0 < (ctext N c).size := by
  obtain ⟨v1, s1, p1⟩ := vt_some hN (hc c.1 (by simp))
  obtain ⟨v2, s2, p2⟩ := vt_some hN (hc c.2.1.1 (by simp))
  obtain ⟨v3, s3, p3⟩ := vt_some hN (hc c.2.1.2 (by simp))
  obtain ⟨v4, s4, p4⟩ := vt_some hN (hc c.2.2.1 (by simp))
  obtain ⟨v5, s5, p5⟩ := vt_some hN (hc c.2.2.2.1.1 (by simp))
  obtain ⟨v6, s6, p6⟩ := vt_some hN (hc c.2.2.2.1.2 (by simp))
  obtain ⟨v7, s7, p7⟩ := vt_some hN (hc c.2.2.2.2.1.1 (by simp))
  obtain ⟨v8, s8, p8⟩ := vt_some hN (hc c.2.2.2.2.1.2 (by simp))
  obtain ⟨v9, s9, p9⟩ := vt_some hN (hc c.2.2.2.2.2.1 (by simp))
  obtain ⟨v10, s10, p10⟩ := vt_some hN (hc c.2.2.2.2.2.2 (by simp))
  refine ⟨?_, by unfold ctext; simp only [ByteArray.size_append]; omega, by unfold ctext; simp only [ByteArray.size_append]; omega⟩
  unfold x_spec_CredText
  rw [credOk_s, Option.bind_some]
  cases credOk c with
  | false => rfl
  | true =>
    simp only [Bool.not_true, cond_false, cond_true]
    rw [v1, Option.bind_some, v2, Option.bind_some, dT (by omega), cond_true, v3, Option.bind_some, dT (by simp only [ByteArray.size_append]; omega), cond_true, v4, Option.bind_some, dT (by simp only [ByteArray.size_append]; omega), cond_true,
      v5, Option.bind_some, dT (by simp only [ByteArray.size_append]; omega), cond_true, v6, Option.bind_some, dT (by simp only [ByteArray.size_append]; omega), cond_true, v7, Option.bind_some, dT (by simp only [ByteArray.size_append]; omega), cond_true,
      v8, Option.bind_some, dT (by simp only [ByteArray.size_append]; omega), cond_true, v9, Option.bind_some, dT (by simp only [ByteArray.size_append]; omega), cond_true, v10, Option.bind_some, dT (by simp only [ByteArray.size_append]; omega), cond_true]
    rfl

theorem impl_CredText {N : Nat} (hN : Big N) (c : Den tCred) (hc : smallC c) : x_impl_CredText N c = some (bif credOk c then ctext N c else ByteArray.empty) := by
  have hN' : 1099511627776 ≤ N := hN
  unfold x_impl_CredText
  rw [credOk_i, Option.bind_some]
  cases credOk c with
  | false => rfl
  | true =>
    simp only [Bool.not_true, cond_false, cond_true]
    have key : ∀ (l R pre : List Int) (s : ByteArray) (M : Nat), l = pre ++ R → R.length < M → (∀ x ∈ R, x ≤ 9223372036854775807) → s.size + 100 * R.length ≤ 100000 → l.length ≤ 1000 →
        iter (B_impl_CredText_L0 N (fun x3 => some x3) (fun ρ4 => some (ρ4))) M (s, l, (l.length : Int), (pre.length : Int)) = some (R.foldl (fun s x => s ++ vt N x) s) := by
      intro l R
      induction R with
      | nil =>
        intro pre s M ho hM hx hs hl
        obtain ⟨M, rfl⟩ : ∃ K, M = K + 1 := ⟨M - 1, by omega⟩
        rw [iter_succ]
        show (bif _ then _ else _) = _
        rw [dF (by rw [ho]; simp)]; rfl
      | cons x R ih =>
        intro pre s M ho hM hx hs hl
        obtain ⟨M, rfl⟩ : ∃ K, M = K + 1 := ⟨M - 1, by omega⟩
        simp only [List.length_cons] at hM hs
        have hpo : pre.length < l.length := by rw [ho]; simp
        have g1 : l.getD pre.length 0 = x := by rw [ho]; exact gD0 _ _ _ _
        obtain ⟨v, sv, pv⟩ := vt_some hN (hx x (by simp))
        rw [iter_succ]
        show (bif _ then _ else _) = _
        rw [lt_rows l hpo, le_rows pre.length, Int.toNat_natCast, g1, w64_up (Nat.le_refl _) (by omega), varText_eq N (hx x (by simp)), v, Option.bind_some]
        simp only [cond_true, Bool.and_self]
        rw [dT (by omega), cond_true]
        have := ih (pre ++ [x]) (s ++ vt N x) M (by rw [ho]; simp) (by omega) (fun y hy => hx y (by simp [hy])) (by rw [ByteArray.size_append]; omega) hl
        rw [List.length_append] at this
        exact this
    have := key _ _ [] ByteArray.empty N (List.nil_append _).symm (by simp; omega) hc (by simp) (by simp)
    refine Eq.trans this ?_
    simp only [List.foldl_cons, List.foldl_nil, ByteArray.empty_append]
    rfl

/-- Texts of eight. -/
def eights (l : List ByteArray) : Bool := l.all fun e => decide ((e.size : Int) = 8)

theorem spec_Long {N : Nat} (hN : Big N) (l : List ByteArray) (hl : l.length ≤ 1048576) : x_spec_l04Long N l = some (eights l) := by
  have hN' : 1099511627776 ≤ N := hN
  unfold x_spec_l04Long
  refine iter_row l (fun i => (l, (i : Int))) (fun i r => some (eights r)) (fun i hi rec_ h => ?_) (fun rec_ => ?_) (by omega)
  · show (bif _ then _ else _) = _
    rw [lt_rows l hi, le_rows i, getD_at l hi, w64_up (Nat.le_refl i) (by omega), h]
    unfold eights
    rw [List.all_cons]
    cases decide ((l[i].size : Int) = 8) <;> rfl
  · show (bif _ then _ else _) = _
    rw [dF (Int.lt_irrefl _)]; rfl

theorem impl_Long {N : Nat} (hN : Big N) (l : List ByteArray) (hl : l.length ≤ 1048576) : x_slices_ContainsFunc_string_string__impl_signFormed_1 N l = some (!eights l) := by
  have := index_func (d := ByteArray.empty) (L := l) (by omega) () (f := fun x => x_impl_signFormed_1 N x) (fun x : ByteArray => !decide ((x.size : Int) = 8)) (fun x _ => rfl) hN (B := B_slices_IndexFunc_string_string__impl_signFormed_1_L0 N (fun _ => some (-1 : Int)) (fun ρ2 => some (ρ2))) (fun _ _ _ _ => rfl)
  unfold x_slices_ContainsFunc_string_string__impl_signFormed_1 x_slices_IndexFunc_string_string__impl_signFormed_1
  rw [this, Option.bind_some, findI_any]
  unfold eights
  rw [← List.not_all_eq_any_not]

/-- A signature of the right form. -/
def formF (s : Den tSignature) : Bool := inR s.1 0 3 && (decide ((s.2.1.length : Int) = 11) && (decide ((s.2.2.length : Int) = 2) && (eights s.2.1 && eights s.2.2)))

theorem steps_round {N : Nat} {Ω : Type} (kx kr : Int → Option Ω) (rec_ : DenS (.pr (.d 1 I) (.d 2 I)) → Option Ω) (a b c d : Int) (h : (1 : Int) < b) (hc : wrap64 (a + 1) = c) (hd : wrap64 (b.tdiv 2) = d) : B_spec_l04Steps_L0 N kx kr rec_ (a, b) = rec_ (c, d) := by
  subst hc hd
  show (bif decide ((1 : Int) < b) then _ else _) = _
  rw [dT h]; rfl

theorem steps_last {N : Nat} {Ω : Type} (kx kr : Int → Option Ω) (rec_ : DenS (.pr (.d 1 I) (.d 2 I)) → Option Ω) (a b : Int) (h : ¬ (1 : Int) < b) : B_spec_l04Steps_L0 N kx kr rec_ (a, b) = kx a := by
  show (bif decide ((1 : Int) < b) then _ else _) = _
  rw [dF h]; rfl

theorem steps_two {N : Nat} (hN : Big N) : x_spec_l04Steps N = some 2 := by
  have hN' : 1099511627776 ≤ N := hN
  have key : ∀ K M, M = K + 1 + 1 + 1 → iter (B_spec_l04Steps_L0 N (fun x1 => some x1) (fun ρ2 => some ρ2)) M ((0 : Int), (4 : Int)) = some 2 := by
    intro K M h
    subst h
    rw [iter_succ, steps_round _ _ _ 0 4 1 2 (by decide) (by decide +kernel) (by decide +kernel), iter_succ, steps_round _ _ _ 1 2 2 1 (by decide) (by decide +kernel) (by decide +kernel), iter_succ, steps_last _ _ _ _ _ (by decide)]
  exact key (N - 3) N (by omega)

theorem spec_Form {N : Nat} (hN : Big N) (s : Den tSignature) (h1 : s.2.1.length ≤ 1048576) (h2 : s.2.2.length ≤ 1048576) : x_spec_l04Form N s = some (formF s) := by
  unfold x_spec_l04Form formF
  simp only [l01In_eq, steps_two hN, spec_Long hN _ h1, spec_Long hN _ h2, Option.bind_some]
  cases inR s.1 0 3 <;> cases decide ((s.2.1.length : Int) = 11) <;> cases decide ((s.2.2.length : Int) = 2) <;> cases eights s.2.1 <;> rfl

theorem impl_Form {N : Nat} (hN : Big N) (s : Den tSignature) (h1 : s.2.1.length ≤ 1048576) (h2 : s.2.2.length ≤ 1048576) : x_impl_signFormed N s = some (formF s) := by
  unfold x_impl_signFormed formF
  simp only [in_eq, impl_Long hN _ h1, impl_Long hN _ h2, Option.bind_some, Bool.not_not]
  cases inR s.1 0 3 <;> cases decide ((s.2.1.length : Int) = 11) <;> cases decide ((s.2.2.length : Int) = 2) <;> cases eights s.2.1 <;> rfl

/-- Texts one behind the other, each with its length. -/
def catF (N : Nat) (s : ByteArray) (l : List ByteArray) : ByteArray := l.foldl (fun s e => s ++ (vt N (e.size : Int) ++ e)) s

theorem catF_app (N : Nat) (s : ByteArray) (a b : List ByteArray) : catF N s (a ++ b) = catF N (catF N s a) b := List.foldl_append

theorem catF_size {N : Nat} (hN : Big N) : ∀ (l : List ByteArray) (s : ByteArray), eights l = true → (catF N s l).size ≤ s.size + 108 * l.length
  | [], s, _ => Nat.le_refl _
  | e :: l, s, h => by
    unfold eights at h
    rw [List.all_cons, Bool.and_eq_true, decide_eq_true_eq] at h
    have := catF_size hN l (s ++ (vt N (e.size : Int) ++ e)) h.2
    obtain ⟨v, sv, pv⟩ := vt_some hN (n := (e.size : Int)) (by omega)
    unfold catF at this ⊢
    simp only [List.foldl_cons, List.length_cons, ByteArray.size_append] at this ⊢
    omega

/-- The text of vouched words. -/
def vtext (N : Nat) (v : Den tVouched) : ByteArray := catF N ((vt N ((ctext N v.1).size : Int) ++ ctext N v.1) ++ vt N v.2.1) (v.2.2.1 ++ v.2.2.2)

theorem spec_loop {N : Nat} (hN : Big N) {B : ((Den tVouched × ByteArray × Int) → Option ByteArray) → (Den tVouched × ByteArray × Int) → Option ByteArray} (v : Den tVouched) (l : List ByteArray) (kx : ByteArray → Option ByteArray) (hl : l.length ≤ 1000)
    (hB : ∀ rec_ s4 s5, B rec_ (v, s4, s5) = (bif (decide (s5 < (l.length : Int))) then (bif (decide (0 ≤ s5) && decide (s5 < l.length)) then (x_spec_l01Var N (8 : Int)).bind fun r5 => (bif (decide (s4.size + r5.size ≤ 4611686018427387904)) then (bif (decide ((s4 ++ r5).size + (l.getD s5.toNat ByteArray.empty).size ≤ 4611686018427387904)) then rec_ (v, ((s4 ++ r5) ++ (l.getD s5.toNat ByteArray.empty)), (wrap64 (s5 + (1 : Int)))) else none) else none) else none) else kx s4)) :
    ∀ (R pre : List ByteArray) (s : ByteArray) (M : Nat), l = pre ++ R → R.length < M → eights R = true → s.size + 108 * R.length ≤ 1000000000 → iter B M (v, s, (pre.length : Int)) = kx (catF N s R) := by
  intro R
  induction R with
  | nil =>
    intro pre s M ho hM he hs
    obtain ⟨M, rfl⟩ : ∃ K, M = K + 1 := ⟨M - 1, by omega⟩
    rw [iter_succ, hB, dF (by rw [ho]; simp)]; rfl
  | cons e R ih =>
    intro pre s M ho hM he hs
    obtain ⟨M, rfl⟩ : ∃ K, M = K + 1 := ⟨M - 1, by omega⟩
    simp only [List.length_cons] at hM hs
    unfold eights at he
    rw [List.all_cons, Bool.and_eq_true, decide_eq_true_eq] at he
    have hpo : pre.length < l.length := by rw [ho]; simp
    have g1 : l.getD pre.length ByteArray.empty = e := by rw [ho]; exact gD0 _ _ _ _
    obtain ⟨w, sv, pv⟩ := vt_some hN (n := 8) (by omega)
    rw [iter_succ, hB, lt_rows l hpo, le_rows pre.length, Int.toNat_natCast, g1, w64_up (Nat.le_refl _) (by omega), w, Option.bind_some]
    simp only [cond_true, Bool.and_self]
    rw [dT (by omega), dT (by rw [ByteArray.size_append]; omega)]
    simp only [cond_true]
    have := ih (pre ++ [e]) ((s ++ vt N 8) ++ e) M (by rw [ho]; simp) (by omega) he.2 (by simp only [ByteArray.size_append]; omega)
    rw [List.length_append] at this
    refine Eq.trans this ?_
    unfold catF
    rw [List.foldl_cons, he.1, ByteArray.append_assoc]

theorem spec_VouchedText {N : Nat} (hN : Big N) (v : Den tVouched) (hc : smallC v.1) (hf : v.2.1 ≤ 9223372036854775807) (h1 : v.2.2.1.length ≤ 1048576) (h2 : v.2.2.2.length ≤ 1048576) : x_spec_VouchedText N v = some (bif credOk v.1 && formF v.2 then vtext N v else ByteArray.empty) := by
  have hN' : 1099511627776 ≤ N := hN
  obtain ⟨e1, e2, e3⟩ := spec_CredText hN v.1 hc
  unfold x_spec_VouchedText
  rw [e1, Option.bind_some]
  cases credOk v.1 with
  | false => rfl
  | true =>
    have hne : ¬ ctext N v.1 = ByteArray.empty := fun h => by rw [h] at e3; exact absurd e3 (by decide)
    simp only [cond_true, Bool.true_and]
    rw [dF hne, spec_Form hN v.2 h1 h2, Option.bind_some]
    cases hF : formF v.2 with
    | false => rfl
    | true =>
      unfold formF at hF
      simp only [Bool.and_eq_true, decide_eq_true_eq] at hF
      obtain ⟨_, f1, f2, f3, f4⟩ := hF
      obtain ⟨v1, s1, p1⟩ := vt_some hN (n := ((ctext N v.1).size : Int)) (by omega)
      obtain ⟨v2, s2, p2⟩ := vt_some hN hf
      simp only [cond_false, Bool.not_true, cond_true]
      rw [v1, Option.bind_some, dT (by omega), cond_true, v2, Option.bind_some, dT (by rw [ByteArray.size_append]; omega), cond_true]
      have c1 := catF_size hN v.2.2.1 ((vt N ((ctext N v.1).size : Int) ++ ctext N v.1) ++ vt N v.2.1) f3
      simp only [ByteArray.size_append] at c1
      refine (spec_loop hN (B := B_spec_VouchedText_L0 N (fun (x6, x7) => iter (B_spec_VouchedText_L2 N (fun x9 => some x9) (fun ρ10 => some (ρ10))) N (x6, x7, (0 : Int))) (fun ρ11 => some (ρ11))) v v.2.2.1 (fun s => iter (B_spec_VouchedText_L2 N (fun x9 => some x9) (fun ρ10 => some (ρ10))) N (v, s, (0 : Int))) (by omega) (fun _ _ _ => rfl) v.2.2.1 [] _ N rfl (by omega) f3 (by simp only [ByteArray.size_append]; omega)).trans ?_
      refine (spec_loop hN (B := B_spec_VouchedText_L2 N (fun x9 => some x9) (fun ρ10 => some (ρ10))) v v.2.2.2 (fun s => some s) (by omega) (fun _ _ _ => rfl) v.2.2.2 [] _ N rfl (by omega) f4 (by omega)).trans ?_
      unfold vtext
      rw [catF_app]

theorem clone_str (N : Nat) (L : List ByteArray) (hL : L.length ≤ 1048576) : x_slices_Clone_string_string N L = some L := by
  unfold x_slices_Clone_string_string
  simp only [List.length_nil, List.nil_append]
  rw [dT (p := (0 + L.length) * 16 ≤ 140737488355328) (by omega)]
  by_cases h : L.length = 0
  · obtain rfl : L = [] := List.length_eq_zero_iff.1 h
    rw [dT h]
    exact agree_self _
  · rw [dF h]; rfl

theorem eights_app {a b : List ByteArray} (h : eights a = true) (k : eights b = true) : eights (a ++ b) = true := by
  unfold eights at *
  rw [List.all_append, h, k]; rfl

theorem impl_VouchedText {N : Nat} (hN : Big N) (v : Den tVouched) (hc : smallC v.1) (hf : v.2.1 ≤ 9223372036854775807) (h1 : v.2.2.1.length ≤ 1048576) (h2 : v.2.2.2.length ≤ 1048576) : x_impl_VouchedText N v = some (bif credOk v.1 && formF v.2 then vtext N v else ByteArray.empty) := by
  have hN' : 1099511627776 ≤ N := hN
  obtain ⟨e1, e2, e3⟩ := spec_CredText hN v.1 hc
  unfold x_impl_VouchedText
  rw [credOk_i, Option.bind_some]
  cases hC : credOk v.1 with
  | false => rfl
  | true =>
    simp only [cond_false, Bool.not_true, cond_true, Bool.true_and]
    rw [impl_Form hN v.2 h1 h2, Option.bind_some]
    cases hF : formF v.2 with
    | false => rfl
    | true =>
      unfold formF at hF
      simp only [Bool.and_eq_true, decide_eq_true_eq] at hF
      obtain ⟨_, f1, f2, f3, f4⟩ := hF
      obtain ⟨v1, s1, p1⟩ := vt_some hN (n := ((ctext N v.1).size : Int)) (by omega)
      obtain ⟨v2, s2, p2⟩ := vt_some hN hf
      simp only [cond_false, Bool.not_true, cond_true]
      rw [impl_CredText hN v.1 hc, hC, Option.bind_some]
      simp only [cond_true]
      rw [varText_eq N (by omega), v1, Option.bind_some, dT (by omega), cond_true, varText_eq N hf, v2, Option.bind_some, dT (by rw [ByteArray.size_append]; omega), cond_true, clone_str N _ h1, Option.bind_some, dT (by omega), cond_true]
      have key : ∀ (l R pre : List ByteArray) (s : ByteArray) (M : Nat), l = pre ++ R → R.length < M → eights R = true → s.size + 108 * R.length ≤ 1000000000 → l.length ≤ 1000 →
          iter (B_impl_VouchedText_L0 N (fun x8 => some x8) (fun ρ9 => some (ρ9))) M (s, l, (l.length : Int), (pre.length : Int)) = some (catF N s R) := by
        intro l R
        induction R with
        | nil =>
          intro pre s M ho hM he hs hl
          obtain ⟨M, rfl⟩ : ∃ K, M = K + 1 := ⟨M - 1, by omega⟩
          rw [iter_succ]
          show (bif _ then _ else _) = _
          rw [dF (by rw [ho]; simp)]; rfl
        | cons e R ih =>
          intro pre s M ho hM he hs hl
          obtain ⟨M, rfl⟩ : ∃ K, M = K + 1 := ⟨M - 1, by omega⟩
          simp only [List.length_cons] at hM hs
          unfold eights at he
          rw [List.all_cons, Bool.and_eq_true, decide_eq_true_eq] at he
          have hpo : pre.length < l.length := by rw [ho]; simp
          have g1 : l.getD pre.length ByteArray.empty = e := by rw [ho]; exact gD0 _ _ _ _
          obtain ⟨w, sv, pv⟩ := vt_some hN (n := (e.size : Int)) (by omega)
          rw [iter_succ]
          show (bif _ then _ else _) = _
          rw [lt_rows l hpo, le_rows pre.length, Int.toNat_natCast, g1, w64_up (Nat.le_refl _) (by omega), varText_eq N (by omega), w, Option.bind_some]
          simp only [cond_true, Bool.and_self]
          rw [dT (by omega), dT (by rw [ByteArray.size_append]; omega)]
          simp only [cond_true]
          have := ih (pre ++ [e]) (s ++ (vt N (e.size : Int) ++ e)) M (by rw [ho]; simp) (by omega) he.2 (by simp only [ByteArray.size_append]; omega) hl
          rw [List.length_append] at this
          exact this
      refine (key _ _ [] _ N (List.nil_append _).symm (by simp; omega) (eights_app f3 f4) (by simp only [ByteArray.size_append, List.length_append]; omega) (by simp; omega)).trans ?_
      rfl

theorem goodI {x : Int} (g : good I x) : x ≤ 9223372036854775807 := Int.le_trans g.2 (by decide)
theorem smallC_good (c : Den tCred) (g : good tCred c) : smallC c := by
  obtain ⟨g1, g2, g3, g4, g5, g6, g7⟩ := g
  intro x hx
  simp only [List.mem_cons, List.not_mem_nil, or_false] at hx
  rcases hx with rfl | rfl | rfl | rfl | rfl | rfl | rfl | rfl | rfl | rfl
  · exact goodI g1
  · exact goodI g2.1
  · exact goodI g2.2
  · exact goodI g3
  · exact goodI g4.1
  · exact goodI g4.2
  · exact goodI g5.1
  · exact goodI g5.2
  · exact goodI g6
  · exact goodI g7

theorem pure_FnExactVouchedText (a0 : Den tVouched) (g0 : good tVouched a0) : ∃ N, x_laws_FnExactVouchedText N a0 = some true := by
  refine ⟨1099511627776, ?_⟩
  have hN : Big 1099511627776 := Nat.le_refl _
  generalize 1099511627776 = N at hN
  unfold x_laws_FnExactVouchedText
  obtain ⟨k, e, hk⟩ := sz_Vouched hN a0 g0 1048576 (by omega) (by omega)
  rw [e, Option.bind_some]
  rcases hk with hk | ⟨h1, h2, h⟩
  · rw [dT hk]; rfl
  · rw [dF (by omega)]
    have hc : smallC a0.1 := smallC_good a0.1 g0.1
    have hf : a0.2.1 ≤ 9223372036854775807 := goodI g0.2.1
    have l1 : a0.2.2.1.length ≤ 1048576 := h.2.2.1.1
    have l2 : a0.2.2.2.length ≤ 1048576 := h.2.2.2.1
    simp only [cond_false, to_Vouched hN a0 h, Option.bind_some, spec_VouchedText hN a0 hc hf l1 l2, impl_VouchedText hN a0 hc hf l1 l2, eq_Vouched hN a0 h, decide_true, Bool.not_true]
end Go.Proofs.Ytcmlapepofgkpaa.C
