/- The data that the two functions compute are alike, for all arguments that memory can hold. -/
import Derived.Test.YtcmlapepofgkpaaHFnExactReadVouched
set_option linter.unusedVariables false
set_option linter.unusedSimpArgs false
namespace Go.Proofs.Ytcmlapepofgkpaa.C
open Go Go.Proofs.Ytcmlapepofgkpaa.Nx Go.RowKit
theorem eq_Role {N : Nat} (hN : Big N) (x : Den tRole) (h : okz tRole x) : x_laws_eqRole N x x = some true := by
  unfold x_laws_eqRole
  simp
theorem eq_Cred {N : Nat} (hN : Big N) (x : Den tCred) (h : okz tCred x) : x_laws_eqCred N x x = some true := by
  unfold x_laws_eqCred
  simp [eq_Role hN _ h.2.1, eq_Role hN _ h.2.2.2.1, eq_Role hN _ h.2.2.2.2.1]
theorem eq_StringS {N : Nat} (hN : Big N) (x : Den (.sl .tx)) (h : okz (.sl .tx) x) : x_laws_eqStringS N x x = some true :=
  eq_rows h (f := fun y z => some (decide (y = z))) (fun y hy => by simp) hN (fun _ _ _ _ => rfl)
theorem eq_Signature {N : Nat} (hN : Big N) (x : Den tSignature) (h : okz tSignature x) : x_laws_eqSignature N x x = some true := by
  unfold x_laws_eqSignature
  simp [eq_StringS hN _ h.2.1, eq_StringS hN _ h.2.2]
theorem eq_Vouched {N : Nat} (hN : Big N) (x : Den tVouched) (h : okz tVouched x) : x_laws_eqVouched N x x = some true := by
  unfold x_laws_eqVouched
  simp [eq_Cred hN _ h.1, eq_Signature hN _ h.2]
end Go.Proofs.Ytcmlapepofgkpaa.C

namespace Go.Proofs.Ytcmlapepofgkpaa.C
open Go Go.Proofs.Ytcmlapepofgkpaa.Nx Go.RowKit
set_option linter.unusedVariables false
set_option linter.unusedSimpArgs false

theorem peta {α β : Type} (p : α × β) : (p.1, p.2) = p := rfl

def inR (n a b : Int) : Bool := decide (a ≤ n) && decide (n ≤ b)
theorem in_eq (N : Nat) (n a b : Int) : x_impl_in N n a b = some (inR n a b) := by
  unfold x_impl_in inR
  cases decide (a ≤ n) <;> rfl
theorem l01In_eq (N : Nat) (n a b : Int) : x_spec_l01In N n a b = some (inR n a b) := by
  unfold x_spec_l01In inR
  cases decide (a ≤ n) <;> rfl
end Go.Proofs.Ytcmlapepofgkpaa.C

namespace Go.Proofs.Ytcmlapepofgkpaa.C
open Go Go.Proofs.Ytcmlapepofgkpaa.Nx Go.RowKit
set_option linter.unusedVariables false
set_option linter.unusedSimpArgs false

def roleOk (r : Den tRole) : Bool := inR r.1 0 5 && inR r.2 0 3

theorem roleOk_i (N : Nat) (r : Den tRole) : x_impl_RoleOk N r = some (roleOk r) := by
  unfold x_impl_RoleOk roleOk
  simp only [in_eq, Option.bind_some]
  cases inR r.1 0 5 <;> rfl
theorem roleOk_s (N : Nat) (r : Den tRole) : x_spec_RoleOk N r = some (roleOk r) := by
  unfold x_spec_RoleOk roleOk
  simp only [l01In_eq, Option.bind_some]
  cases inR r.1 0 5 <;> rfl
theorem isPerson_i (N : Nat) (n : Int) : x_impl_isPerson N n = some (inR n 0 5) := by
  unfold x_impl_isPerson
  simp only [in_eq, Option.bind_some]

/-- Words that are right. -/
def credOk (c : Den tCred) : Bool :=
  roleOk c.2.1 && (inR c.2.2.2.2.2.1 1 9999 && (inR c.2.2.2.2.2.2 0 99 &&
  (bif decide (c.1 = 1) then inR c.2.2.1 0 5 && ((decide (c.2.2.2.1.1 = 0) && decide (c.2.2.2.1.2 = 0)) && (decide (c.2.2.2.2.1.1 = 0) && decide (c.2.2.2.2.1.2 = 0)))
   else bif decide (c.1 = 2) then decide (c.2.2.1 = 0) && (roleOk c.2.2.2.1 && (decide (c.2.2.2.2.1.1 = 0) && decide (c.2.2.2.2.1.2 = 0)))
   else bif decide (c.1 = 3) then decide (c.2.2.1 = 0) && (roleOk c.2.2.2.1 && (roleOk c.2.2.2.2.1 && decide (c.2.2.2.2.1.1 = 0)))
   else bif decide (c.1 = 4) then decide (c.2.2.1 = 0) && (roleOk c.2.2.2.1 && roleOk c.2.2.2.2.1)
   else false)))

theorem credOk_i (N : Nat) (c : Den tCred) : x_impl_CredOk N c = some (credOk c) := by
  unfold x_impl_CredOk credOk
  simp only [in_eq, roleOk_i, isPerson_i, Option.bind_some]
  generalize roleOk c.2.1 = a1
  generalize inR c.2.2.2.2.2.1 1 9999 = a2
  generalize inR c.2.2.2.2.2.2 0 99 = a3
  generalize inR c.2.2.1 0 5 = a4
  generalize decide (c.1 = 1) = b1
  generalize decide (c.1 = 2) = b2
  generalize decide (c.1 = 3) = b3
  generalize decide (c.1 = 4) = b4
  generalize decide (c.2.2.1 = 0) = d1
  generalize roleOk c.2.2.2.1 = r1
  generalize roleOk c.2.2.2.2.1 = r2
  generalize (decide (c.2.2.2.1.1 = 0) && decide (c.2.2.2.1.2 = 0)) = z1
  generalize (decide (c.2.2.2.2.1.1 = 0) && decide (c.2.2.2.2.1.2 = 0)) = z2
  cases a1 <;> cases a2 <;> cases a3 <;> try rfl
  cases b1 <;> cases b2 <;> cases b3 <;> cases b4 <;> cases d1 <;> cases r1 <;> cases r2 <;> cases a4 <;> cases z1 <;> rfl

theorem credOk_s (N : Nat) (c : Den tCred) : x_spec_CredOk N c = some (credOk c) := by
  rw [← credOk_i N c]
  unfold x_spec_CredOk x_impl_CredOk
  simp only [in_eq, l01In_eq, roleOk_i, roleOk_s, isPerson_i, Option.bind_some]

end Go.Proofs.Ytcmlapepofgkpaa.C

namespace Go.Proofs.Ytcmlapepofgkpaa.C
open Go Go.Proofs.Ytcmlapepofgkpaa.Nx Go.RowKit
set_option linter.unusedVariables false
set_option linter.unusedSimpArgs false

/-- A number marked. -/
def mkInt (x : Int) (k : Int) : Int × Int := (k, k + 1)
theorem grow_Int : Grow (fun _ : Int => True) mkInt 1 := fun x k _ => ⟨by unfold mkInt; simp; omega, by unfold mkInt; simp⟩

end Go.Proofs.Ytcmlapepofgkpaa.C

namespace Go.Proofs.Ytcmlapepofgkpaa.C
open Go Go.Proofs.Ytcmlapepofgkpaa.Nx Go.RowKit
set_option linter.unusedVariables false
set_option linter.unusedSimpArgs false

theorem iw {x : Int} (h0 : 0 ≤ x) (h1 : x ≤ 9223372036854775807) : IntKind.i64.wrap x = x := by
  rw [← wr_eq]
  exact w64 (by omega) h1

theorem p64 : ((2 ^ 64 : Nat) : Int) = 18446744073709551616 := rfl
theorem andI127 {a : Int} (h0 : 0 ≤ a) (h1 : a ≤ 9223372036854775807) : andI .i64 a 127 = a % 128 := by
  have e : (BitVec.ofInt 64 a &&& BitVec.ofInt 64 127).toNat = a.toNat % 128 := by
    rw [BitVec.toNat_and, BitVec.toNat_ofInt, BitVec.toNat_ofInt]
    have e1 : (a % ((2 ^ 64 : Nat) : Int)).toNat = a.toNat := by
      rw [p64, Int.emod_eq_of_lt h0 (by omega)]
    have e2 : ((127 : Int) % ((2 ^ 64 : Nat) : Int)).toNat = 2 ^ 7 - 1 := by decide
    rw [e1, e2, Nat.and_two_pow_sub_one_eq_mod]
  unfold andI
  rw [pin_eq]
  show IntKind.i64.wrap ((BitVec.ofInt 64 a &&& BitVec.ofInt 64 127).toNat : Int) = _
  rw [e, iw (by omega) (by omega)]
  omega

theorem orI128 {x : Int} (h0 : 0 ≤ x) (h1 : x < 128) : orI .i64 x 128 = x + 128 := by
  have e : (BitVec.ofInt 64 x ||| BitVec.ofInt 64 128).toNat = x.toNat + 128 := by
    rw [BitVec.toNat_or, BitVec.toNat_ofInt, BitVec.toNat_ofInt]
    have e1 : (x % ((2 ^ 64 : Nat) : Int)).toNat = x.toNat := by
      rw [p64, Int.emod_eq_of_lt h0 (by omega)]
    have e2 : ((128 : Int) % ((2 ^ 64 : Nat) : Int)).toNat = 2 ^ 7 * 1 := by decide
    rw [e1, e2, Nat.or_comm, ← Nat.two_pow_add_eq_or_of_lt (by omega)]
    omega
  unfold orI
  rw [pin_eq]
  show IntKind.i64.wrap ((BitVec.ofInt 64 x ||| BitVec.ofInt 64 128).toNat : Int) = _
  rw [e, iw (by omega) (by omega)]
  omega

theorem shr7 {a : Int} (h0 : 0 ≤ a) : shrI .i64 a 7 = a / 128 := by
  unfold shrI
  have : (2 : Int) ^ (min (7 : Int).toNat IntKind.i64.bits) = 128 := by decide
  rw [this, pin_eq, Int.fdiv_eq_ediv_of_nonneg _ (by omega)]

theorem byte_eq {s0 : Int} (h0 : 127 < s0) (h : s0 ≤ 9223372036854775807) : orI .i64 (andI .i64 s0 (127 : Int)) (128 : Int) = wrap64 ((s0.tmod (128 : Int)) + (128 : Int)) := by
  have e : s0.tmod 128 = s0 % 128 := Int.tmod_eq_emod_of_nonneg (by omega)
  rw [andI127 (by omega) h, orI128 (by omega) (by omega), e, w64 (x := s0 % 128 + 128) (by omega) (by omega)]
theorem step_eq {s0 : Int} (h0 : 127 < s0) (h : s0 ≤ 9223372036854775807) : shrI .i64 s0 (7 : Int) = wrap64 (s0.tdiv (128 : Int)) := by
  have e : s0.tdiv 128 = s0 / 128 := Int.tdiv_eq_ediv_of_nonneg (by omega)
  rw [shr7 (by omega), e, w64 (x := s0 / 128) (by omega) (by omega)]
theorem step_le {s0 : Int} (h0 : 127 < s0) (h : s0 ≤ 9223372036854775807) : wrap64 (s0.tdiv (128 : Int)) ≤ 9223372036854775807 := by
  have e : s0.tdiv 128 = s0 / 128 := Int.tdiv_eq_ediv_of_nonneg (by omega)
  rw [e, w64 (x := s0 / 128) (by omega) (by omega)]; omega

theorem var_step {Ω : Type} (N : Nat) (kx : DenS (.pr (.d 0 I) (.o 3 (.i .u8))) → Option Ω) (kr) (f g) {s0 : Int} (s3 : List Int) (h : s0 ≤ 9223372036854775807) (hfg : ∀ a l, a ≤ 9223372036854775807 → f (a, l) = g (a, l)) :
    B_impl_varText_L0 (Ω := Ω) N kx kr f (s0, s3) = B_spec_l01Var_L0 N kx kr g (s0, s3) := by
  unfold B_impl_varText_L0 B_spec_l01Var_L0
  by_cases h1 : 127 < s0
  · simp only [decide_eq_true h1, cond_true, byte_eq h1 h, step_eq h1 h, hfg _ _ (step_le h1 h)]
  · simp only [decide_eq_false h1, cond_false]

theorem iter_zero {S Ω : Type} (B : (S → Option Ω) → S → Option Ω) (s : S) : iter B 0 s = none := rfl
theorem iter_succ {S Ω : Type} (B : (S → Option Ω) → S → Option Ω) (N : Nat) (s : S) : iter B (N + 1) s = B (iter B N) s := rfl
theorem var_iter {Ω : Type} (N : Nat) (kx : DenS (.pr (.d 0 I) (.o 3 (.i .u8))) → Option Ω) (kr) : ∀ (M : Nat) (s0 : Int) (s3 : List Int), s0 ≤ 9223372036854775807 → iter (B_impl_varText_L0 N kx kr) M (s0, s3) = iter (B_spec_l01Var_L0 N kx kr) M (s0, s3) := by
  intro M
  induction M with
  | zero => intro s0 s3 _; rw [iter_zero, iter_zero]
  | succ M ih =>
    intro s0 s3 h
    rw [iter_succ, iter_succ]
    exact var_step N kx kr _ _ s3 h ih

theorem varText_eq (N : Nat) {n : Int} (h : n ≤ 9223372036854775807) : x_impl_varText N n = x_spec_l01Var N n := by
  unfold x_impl_varText
  rw [var_iter N _ _ N n [] h]
  rfl

/-- A number as a text. -/
def vt (N : Nat) (n : Int) : ByteArray := (x_spec_l01Var N n).getD ByteArray.empty
theorem vt_some {N : Nat} (hN : Big N) {n : Int} (h : n ≤ 9223372036854775807) : x_spec_l01Var N n = some (vt N n) ∧ (vt N n).size ≤ 100 ∧ 0 < (vt N n).size := by
  have hN' : 1099511627776 ≤ N := hN
  have key : ∀ (d M : Nat) (s0 : Int) (s3 : List Int), d < M → s0 < ((128 ^ (d + 1) : Nat) : Int) → s0 ≤ 9223372036854775807 → s3.length + d ≤ 90 →
      ∃ r : ByteArray, iter (B_spec_l01Var_L0 N (fun (x1, x2) => (bif (decide ((x2.length + [(x1 % 256)].length) * 1 ≤ 140737488355328)) then some (txt (x2 ++ [(x1 % 256)])) else none)) (fun ρ3 => some (ρ3))) M (s0, s3) = some r ∧ r.size ≤ 100 ∧ 0 < r.size := by
    intro d
    induction d with
    | zero =>
      intro M s0 s3 hM h1 h2 hl
      obtain ⟨M, rfl⟩ : ∃ K, M = K + 1 := ⟨M - 1, by omega⟩
      show ∃ r, (bif _ then _ else (bif _ then _ else _)) = _ ∧ _
      rw [dF (by simp at h1; omega)]
      simp only [cond_false]
      rw [dT (by simp only [List.length_cons, List.length_nil]; omega)]
      have hs : ∀ l : List Int, (txt l).size = l.length := fun l => by simp [txt, ByteArray.size]
      exact ⟨_, rfl, by rw [hs]; simp; omega, by rw [hs]; simp⟩
    | succ d ih =>
      intro M s0 s3 hM h1 h2 hl
      obtain ⟨M, rfl⟩ : ∃ K, M = K + 1 := ⟨M - 1, by omega⟩
      show ∃ r, (bif _ then _ else (bif _ then _ else _)) = _ ∧ _
      by_cases h3 : 127 < s0
      · rw [dT h3]
        simp only [cond_true]
        rw [dT (by simp only [List.length_cons, List.length_nil]; omega)]
        simp only [cond_true]
        refine ih M _ _ (by omega) ?_ ?_ (by simp; omega)
        · rw [Int.tdiv_eq_ediv_of_nonneg (by omega), w64 (by omega) (by omega)]
          rw [Nat.pow_succ] at h1
          generalize 128 ^ (d + 1) = q at h1 ⊢
          omega
        · rw [Int.tdiv_eq_ediv_of_nonneg (by omega), w64 (by omega) (by omega)]; omega
      · rw [dF h3]
        simp only [cond_false]
        rw [dT (by simp only [List.length_cons, List.length_nil]; omega)]
        have hs : ∀ l : List Int, (txt l).size = l.length := fun l => by simp [txt, ByteArray.size]
        exact ⟨_, rfl, by rw [hs]; simp; omega, by rw [hs]; simp⟩
  obtain ⟨r, h1, h2, h3⟩ := key 9 N n [] (by omega) (by omega) h (by simp)
  have e : x_spec_l01Var N n = some r := h1
  unfold vt
  rw [e]
  exact ⟨rfl, h2, h3⟩
end Go.Proofs.Ytcmlapepofgkpaa.C

namespace Go.Proofs.Ytcmlapepofgkpaa.C
open Go Go.Proofs.Ytcmlapepofgkpaa.Nx Go.RowKit
set_option linter.unusedVariables false
set_option linter.unusedSimpArgs false

/-- Numbers that memory holds. -/
def smallC (c : Den tCred) : Prop := ∀ x ∈ [c.1, c.2.1.1, c.2.1.2, c.2.2.1, c.2.2.2.1.1, c.2.2.2.1.2, c.2.2.2.2.1.1, c.2.2.2.2.1.2, c.2.2.2.2.2.1, c.2.2.2.2.2.2], x ≤ 9223372036854775807

/-- The text of a word. -/
def ctext (N : Nat) (c : Den tCred) : ByteArray := (((((((((vt N c.1 ++ vt N c.2.1.1) ++ vt N c.2.1.2) ++ vt N c.2.2.1) ++ vt N c.2.2.2.1.1) ++ vt N c.2.2.2.1.2) ++ vt N c.2.2.2.2.1.1) ++ vt N c.2.2.2.2.1.2) ++ vt N c.2.2.2.2.2.1) ++ vt N c.2.2.2.2.2.2)

theorem spec_CredText {N : Nat} (hN : Big N) (c : Den tCred) (hc : smallC c) : x_spec_CredText N c = some (bif credOk c then ctext N c else ByteArray.empty) ∧ (ctext N c).size ≤ 1000 ∧ 0 < (ctext N c).size := by
  obtain ⟨v1, s1, p1⟩ := vt_some hN (hc c.1 (by simp))
  obtain ⟨v2, s2, p2⟩ := vt_some hN (hc c.2.1.1 (by simp))
  obtain ⟨v3, s3, p3⟩ := vt_some hN (hc c.2.1.2 (by simp))
  obtain ⟨v4, s4, p4⟩ := vt_some hN (hc c.2.2.1 (by simp))
  obtain ⟨v5, s5, p5⟩ := vt_some hN (hc c.2.2.2.1.1 (by simp))
  obtain ⟨v6, s6, p6⟩ := vt_some hN (hc c.2.2.2.1.2 (by simp))
  obtain ⟨v7, s7, p7⟩ := vt_some hN (hc c.2.2.2.2.1.1 (by simp))
  obtain ⟨v8, s8, p8⟩ := vt_some hN (hc c.2.2.2.2.1.2 (by simp))
  obtain ⟨v9, s9, p9⟩ := vt_some hN (hc c.2.2.2.2.2.1 (by simp))
  obtain ⟨v10, s10, p10⟩ := vt_some hN (hc c.2.2.2.2.2.2 (by simp))
  refine ⟨?_, by unfold ctext; simp only [ByteArray.size_append]; omega, by unfold ctext; simp only [ByteArray.size_append]; omega⟩
  unfold x_spec_CredText
  rw [credOk_s, Option.bind_some]
  cases credOk c with
  | false => rfl
  | true =>
    simp only [Bool.not_true, cond_false, cond_true]
    rw [v1, Option.bind_some, v2, Option.bind_some, dT (by omega), cond_true, v3, Option.bind_some, dT (by simp only [ByteArray.size_append]; omega), cond_true, v4, Option.bind_some, dT (by simp only [ByteArray.size_append]; omega), cond_true,
      v5, Option.bind_some, dT (by simp only [ByteArray.size_append]; omega), cond_true, v6, Option.bind_some, dT (by simp only [ByteArray.size_append]; omega), cond_true, v7, Option.bind_some, dT (by simp only [ByteArray.size_append]; omega), cond_true,
      v8, Option.bind_some, dT (by simp only [ByteArray.size_append]; omega), cond_true, v9, Option.bind_some, dT (by simp only [ByteArray.size_append]; omega), cond_true, v10, Option.bind_some, dT (by simp only [ByteArray.size_append]; omega), cond_true]
    rfl

theorem impl_CredText {N : Nat} (hN : Big N) (c : Den tCred) (hc : smallC c) : x_impl_CredText N c = some (bif credOk c then ctext N c else ByteArray.empty) := by
  have hN' : 1099511627776 ≤ N := hN
  unfold x_impl_CredText
  rw [credOk_i, Option.bind_some]
  cases credOk c with
  | false => rfl
  | true =>
    simp only [Bool.not_true, cond_false, cond_true]
    have key : ∀ (l R pre : List Int) (s : ByteArray) (M : Nat), l = pre ++ R → R.length < M → (∀ x ∈ R, x ≤ 9223372036854775807) → s.size + 100 * R.length ≤ 100000 → l.length ≤ 1000 →
        iter (B_impl_CredText_L0 N (fun x3 => some x3) (fun ρ4 => some (ρ4))) M (s, l, (l.length : Int), (pre.length : Int)) = some (R.foldl (fun s x => s ++ vt N x) s) := by
      intro l R
      induction R with
      | nil =>
        intro pre s M ho hM hx hs hl
        obtain ⟨M, rfl⟩ : ∃ K, M = K + 1 := ⟨M - 1, by omega⟩
        rw [iter_succ]
        show (bif _ then _ else _) = _
        rw [dF (by rw [ho]; simp)]; rfl
      | cons x R ih =>
        intro pre s M ho hM hx hs hl
        obtain ⟨M, rfl⟩ : ∃ K, M = K + 1 := ⟨M - 1, by omega⟩
        simp only [List.length_cons] at hM hs
        have hpo : pre.length < l.length := by rw [ho]; simp
        have g1 : l.getD pre.length 0 = x := by rw [ho]; exact gD0 _ _ _ _
        obtain ⟨v, sv, pv⟩ := vt_some hN (hx x (by simp))
        rw [iter_succ]
        show (bif _ then _ else _) = _
        rw [lt_rows l hpo, le_rows pre.length, Int.toNat_natCast, g1, w64_up (Nat.le_refl _) (by omega), varText_eq N (hx x (by simp)), v, Option.bind_some]
        simp only [cond_true, Bool.and_self]
        rw [dT (by omega), cond_true]
        have := ih (pre ++ [x]) (s ++ vt N x) M (by rw [ho]; simp) (by omega) (fun y hy => hx y (by simp [hy])) (by rw [ByteArray.size_append]; omega) hl
        rw [List.length_append] at this
        exact this
    have := key _ _ [] ByteArray.empty N (List.nil_append _).symm (by simp; omega) hc (by simp) (by simp)
    refine Eq.trans this ?_
    simp only [List.foldl_cons, List.foldl_nil, ByteArray.empty_append]
    rfl

/-- Texts of eight. -/
def eights (l : List ByteArray) : Bool := l.all fun e => decide ((e.size : Int) = 8)

theorem spec_Long {N : Nat} (hN : Big N) (l : List ByteArray) (hl : l.length ≤ 1048576) : x_spec_l04Long N l = some (eights l) := by
  have hN' : 1099511627776 ≤ N := hN
  unfold x_spec_l04Long
  refine iter_row l (fun i => (l, (i : Int))) (fun i r => some (eights r)) (fun i hi rec_ h => ?_) (fun rec_ => ?_) (by omega)
  · show (bif _ then _ else _) = _
    rw [lt_rows l hi, le_rows i, getD_at l hi, w64_up (Nat.le_refl i) (by omega), h]
    unfold eights
    rw [List.all_cons]
    cases decide ((l[i].size : Int) = 8) <;> rfl
  · show (bif _ then _ else _) = _
    rw [dF (Int.lt_irrefl _)]; rfl

theorem impl_Long {N : Nat} (hN : Big N) (l : List ByteArray) (hl : l.length ≤ 1048576) : x_slices_ContainsFunc_string_string__impl_signFormed_1 N l = some (!eights l) := by
  have := index_func (d := ByteArray.empty) (L := l) (by omega) () (f := fun x => x_impl_signFormed_1 N x) (fun x : ByteArray => !decide ((x.size : Int) = 8)) (fun x _ => rfl) hN (B := B_slices_IndexFunc_string_string__impl_signFormed_1_L0 N (fun _ => some (-1 : Int)) (fun ρ2 => some (ρ2))) (fun _ _ _ _ => rfl)
  unfold x_slices_ContainsFunc_string_string__impl_signFormed_1 x_slices_IndexFunc_string_string__impl_signFormed_1
  rw [this, Option.bind_some, findI_any]
  unfold eights
  rw [← List.not_all_eq_any_not]

/-- A signature of the right form. -/
def formF (s : Den tSignature) : Bool := inR s.1 0 3 && (decide ((s.2.1.length : Int) = 11) && (decide ((s.2.2.length : Int) = 2) && (eights s.2.1 && eights s.2.2)))

theorem steps_round {N : Nat} {Ω : Type} (kx kr : Int → Option Ω) (rec_ : DenS (.pr (.d 1 I) (.d 2 I)) → Option Ω) (a b c d : Int) (h : (1 : Int) < b) (hc : wrap64 (a + 1) = c) (hd : wrap64 (b.tdiv 2) = d) : B_spec_l04Steps_L0 N kx kr rec_ (a, b) = rec_ (c, d) := by
  subst hc hd
  show (bif decide ((1 : Int) < b) then _ else _) = _
  rw [dT h]; rfl

theorem steps_last {N : Nat} {Ω : Type} (kx kr : Int → Option Ω) (rec_ : DenS (.pr (.d 1 I) (.d 2 I)) → Option Ω) (a b : Int) (h : ¬ (1 : Int) < b) : B_spec_l04Steps_L0 N kx kr rec_ (a, b) = kx a := by
  show (bif decide ((1 : Int) < b) then _ else _) = _
  rw [dF h]; rfl

theorem steps_two {N : Nat} (hN : Big N) : x_spec_l04Steps N = some 2 := by
  have hN' : 1099511627776 ≤ N := hN
  have key : ∀ K M, M = K + 1 + 1 + 1 → iter (B_spec_l04Steps_L0 N (fun x1 => some x1) (fun ρ2 => some ρ2)) M ((0 : Int), (4 : Int)) = some 2 := by
    intro K M h
    subst h
    rw [iter_succ, steps_round _ _ _ 0 4 1 2 (by decide) (by decide +kernel) (by decide +kernel), iter_succ, steps_round _ _ _ 1 2 2 1 (by decide) (by decide +kernel) (by decide +kernel), iter_succ, steps_last _ _ _ _ _ (by decide)]
  exact key (N - 3) N (by omega)

theorem spec_Form {N : Nat} (hN : Big N) (s : Den tSignature) (h1 : s.2.1.length ≤ 1048576) (h2 : s.2.2.length ≤ 1048576) : x_spec_l04Form N s = some (formF s) := by
  unfold x_spec_l04Form formF
  simp only [l01In_eq, steps_two hN, spec_Long hN _ h1, spec_Long hN _ h2, Option.bind_some]
  cases inR s.1 0 3 <;> cases decide ((s.2.1.length : Int) = 11) <;> cases decide ((s.2.2.length : Int) = 2) <;> cases eights s.2.1 <;> rfl

theorem impl_Form {N : Nat} (hN : Big N) (s : Den tSignature) (h1 : s.2.1.length ≤ 1048576) (h2 : s.2.2.length ≤ 1048576) : x_impl_signFormed N s = some (formF s) := by
  unfold x_impl_signFormed formF
  simp only [in_eq, impl_Long hN _ h1, impl_Long hN _ h2, Option.bind_some, Bool.not_not]
  cases inR s.1 0 3 <;> cases decide ((s.2.1.length : Int) = 11) <;> cases decide ((s.2.2.length : Int) = 2) <;> cases eights s.2.1 <;> rfl

/-- Texts one behind the other, each with its length. -/
def catF (N : Nat) (s : ByteArray) (l : List ByteArray) : ByteArray := l.foldl (fun s e => s ++ (vt N (e.size : Int) ++ e)) s

theorem catF_app (N : Nat) (s : ByteArray) (a b : List ByteArray) : catF N s (a ++ b) = catF N (catF N s a) b := List.foldl_append

theorem catF_size {N : Nat} (hN : Big N) : ∀ (l : List ByteArray) (s : ByteArray), eights l = true → (catF N s l).size ≤ s.size + 108 * l.length
  | [], s, _ => Nat.le_refl _
  | e :: l, s, h => by
    unfold eights at h
    rw [List.all_cons, Bool.and_eq_true, decide_eq_true_eq] at h
    have := catF_size hN l (s ++ (vt N (e.size : Int) ++ e)) h.2
    obtain ⟨v, sv, pv⟩ := vt_some hN (n := (e.size : Int)) (by omega)
    unfold catF at this ⊢
    simp only [List.foldl_cons, List.length_cons, ByteArray.size_append] at this ⊢
    omega

/-- The text of vouched words. -/
def vtext (N : Nat) (v : Den tVouched) : ByteArray := catF N ((vt N ((ctext N v.1).size : Int) ++ ctext N v.1) ++ vt N v.2.1) (v.2.2.1 ++ v.2.2.2)

theorem spec_loop {N : Nat} (hN : Big N) {B : ((Den tVouched × ByteArray × Int) → Option ByteArray) → (Den tVouched × ByteArray × Int) → Option ByteArray} (v : Den tVouched) (l : List ByteArray) (kx : ByteArray → Option ByteArray) (hl : l.length ≤ 1000)
    (hB : ∀ rec_ s4 s5, B rec_ (v, s4, s5) = (bif (decide (s5 < (l.length : Int))) then (bif (decide (0 ≤ s5) && decide (s5 < l.length)) then (x_spec_l01Var N (8 : Int)).bind fun r5 => (bif (decide (s4.size + r5.size ≤ 4611686018427387904)) then (bif (decide ((s4 ++ r5).size + (l.getD s5.toNat ByteArray.empty).size ≤ 4611686018427387904)) then rec_ (v, ((s4 ++ r5) ++ (l.getD s5.toNat ByteArray.empty)), (wrap64 (s5 + (1 : Int)))) else none) else none) else none) else kx s4)) :
    ∀ (R pre : List ByteArray) (s : ByteArray) (M : Nat), l = pre ++ R → R.length < M → eights R = true → s.size + 108 * R.length ≤ 1000000000 → iter B M (v, s, (pre.length : Int)) = kx (catF N s R) := by
  intro R
  induction R with
  | nil =>
    intro pre s M ho hM he hs
    obtain ⟨M, rfl⟩ : ∃ K, M = K + 1 := ⟨M - 1, by omega⟩
    rw [iter_succ, hB, dF (by rw [ho]; simp)]; rfl
  | cons e R ih =>
    intro pre s M ho hM he hs
    obtain ⟨M, rfl⟩ : ∃ K, M = K + 1 := ⟨M - 1, by omega⟩
    simp only [List.length_cons] at hM hs
    unfold eights at he
    rw [List.all_cons, Bool.and_eq_true, decide_eq_true_eq] at he
    have hpo : pre.length < l.length := by rw [ho]; simp
    have g1 : l.getD pre.length ByteArray.empty = e := by rw [ho]; exact gD0 _ _ _ _
    obtain ⟨w, sv, pv⟩ := vt_some hN (n := 8) (by omega)
    rw [iter_succ, hB, lt_rows l hpo, le_rows pre.length, Int.toNat_natCast, g1, w64_up (Nat.le_refl _) (by omega), w, Option.bind_some]
    simp only [cond_true, Bool.and_self]
    rw [dT (by omega), dT (by rw [ByteArray.size_append]; omega)]
    simp only [cond_true]
    have := ih (pre ++ [e]) ((s ++ vt N 8) ++ e) M (by rw [ho]; simp) (by omega) he.2 (by simp only [ByteArray.size_append]; omega)
    rw [List.length_append] at this
    refine Eq.trans this ?_
    unfold catF
    rw [List.foldl_cons, he.1, ByteArray.append_assoc]

theorem spec_VouchedText {N : Nat} (hN : Big N) (v : Den tVouched) (hc : smallC v.1) (hf : v.2.1 ≤ 9223372036854775807) (h1 : v.2.2.1.length ≤ 1048576) (h2 : v.2.2.2.length ≤ 1048576) : x_spec_VouchedText N v = some (bif credOk v.1 && formF v.2 then vtext N v else ByteArray.empty) := by
  have hN' : 1099511627776 ≤ N := hN
  obtain ⟨e1, e2, e3⟩ := spec_CredText hN v.1 hc
  unfold x_spec_VouchedText
  rw [e1, Option.bind_some]
  cases credOk v.1 with
  | false => rfl
  | true =>
    have hne : ¬ ctext N v.1 = ByteArray.empty := fun h => by rw [h] at e3; exact absurd e3 (by decide)
    simp only [cond_true, Bool.true_and]
    rw [dF hne, spec_Form hN v.2 h1 h2, Option.bind_some]
    cases hF : formF v.2 with
    | false => rfl
    | true =>
      unfold formF at hF
      simp only [Bool.and_eq_true, decide_eq_true_eq] at hF
      obtain ⟨_, f1, f2, f3, f4⟩ := hF
      obtain ⟨v1, s1, p1⟩ := vt_some hN (n := ((ctext N v.1).size : Int)) (by omega)
      obtain ⟨v2, s2, p2⟩ := vt_some hN hf
      simp only [cond_false, Bool.not_true, cond_true]
      rw [v1, Option.bind_some, dT (by omega), cond_true, v2, Option.bind_some, dT (by rw [ByteArray.size_append]; omega), cond_true]
      have c1 := catF_size hN v.2.2.1 ((vt N ((ctext N v.1).size : Int) ++ ctext N v.1) ++ vt N v.2.1) f3
      simp only [ByteArray.size_append] at c1
      refine (spec_loop hN (B := B_spec_VouchedText_L0 N (fun (x6, x7) => iter (B_spec_VouchedText_L2 N (fun x9 => some x9) (fun ρ10 => some (ρ10))) N (x6, x7, (0 : Int))) (fun ρ11 => some (ρ11))) v v.2.2.1 (fun s => iter (B_spec_VouchedText_L2 N (fun x9 => some x9) (fun ρ10 => some (ρ10))) N (v, s, (0 : Int))) (by omega) (fun _ _ _ => rfl) v.2.2.1 [] _ N rfl (by omega) f3 (by simp only [ByteArray.size_append]; omega)).trans ?_
      refine (spec_loop hN (B := B_spec_VouchedText_L2 N (fun x9 => some x9) (fun ρ10 => some (ρ10))) v v.2.2.2 (fun s => some s) (by omega) (fun _ _ _ => rfl) v.2.2.2 [] _ N rfl (by omega) f4 (by omega)).trans ?_
      unfold vtext
      rw [catF_app]

theorem clone_str (N : Nat) (L : List ByteArray) (hL : L.length ≤ 1048576) : x_slices_Clone_string_string N L = some L := by
  unfold x_slices_Clone_string_string
  simp only [List.length_nil, List.nil_append]
  rw [dT (p := (0 + L.length) * 16 ≤ 140737488355328) (by omega)]
  by_cases h : L.length = 0
  · obtain rfl : L = [] := List.length_eq_zero_iff.1 h
    rw [dT h]
    exact agree_self _
  · rw [dF h]; rfl

theorem eights_app {a b : List ByteArray} (h : eights a = true) (k : eights b = true) : eights (a ++ b) = true := by
  unfold eights at *
  rw [List.all_append, h, k]; rfl

theorem impl_VouchedText {N : Nat} (hN : Big N) (v : Den tVouched) (hc : smallC v.1) (hf : v.2.1 ≤ 9223372036854775807) (h1 : v.2.2.1.length ≤ 1048576) (h2 : v.2.2.2.length ≤ 1048576) : x_impl_VouchedText N v = some (bif credOk v.1 && formF v.2 then vtext N v else ByteArray.empty) := by
  have hN' : 1099511627776 ≤ N := hN
  obtain ⟨e1, e2, e3⟩ := spec_CredText hN v.1 hc
  unfold x_impl_VouchedText
  rw [credOk_i, Option.bind_some]
  cases hC : credOk v.1 with
  | false => rfl
  | true =>
    simp only [cond_false, Bool.not_true, cond_true, Bool.true_and]
    rw [impl_Form hN v.2 h1 h2, Option.bind_some]
    cases hF : formF v.2 with
    | false => rfl
    | true =>
      unfold formF at hF
      simp only [Bool.and_eq_true, decide_eq_true_eq] at hF
      obtain ⟨_, f1, f2, f3, f4⟩ := hF
      obtain ⟨v1, s1, p1⟩ := vt_some hN (n := ((ctext N v.1).size : Int)) (by omega)
      obtain ⟨v2, s2, p2⟩ := vt_some hN hf
      simp only [cond_false, Bool.not_true, cond_true]
      rw [impl_CredText hN v.1 hc, hC, Option.bind_some]
      simp only [cond_true]
      rw [varText_eq N (by omega), v1, Option.bind_some, dT (by omega), cond_true, varText_eq N hf, v2, Option.bind_some, dT (by rw [ByteArray.size_append]; omega), cond_true, clone_str N _ h1, Option.bind_some, dT (by omega), cond_true]
      have key : ∀ (l R pre : List ByteArray) (s : ByteArray) (M : Nat), l = pre ++ R → R.length < M → eights R = true → s.size + 108 * R.length ≤ 1000000000 → l.length ≤ 1000 →
          iter (B_impl_VouchedText_L0 N (fun x8 => some x8) (fun ρ9 => some (ρ9))) M (s, l, (l.length : Int), (pre.length : Int)) = some (catF N s R) := by
        intro l R
        induction R with
        | nil =>
          intro pre s M ho hM he hs hl
          obtain ⟨M, rfl⟩ : ∃ K, M = K + 1 := ⟨M - 1, by omega⟩
          rw [iter_succ]
          show (bif _ then _ else _) = _
          rw [dF (by rw [ho]; simp)]; rfl
        | cons e R ih =>
          intro pre s M ho hM he hs hl
          obtain ⟨M, rfl⟩ : ∃ K, M = K + 1 := ⟨M - 1, by omega⟩
          simp only [List.length_cons] at hM hs
          unfold eights at he
          rw [List.all_cons, Bool.and_eq_true, decide_eq_true_eq] at he
          have hpo : pre.length < l.length := by rw [ho]; simp
          have g1 : l.getD pre.length ByteArray.empty = e := by rw [ho]; exact gD0 _ _ _ _
          obtain ⟨w, sv, pv⟩ := vt_some hN (n := (e.size : Int)) (by omega)
          rw [iter_succ]
          show (bif _ then _ else _) = _
          rw [lt_rows l hpo, le_rows pre.length, Int.toNat_natCast, g1, w64_up (Nat.le_refl _) (by omega), varText_eq N (by omega), w, Option.bind_some]
          simp only [cond_true, Bool.and_self]
          rw [dT (by omega), dT (by rw [ByteArray.size_append]; omega)]
          simp only [cond_true]
          have := ih (pre ++ [e]) (s ++ (vt N (e.size : Int) ++ e)) M (by rw [ho]; simp) (by omega) he.2 (by simp only [ByteArray.size_append]; omega) hl
          rw [List.length_append] at this
          exact this
      refine (key _ _ [] _ N (List.nil_append _).symm (by simp; omega) (eights_app f3 f4) (by simp only [ByteArray.size_append, List.length_append]; omega) (by simp; omega)).trans ?_
      rfl

theorem goodI {x : Int} (g : good I x) : x ≤ 9223372036854775807 := Int.le_trans g.2 (by decide)
theorem smallC_good (c : Den tCred) (g : good tCred c) : smallC c := by
  obtain ⟨g1, g2, g3, g4, g5, g6, g7⟩ := g
  intro x hx
  simp only [List.mem_cons, List.not_mem_nil, or_false] at hx
  rcases hx with rfl | rfl | rfl | rfl | rfl | rfl | rfl | rfl | rfl | rfl
  · exact goodI g1
  · exact goodI g2.1
  · exact goodI g2.2
  · exact goodI g3
  · exact goodI g4.1
  · exact goodI g4.2
  · exact goodI g5.1
  · exact goodI g5.2
  · exact goodI g6
  · exact goodI g7

end Go.Proofs.Ytcmlapepofgkpaa.C

namespace Go.Proofs.Ytcmlapepofgkpaa.C
open Go Go.Proofs.Ytcmlapepofgkpaa.Nx Go.RowKit
set_option linter.unusedVariables false
set_option linter.unusedSimpArgs false

/-! Bytes of texts. -/

theorem byteL_len (s : ByteArray) : (byteL s).length = s.size := by
  unfold byteL
  rw [List.length_map]; rfl
theorem byteL_inj {s t : ByteArray} (h : byteL s = byteL t) : s = t := by
  have e : s.data.toList = t.data.toList := by
    have hi : Function.Injective (fun b : UInt8 => (b.toNat : Int)) := fun a b h => by
      have h : (a.toNat : Int) = (b.toNat : Int) := h
      exact UInt8.toNat_inj.1 (by omega)
    exact List.map_inj_right (fun a b h => hi h) |>.1 h
  cases s; cases t
  simp only [ByteArray.mk.injEq] at *
  exact Array.toList_inj.1 e
theorem byteL_app (s t : ByteArray) : byteL (s ++ t) = byteL s ++ byteL t := by simp [byteL, ByteArray.data_append]
theorem byteL_ext (s : ByteArray) (a b : Nat) : byteL (s.extract a b) = ((byteL s).drop a).take (b - a) := by
  simp [byteL, ByteArray.data_extract, List.extract_eq_take_drop]
theorem byteL_in (s : ByteArray) : ∀ x ∈ byteL s, 0 ≤ x ∧ x ≤ 255 := fun x h => by
  obtain ⟨b, _, rfl⟩ := List.mem_map.1 h
  have := b.toNat_lt
  omega
theorem byteL_txt {l : List Int} (h : ∀ x ∈ l, 0 ≤ x ∧ x ≤ 255) : byteL (txt l) = l := by
  simp only [byteL, txt, List.map_map]
  refine (List.map_congr_left (g := id) fun x hx => ?_).trans (List.map_id _)
  have := h x hx
  simp only [Function.comp, id, UInt8.toNat_ofNat']
  omega
theorem bu_at (s : ByteArray) (i : Nat) : bu s (i : Int) = (byteL s).getD i 0 := by
  rw [bu_eq]
  simp only [bt, byteL, List.getD, List.getElem?_map, Int.toNat_natCast]
  cases s.data.toList[i]? <;> rfl

/-! Numbers as bytes. -/

def val : List Int → Int
  | [] => 0
  | b :: l => b % 128 + 128 * val l
def vl : Nat → Int → List Int
  | 0, n => [n]
  | d + 1, n => if 127 < n then (n % 128 + 128) :: vl d (n / 128) else [n]

theorem val_app (l : List Int) (x : Int) : val (l ++ [x]) = val l + x % 128 * 128 ^ l.length := by
  induction l with
  | nil => simp [val]
  | cons b l ih =>
    rw [List.cons_append, val, ih, val, List.length_cons, Int.pow_succ, Int.mul_add, Int.add_assoc, Int.mul_left_comm]
    congr 2
    rw [Int.mul_comm 128]
theorem val_nn : ∀ l : List Int, 0 ≤ val l ∧ val l < 128 ^ l.length
  | [] => ⟨Int.le_refl _, by decide⟩
  | b :: l => by
    have := val_nn l
    rw [val, List.length_cons, Int.pow_succ]
    omega

theorem vl_in : ∀ d n, 0 ≤ n → n < 128 ^ (d + 1) → ∀ x ∈ vl d n, 0 ≤ x ∧ x ≤ 255
  | 0, n, h0, h1, x, hx => by
    simp only [vl, List.mem_singleton] at hx
    subst hx
    simp at h1
    omega
  | d + 1, n, h0, h1, x, hx => by
    rw [vl] at hx
    split at hx
    · rcases List.mem_cons.1 hx with rfl | hx
      · omega
      · rw [Int.pow_succ] at h1
        exact vl_in d (n / 128) (by omega) (by omega) x hx
    · simp only [List.mem_singleton] at hx
      omega

/-- What is read comes back. -/
theorem vl_val : ∀ (d : Nat) (P : List Int) (x : Int), P.length ≤ d → (∀ b ∈ P, 128 ≤ b ∧ b ≤ 255) → 0 ≤ x → x ≤ 127 → (P = [] ∨ x ≠ 0) → vl d (val (P ++ [x])) = P ++ [x]
  | d, [], x, _, _, h0, h1, _ => by
    have : val ([] ++ [x]) = x := by simp [val]; omega
    rw [this]
    cases d with
    | zero => rfl
    | succ d => rw [vl, if_neg (by omega)]; rfl
  | 0, b :: P, x, hd, _, _, _, _ => by simp at hd
  | d + 1, b :: P, x, hd, hP, h0, h1, h2 => by
    have hx : x ≠ 0 := by rcases h2 with h | h; cases h; exact h
    have hb := hP b (by simp)
    have e : val (b :: P ++ [x]) = b % 128 + 128 * val (P ++ [x]) := rfl
    have hp : 0 < val (P ++ [x]) := by
      rw [val_app]
      have := val_nn P
      have h3 : 0 < x % 128 * 128 ^ P.length := Int.mul_pos (by omega) (Int.pow_pos (by decide))
      omega
    rw [e, vl, if_pos (by omega)]
    have e1 : (b % 128 + 128 * val (P ++ [x])) % 128 + 128 = b := by omega
    have e2 : (b % 128 + 128 * val (P ++ [x])) / 128 = val (P ++ [x]) := by omega
    rw [e1, e2, vl_val d P x (by simpa using hd) (fun y hy => hP y (by simp [hy])) h0 h1 (.inr hx)]
    rfl

theorem vl_last : ∀ (d : Nat) (n : Int), 0 < n → ∀ P, vl d n ≠ P ++ [0]
  | 0, n, h, P, e => by
    cases P with
    | nil => simp [vl] at e; omega
    | cons a P => simp [vl] at e
  | d + 1, n, h, P, e => by
    rw [vl] at e
    split at e
    · cases P with
      | nil =>
        have := congrArg List.length e
        have h2 : ∀ d n, 0 < (vl d n).length := fun d n => by
          cases d with
          | zero => simp [vl]
          | succ d => rw [vl]; split <;> simp
        have := h2 d (n / 128)
        simp at *
        omega
      | cons a P =>
        rw [List.cons_append, List.cons.injEq] at e
        exact vl_last d (n / 128) (by omega) P e.2
    · cases P with
      | nil => simp at e; omega
      | cons a P => simp at e

theorem vl_bad {d : Nat} {P : List Int} (hP : P ≠ []) : vl d (val (P ++ [0])) ≠ P ++ [0] := by
  have h := (val_nn (P ++ [0])).1
  rcases Int.lt_or_eq_of_le h with h | h
  · exact vl_last d _ h P
  · rw [← h]
    intro e
    have := congrArg List.length e
    have h1 : vl d 0 = [0] := by cases d with | zero => rfl | succ d => rw [vl, if_neg (by omega)]
    rw [h1] at this
    cases P with
    | nil => exact hP rfl
    | cons a P => simp at this

/-- The text of a number. -/
theorem vt_vl {N : Nat} (hN : Big N) {n : Int} (h0 : 0 ≤ n) (h : n ≤ 9223372036854775807) : vt N n = txt (vl 9 n) := by
  have hN' : 1099511627776 ≤ N := hN
  have key : ∀ (d M : Nat) (s0 : Int) (s3 : List Int), d < M → 0 ≤ s0 → s0 < 128 ^ (d + 1) → s0 ≤ 9223372036854775807 → s3.length + d ≤ 90 →
      iter (B_spec_l01Var_L0 N (fun (x1, x2) => (bif (decide ((x2.length + [(x1 % 256)].length) * 1 ≤ 140737488355328)) then some (txt (x2 ++ [(x1 % 256)])) else none)) (fun ρ3 => some (ρ3))) M (s0, s3) = some (txt (s3 ++ vl d s0)) := by
    intro d
    induction d with
    | zero =>
      intro M s0 s3 hM h0 h1 h2 hl
      obtain ⟨M, rfl⟩ : ∃ K, M = K + 1 := ⟨M - 1, by omega⟩
      rw [iter_succ]
      show (bif _ then _ else (bif _ then _ else _)) = _
      rw [dF (by simp at h1; omega)]
      simp only [cond_false]
      rw [dT (by simp only [List.length_cons, List.length_nil]; omega), cond_true]
      have : s0 % 256 = s0 := by simp at h1; omega
      rw [this]; rfl
    | succ d ih =>
      intro M s0 s3 hM h0 h1 h2 hl
      obtain ⟨M, rfl⟩ : ∃ K, M = K + 1 := ⟨M - 1, by omega⟩
      rw [iter_succ]
      show (bif _ then _ else (bif _ then _ else _)) = _
      by_cases h3 : 127 < s0
      · rw [dT h3]
        simp only [cond_true]
        rw [dT (by simp only [List.length_cons, List.length_nil]; omega)]
        simp only [cond_true]
        have e1 : s0.tdiv 128 = s0 / 128 := Int.tdiv_eq_ediv_of_nonneg h0
        have e2 : s0.tmod 128 = s0 % 128 := Int.tmod_eq_emod_of_nonneg h0
        rw [e1, e2, w64 (x := s0 / 128) (by omega) (by omega), w64 (x := s0 % 128 + 128) (by omega) (by omega)]
        rw [Int.pow_succ] at h1
        refine (ih M _ _ (by omega) (by omega) (by omega) (by omega) (by simp; omega)).trans ?_
        have e3 : (s0 % 128 + 128) % 256 = s0 % 128 + 128 := by omega
        rw [vl, if_pos h3, e3, List.append_assoc]; rfl
      · rw [dF h3]
        simp only [cond_false]
        rw [dT (by simp only [List.length_cons, List.length_nil]; omega), cond_true]
        have : s0 % 256 = s0 := by omega
        rw [this, vl, if_neg h3]
  have e : x_spec_l01Var N n = some (txt (vl 9 n)) := key 9 N n [] (by omega) h0 (by have : (128 : Int) ^ (9 + 1) = 1180591620717411303424 := by decide
                                                                                     omega) h (by simp)
  unfold vt
  rw [e]; rfl

/-! Numbers read. -/

def rvG (L : List Int) (a : Nat) : Nat → Int → Nat → Int × Int × Bool
  | 0, _, _ => (0, 0, false)
  | f + 1, n, k =>
    if a + k < L.length then
      if 127 < L.getD (a + k) 0 then rvG L a f (n + L.getD (a + k) 0 % 128 * 128 ^ k) (k + 1)
      else if (L.getD (a + k) 0 = 0 ∧ 0 < k) ∨ 1000000000 < n + L.getD (a + k) 0 * 128 ^ k then (0, 0, false)
      else (n + L.getD (a + k) 0 * 128 ^ k, ((a + k + 1 : Nat) : Int), true)
    else (0, 0, false)

def rdV (s : ByteArray) (a : Int) : Int × Int × Bool := bif inR a 0 (s.size : Int) then rvG (byteL s) a.toNat 5 0 0 else (0, 0, false)

theorem getD_in (s : ByteArray) (i : Nat) : 0 ≤ (byteL s).getD i 0 ∧ (byteL s).getD i 0 ≤ 255 := by
  rw [List.getD]
  cases h : (byteL s)[i]? with
  | none => simp
  | some x => exact byteL_in s x (List.mem_of_getElem? h)

theorem take_snoc (L : List Int) (a k : Nat) (h : a + k < L.length) : (L.drop a).take (k + 1) = (L.drop a).take k ++ [L.getD (a + k) 0] := by
  rw [List.take_add_one]
  congr 1
  rw [List.getElem?_drop, List.getD, List.getElem?_eq_getElem h]
  rfl

theorem pow_k {k : Nat} (h : k ≤ 4) : (1 : Int) ≤ 128 ^ k ∧ (128 : Int) ^ k ≤ 268435456 := by
  rcases Nat.lt_or_ge k 1 with h | h
  · obtain rfl : k = 0 := by omega
    decide
  rcases Nat.lt_or_ge k 2 with h | h
  · obtain rfl : k = 1 := by omega
    decide
  rcases Nat.lt_or_ge k 3 with h | h
  · obtain rfl : k = 2 := by omega
    decide
  rcases Nat.lt_or_ge k 4 with h | h
  · obtain rfl : k = 3 := by omega
    decide
  · obtain rfl : k = 4 := by omega
    decide

theorem mul_k {k : Nat} (h : k ≤ 4) {y : Int} (h0 : 0 ≤ y) (h1 : y ≤ 127) : 0 ≤ y * 128 ^ k ∧ y * 128 ^ k ≤ 34091302912 ∧ y * 128 ^ k ≤ 127 * 128 ^ k := by
  have hp := pow_k h
  have m1 : y * 128 ^ k ≤ 127 * 128 ^ k := Int.mul_le_mul_of_nonneg_right h1 (by omega)
  have m0 : 0 ≤ y * 128 ^ k := Int.mul_nonneg h0 (by omega)
  omega

theorem inB_ok {a b c : Nat} (h1 : a ≤ b) (h2 : b ≤ c) : inB (a : Int) (b : Int) (c : Int) = true := by
  unfold inB
  rw [dT (p := (0 : Int) ≤ (a : Int)) (by omega), dT (p := (a : Int) ≤ (b : Int)) (by omega), dT (p := (b : Int) ≤ (c : Int)) (by omega)]; rfl

theorem spec_RVloop {N : Nat} (hN : Big N) (s : ByteArray) (a : Nat) (hs : s.size ≤ 1048576) (ha : a ≤ s.size) :
    ∀ (f k M : Nat) (n : Int), f + k = 5 → f < M → ((byteL s).drop a).take k = ((byteL s).drop a).take k → n = val (((byteL s).drop a).take k) → a + k ≤ s.size → (∀ b ∈ ((byteL s).drop a).take k, 128 ≤ b ∧ b ≤ 255) →
      iter (B_spec_ReadVar_L0 N (fun _ => some ((0 : Int), (0 : Int), false)) (fun ρ3 => some (ρ3))) M (s, (a : Int), n, (128 : Int) ^ k, ((a + k : Nat) : Int)) = some (rvG (byteL s) a f n k) := by
  have hL := byteL_len s
  intro f
  induction f with
  | zero =>
    intro k M n hf hM _ hn hk hP
    obtain ⟨M, rfl⟩ : ∃ K, M = K + 1 := ⟨M - 1, by omega⟩
    obtain rfl : k = 5 := by omega
    rw [iter_succ]
    show (bif _ then (bif _ then _ else _) else _) = _
    rw [dF (p := ((a + 5 : Nat) : Int) < wrap64 ((a : Int) + 5)) (by rw [w64 (by omega) (by omega)]; omega)]
    cases decide (((a + 5 : Nat) : Int) < (s.size : Int)) <;> rfl
  | succ f ih =>
    intro k M n hf hM _ hn hk hP
    obtain ⟨M, rfl⟩ : ∃ K, M = K + 1 := ⟨M - 1, by omega⟩
    have hk4 : k ≤ 4 := by omega
    have hlen : (((byteL s).drop a).take k).length = k := by rw [List.length_take, List.length_drop]; omega
    rw [iter_succ, rvG]
    show (bif _ then (bif _ then (bif _ then (bif _ then _ else _) else _) else _) else _) = _
    by_cases h1 : a + k < s.size
    · rw [dT (p := ((a + k : Nat) : Int) < (s.size : Int)) (by omega), dT (p := ((a + k : Nat) : Int) < wrap64 ((a : Int) + 5)) (by rw [w64 (by omega) (by omega)]; omega), le_rows (a + k), if_pos (by omega)]
      simp only [Bool.and_self, cond_true]
      rw [bu_at]
      have hx := getD_in s (a + k)
      have hts := take_snoc (byteL s) a k (by omega)
      have hva := val_app (((byteL s).drop a).take k) ((byteL s).getD (a + k) 0)
      generalize hxe : (byteL s).getD (a + k) 0 = x at hx hts hva ⊢
      have hnn := val_nn (((byteL s).drop a).take k)
      rw [← hn, hlen] at hnn
      rw [hlen, ← hts, ← hn] at hva
      have hp := pow_k hk4
      have hm := mul_k hk4 (y := x % 128) (by omega) (by omega)
      have e1 : wrap64 x = x := w64 (by omega) (by omega)
      have e2 : x.tmod 128 = x % 128 := Int.tmod_eq_emod_of_nonneg (by omega)
      have e3 : wrap64 (x % 128 * 128 ^ k) = x % 128 * 128 ^ k := w64 (by omega) (by omega)
      have e4 : wrap64 (n + x % 128 * 128 ^ k) = n + x % 128 * 128 ^ k := w64 (by omega) (by omega)
      rw [e1, e2, e3, e4]
      by_cases h2 : x < 128
      · have e5 : x % 128 = x := by omega
        rw [dT h2, if_neg (by omega), e5]
        rw [e5] at hva hm
        rw [cond_true]
        by_cases h3 : 1000000000 < n + x * 128 ^ k
        · rw [dT h3, if_pos (.inr h3)]; rfl
        · have e6 : wrap64 (((a + k : Nat) : Int) + 1) = ((a + k + 1 : Nat) : Int) := w64_up (Nat.le_refl _) (by omega)
          have e7 : inB (a : Int) ((a + k + 1 : Nat) : Int) (s.size : Int) = true := inB_ok (Nat.le_trans (Nat.le_add_right a k) (Nat.le_succ _)) h1
          rw [dF h3, e6, e7]
          rw [cond_false, cond_true]
          rw [(vt_some hN (by omega)).1, Option.bind_some, vt_vl hN (by omega) (by omega)]
          have e8 : byteL (s.extract (a : Int).toNat ((a + k + 1 : Nat) : Int).toNat) = ((byteL s).drop a).take k ++ [x] := by
            rw [byteL_ext, Int.toNat_natCast, Int.toNat_natCast, ← hts]
            congr 1
            omega
          have e9 : byteL (txt (vl 9 (n + x * 128 ^ k))) = vl 9 (n + x * 128 ^ k) := byteL_txt (vl_in 9 _ (by omega) (by
            have : (128 : Int) ^ (9 + 1) = 1180591620717411303424 := by decide
            omega))
          have e10 : n + x * 128 ^ k = val (((byteL s).drop a).take k ++ [x]) := by rw [← hts, hva]
          by_cases h4 : x = 0 ∧ 0 < k
          · rw [if_pos (.inl h4), dF (fun h => by
              have h5 := congrArg byteL h
              rw [e8, e9, e10, h4.1] at h5
              exact vl_bad (by intro h6; rw [h6] at hlen; simp at hlen; omega) h5)]
            rfl
          · rw [if_neg (by rintro (h | h); exact h4 h; exact h3 h), dT (byteL_inj (by
              rw [e8, e9, e10]
              refine vl_val 9 _ x (by omega) hP (by omega) (by omega) ?_
              by_cases h5 : k = 0
              · subst h5; exact .inl (List.length_eq_zero_iff.1 hlen)
              · exact .inr (fun h6 => h4 ⟨h6, by omega⟩)))]
            rfl
      · rw [dF h2, if_pos (by omega), cond_false]
        have e5 : wrap64 (128 ^ k * 128) = (128 : Int) ^ (k + 1) := by rw [w64 (by omega) (by omega), Int.pow_succ]
        rw [e5, w64_up (Nat.le_refl _) (by omega)]
        refine ih (k + 1) M _ (by omega) (by omega) rfl hva.symm (by omega) (fun b hb => ?_)
        rw [hts, List.mem_append, List.mem_singleton] at hb
        rcases hb with hb | rfl
        · exact hP b hb
        · omega
    · rw [dF (p := ((a + k : Nat) : Int) < (s.size : Int)) (by omega), if_neg (by omega)]; rfl

theorem spec_RV {N : Nat} (hN : Big N) (s : ByteArray) (hs : s.size ≤ 1048576) (a : Int) : x_spec_ReadVar N s a = some (rdV s a) := by
  have hN' : 1099511627776 ≤ N := hN
  unfold x_spec_ReadVar rdV
  rw [l01In_eq, Option.bind_some]
  cases h : inR a 0 (s.size : Int) with
  | false => rfl
  | true =>
    simp only [inR, Bool.and_eq_true, decide_eq_true_eq] at h
    obtain ⟨a, rfl⟩ := Int.eq_ofNat_of_zero_le h.1
    simp only [Bool.not_true, cond_false, cond_true]
    exact spec_RVloop hN s a hs (by omega) 5 0 N 0 rfl (by omega) rfl rfl (by omega) (fun b hb => by simp at hb)

theorem or_add {n y : Int} {k : Nat} (hk : k ≤ 4) (h0 : 0 ≤ n) (h1 : n < 128 ^ k) (hy0 : 0 ≤ y) (hy1 : y ≤ 127) : orI .i64 n (shlI .i64 y (wrap64 (7 * (k : Int)))) = n + y * 128 ^ k := by
  have hp := pow_k hk
  have hm := mul_k hk hy0 hy1
  have e0 : wrap64 (7 * (k : Int)) = ((7 * k : Nat) : Int) := by rw [w64 (by omega) (by omega)]; omega
  have e1 : (2 : Int) ^ (min ((7 * k : Nat) : Int).toNat IntKind.i64.bits) = 128 ^ k := by
    have : min ((7 * k : Nat) : Int).toNat IntKind.i64.bits = 7 * k := by
      show min _ 64 = _
      rw [Int.toNat_natCast]; omega
    rw [this, Int.pow_mul]; rfl
  have e2 : shlI .i64 y (wrap64 (7 * (k : Int))) = y * 128 ^ k := by
    unfold shlI
    rw [pin_eq, e0, e1, iw (by omega) (by omega)]
  rw [e2]
  unfold orI
  rw [pin_eq]
  obtain ⟨m, rfl⟩ := Int.eq_ofNat_of_zero_le h0
  obtain ⟨z, rfl⟩ := Int.eq_ofNat_of_zero_le hy0
  have e3 : ((128 : Int) ^ k) = ((2 ^ (7 * k) : Nat) : Int) := by
    rw [Nat.pow_mul, Int.natCast_pow]; rfl
  rw [e3] at h1 hm ⊢
  rw [← Int.natCast_mul] at hm ⊢
  have e4 : (BitVec.ofInt 64 (m : Int) ||| BitVec.ofInt 64 ((z * 2 ^ (7 * k) : Nat) : Int)).toNat = m + z * 2 ^ (7 * k) := by
    rw [BitVec.toNat_or, BitVec.toNat_ofInt, BitVec.toNat_ofInt, p64]
    have f1 : ((m : Int) % 18446744073709551616).toNat = m := by omega
    have f2 : (((z * 2 ^ (7 * k) : Nat) : Int) % 18446744073709551616).toNat = z * 2 ^ (7 * k) := by omega
    rw [f1, f2, Nat.or_comm, Nat.mul_comm, ← Nat.two_pow_add_eq_or_of_lt (by omega)]
    omega
  show IntKind.i64.wrap (((BitVec.ofInt 64 (m : Int) ||| BitVec.ofInt 64 ((z * 2 ^ (7 * k) : Nat) : Int)).toNat : Nat) : Int) = _
  rw [e4, iw (by omega) (by omega)]
  omega

theorem impl_RVloop {N : Nat} (hN : Big N) (s : ByteArray) (a : Nat) (hs : s.size ≤ 1048576) (ha : a ≤ s.size) :
    ∀ (f k M : Nat) (n : Int), f + k = 5 → f < M → 0 ≤ n → n < 128 ^ k →
      iter (B_impl_ReadVar_L0 N (fun _ => some ((0 : Int), (0 : Int), false)) (fun ρ3 => some (ρ3))) M (s, (a : Int), n, (k : Int)) = some (rvG (byteL s) a f n k) := by
  have hL := byteL_len s
  intro f
  induction f with
  | zero =>
    intro k M n hf hM h0 h1
    obtain ⟨M, rfl⟩ : ∃ K, M = K + 1 := ⟨M - 1, by omega⟩
    rw [iter_succ]
    show (bif _ then _ else _) = _
    rw [dF (p := (k : Int) < 5) (by omega)]; rfl
  | succ f ih =>
    intro k M n hf hM h0 hn
    obtain ⟨M, rfl⟩ : ∃ K, M = K + 1 := ⟨M - 1, by omega⟩
    have hk4 : k ≤ 4 := by omega
    rw [iter_succ, rvG]
    show (bif _ then (bif _ then (bif _ then (bif _ then (bif _ then _ else (bif _ then (bif _ then _ else (bif _ then _ else _)) else (bif _ then _ else _))) else _) else _) else _) else _) = _
    have e0 : wrap64 ((a : Int) + (k : Int)) = ((a + k : Nat) : Int) := by rw [w64 (by omega) (by omega)]; omega
    rw [e0, dT (p := (k : Int) < 5) (by omega), cond_true]
    by_cases h1 : a + k < s.size
    · rw [dT (p := ((a + k : Nat) : Int) < (s.size : Int)) (by omega), le_rows (a + k), dT (p := 0 ≤ wrap64 (7 * (k : Int))) (by rw [w64 (by omega) (by omega)]; omega), if_pos (by omega)]
      simp only [Bool.and_self, cond_true]
      rw [bu_at]
      have hx := getD_in s (a + k)
      generalize hxe : (byteL s).getD (a + k) 0 = x at hx ⊢
      have hp := pow_k hk4
      have hm := mul_k hk4 (y := x % 128) (by omega) (by omega)
      have e1 : wrap64 x = x := w64 (by omega) (by omega)
      have e2 : wrap64 (((a + k : Nat) : Int) + 1) = ((a + k + 1 : Nat) : Int) := w64_up (Nat.le_refl _) (by omega)
      rw [e1, andI127 (by omega) (by omega), or_add hk4 h0 hn (by omega) (by omega), e2]
      by_cases h2 : 127 < x
      · rw [dT h2, if_pos h2, cond_true, w64_up (Nat.le_refl _) (by omega)]
        refine ih (k + 1) M _ (by omega) (by omega) (by omega) ?_
        rw [Int.pow_succ]
        omega
      · have e5 : x % 128 = x := by omega
        rw [dF h2, if_neg h2, e5, cond_false]
        by_cases h3 : 1000000000 < n + x * 128 ^ k
        · rw [dT h3, if_pos (.inr h3)]
          cases decide (x = 0) <;> cases decide ((0 : Int) < (k : Int)) <;> rfl
        · rw [dF h3]
          by_cases h4 : x = 0
          · rw [dT h4]
            by_cases h5 : 0 < k
            · rw [dT (by omega), if_pos (.inl ⟨h4, h5⟩)]; rfl
            · rw [dF (by omega), if_neg (by rintro (h | h); exact h5 h.2; exact h3 h)]; rfl
          · rw [dF h4, if_neg (by rintro (h | h); exact h4 h.1; exact h3 h)]; rfl
    · rw [dF (p := ((a + k : Nat) : Int) < (s.size : Int)) (by omega), if_neg (by omega)]; rfl

theorem impl_RV {N : Nat} (hN : Big N) (s : ByteArray) (hs : s.size ≤ 1048576) (a : Int) : x_impl_ReadVar N s a = some (rdV s a) := by
  have hN' : 1099511627776 ≤ N := hN
  unfold x_impl_ReadVar rdV
  rw [in_eq, Option.bind_some]
  cases h : inR a 0 (s.size : Int) with
  | false => rfl
  | true =>
    simp only [inR, Bool.and_eq_true, decide_eq_true_eq] at h
    obtain ⟨a, rfl⟩ := Int.eq_ofNat_of_zero_le h.1
    simp only [Bool.not_true, cond_false, cond_true]
    exact impl_RVloop hN s a hs (by omega) 5 0 N 0 rfl (by omega) (by omega) (by decide)

/-- What is known of a number that was read. -/
theorem rvG_ok {N : Nat} (hN : Big N) (s : ByteArray) (a : Nat) (ha : a ≤ s.size) : ∀ (f k : Nat) (n : Int), f + k = 5 → n = val (((byteL s).drop a).take k) → a + k ≤ s.size → (∀ b ∈ ((byteL s).drop a).take k, 128 ≤ b ∧ b ≤ 255) →
    (rvG (byteL s) a f n k).2.2 = true → ∃ m : Nat, (rvG (byteL s) a f n k).2.1 = (m : Int) ∧ a < m ∧ m ≤ s.size ∧ 0 ≤ (rvG (byteL s) a f n k).1 ∧ (rvG (byteL s) a f n k).1 ≤ 1000000000 ∧ vt N (rvG (byteL s) a f n k).1 = s.extract a m := by
  have hL := byteL_len s
  intro f
  induction f with
  | zero => intro k n hf hn hk hP h; cases h
  | succ f ih =>
    intro k n hf hn hk hP
    have hk4 : k ≤ 4 := by omega
    rw [rvG]
    by_cases h1 : a + k < s.size
    · rw [if_pos (by omega)]
      have hlen : (((byteL s).drop a).take k).length = k := by rw [List.length_take, List.length_drop]; omega
      have hx := getD_in s (a + k)
      have hts := take_snoc (byteL s) a k (by omega)
      have hva := val_app (((byteL s).drop a).take k) ((byteL s).getD (a + k) 0)
      generalize hxe : (byteL s).getD (a + k) 0 = x at hx hts hva ⊢
      have hnn := val_nn (((byteL s).drop a).take k)
      rw [← hn, hlen] at hnn
      rw [hlen, ← hts, ← hn] at hva
      have hp := pow_k hk4
      by_cases h2 : 127 < x
      · rw [if_pos h2]
        refine ih (k + 1) _ (by omega) hva.symm (by omega) (fun b hb => ?_)
        rw [hts, List.mem_append, List.mem_singleton] at hb
        rcases hb with hb | rfl
        · exact hP b hb
        · omega
      · rw [if_neg h2]
        have e5 : x % 128 = x := by omega
        rw [e5] at hva
        have hm := mul_k hk4 (y := x) (by omega) (by omega)
        by_cases h3 : (x = 0 ∧ 0 < k) ∨ 1000000000 < n + x * 128 ^ k
        · rw [if_pos h3]; intro h; cases h
        · rw [if_neg h3]
          intro _
          have h4 : ¬ (x = 0 ∧ 0 < k) := fun h => h3 (.inl h)
          have h5 : ¬ 1000000000 < n + x * 128 ^ k := fun h => h3 (.inr h)
          refine ⟨a + k + 1, rfl, by omega, by omega, by dsimp only; omega, by dsimp only; omega, ?_⟩
          dsimp only
          rw [vt_vl hN (by omega) (by omega)]
          refine byteL_inj ?_
          have e10 : n + x * 128 ^ k = val (((byteL s).drop a).take k ++ [x]) := by rw [← hts, hva]
          rw [byteL_txt (vl_in 9 _ (by omega) (by
            have : (128 : Int) ^ (9 + 1) = 1180591620717411303424 := by decide
            omega)), e10, vl_val 9 _ x (by omega) hP (by omega) (by omega) (by
              by_cases h5 : k = 0
              · subst h5; exact .inl (List.length_eq_zero_iff.1 hlen)
              · exact .inr (fun h6 => h4 ⟨h6, by omega⟩)), byteL_ext, ← hts]
          congr 1
          omega
    · rw [if_neg (by omega)]; intro h; cases h

theorem rdV_ok {N : Nat} (hN : Big N) (s : ByteArray) (a : Int) (h : (rdV s a).2.2 = true) : ∃ k m : Nat, a = (k : Int) ∧ (rdV s a).2.1 = (m : Int) ∧ k < m ∧ m ≤ s.size ∧ 0 ≤ (rdV s a).1 ∧ (rdV s a).1 ≤ 1000000000 ∧ vt N (rdV s a).1 = s.extract k m := by
  unfold rdV at h ⊢
  cases h1 : inR a 0 (s.size : Int) with
  | false => rw [h1] at h; cases h
  | true =>
    rw [h1] at h
    simp only [inR, Bool.and_eq_true, decide_eq_true_eq] at h1
    obtain ⟨a, rfl⟩ := Int.eq_ofNat_of_zero_le h1.1
    obtain ⟨m, h⟩ := rvG_ok hN s a (by omega) 5 0 0 rfl rfl (by omega) (fun b hb => by simp at hb) h
    exact ⟨a, m, rfl, h⟩
end Go.Proofs.Ytcmlapepofgkpaa.C

namespace Go.Proofs.Ytcmlapepofgkpaa.C
open Go Go.Proofs.Ytcmlapepofgkpaa.Nx Go.RowKit
set_option linter.unusedVariables false
set_option linter.unusedSimpArgs false

/-- A short text read. -/
def rdS (s : ByteArray) (a : Int) : ByteArray × Int × Bool :=
  bif !(rdV s a).2.2 then (ByteArray.empty, 0, false) else bif decide (20000 < (rdV s a).1) then (ByteArray.empty, 0, false)
  else bif decide (((s.size : Int) - (rdV s a).2.1) < (rdV s a).1) then (ByteArray.empty, 0, false)
  else (s.extract (rdV s a).2.1.toNat ((rdV s a).2.1 + (rdV s a).1).toNat, (rdV s a).2.1 + (rdV s a).1, true)

theorem spec_RS {N : Nat} (hN : Big N) (s : ByteArray) (hs : s.size ≤ 1048576) (a : Int) : x_spec_ReadShort N s a = some (rdS s a) := by
  unfold x_spec_ReadShort rdS
  rw [spec_RV hN s hs a, Option.bind_some]
  cases h : (rdV s a).2.2 with
  | false => rfl
  | true =>
    obtain ⟨k, m, _, h2, h3, h4, h5, h6, _⟩ := rdV_ok hN s a h
    have e1 : wrap64 ((s.size : Int) - (rdV s a).2.1) = (s.size : Int) - (rdV s a).2.1 := w64 (by omega) (by omega)
    have e2 : wrap64 ((rdV s a).2.1 + (rdV s a).1) = (rdV s a).2.1 + (rdV s a).1 := w64 (by omega) (by omega)
    rw [e1, e2]
    by_cases h7 : 20000 < (rdV s a).1
    · rw [dT h7]; rfl
    · rw [dF h7]
      by_cases h8 : ((s.size : Int) - (rdV s a).2.1) < (rdV s a).1
      · rw [dT h8]; rfl
      · rw [dF h8]
        have e3 : inB (rdV s a).2.1 ((rdV s a).2.1 + (rdV s a).1) (s.size : Int) = true := by
          unfold inB
          rw [dT (p := 0 ≤ (rdV s a).2.1) (by omega), dT (p := (rdV s a).2.1 ≤ (rdV s a).2.1 + (rdV s a).1) (by omega), dT (p := (rdV s a).2.1 + (rdV s a).1 ≤ (s.size : Int)) (by omega)]; rfl
        rw [e3]; rfl

theorem impl_RS {N : Nat} (hN : Big N) (s : ByteArray) (hs : s.size ≤ 1048576) (a : Int) : x_impl_ReadShort N s a = some (rdS s a) := by
  rw [← spec_RS hN s hs a]
  unfold x_impl_ReadShort x_spec_ReadShort
  rw [spec_RV hN s hs a, impl_RV hN s hs a]

theorem rdS_size (s : ByteArray) (hs : s.size ≤ 1048576) (a : Int) : (rdS s a).1.size ≤ 1048576 := by
  unfold rdS
  cases (!(rdV s a).2.2) with
  | true => exact (by decide : ByteArray.empty.size ≤ 1048576)
  | false =>
    cases decide (20000 < (rdV s a).1) with
    | true => exact (by decide : ByteArray.empty.size ≤ 1048576)
    | false =>
      cases decide (((s.size : Int) - (rdV s a).2.1) < (rdV s a).1) with
      | true => exact (by decide : ByteArray.empty.size ≤ 1048576)
      | false =>
        show (s.extract _ _).size ≤ _
        rw [ByteArray.size_extract]
        omega

/-- Numbers read, one behind the other. -/
def reads (s : ByteArray) : Nat → Int → Option (List Int × Int)
  | 0, a => some ([], a)
  | c + 1, a => bif (rdV s a).2.2 then (reads s c (rdV s a).2.1).map (fun q => ((rdV s a).1 :: q.1, q.2)) else none

theorem reads_ok {N : Nat} (hN : Big N) (s : ByteArray) : ∀ (c k : Nat) (l : List Int) (e : Int) (t : ByteArray), k ≤ s.size → reads s c (k : Int) = some (l, e) →
    l.length = c ∧ (∀ x ∈ l, 0 ≤ x ∧ x ≤ 1000000000) ∧ ∃ m : Nat, e = (m : Int) ∧ k ≤ m ∧ m ≤ s.size ∧ l.foldl (fun t n => t ++ vt N n) t = t ++ s.extract k m
  | 0, k, l, e, t, hk, h => by
    simp only [reads, Option.some.injEq, Prod.mk.injEq] at h
    obtain ⟨rfl, rfl⟩ := h
    refine ⟨rfl, fun x hx => by simp at hx, k, rfl, Nat.le_refl _, hk, ?_⟩
    have : s.extract k k = ByteArray.empty := byteL_inj (by rw [byteL_ext, Nat.sub_self, List.take_zero]; rfl)
    rw [this, ByteArray.append_empty]; rfl
  | c + 1, k, l, e, t, hk, h => by
    rw [reads] at h
    cases h1 : (rdV s (k : Int)).2.2 with
    | false => rw [h1] at h; cases h
    | true =>
      rw [h1, cond_true] at h
      obtain ⟨k', m, hk', h2, h3, h4, h5, h6, h7⟩ := rdV_ok hN s k h1
      obtain rfl : k = k' := by omega
      rw [h2] at h
      cases h8 : reads s c (m : Int) with
      | none => rw [h8] at h; cases h
      | some q =>
        obtain ⟨l', e'⟩ := q
        rw [h8] at h
        simp only [Option.map_some, Option.some.injEq, Prod.mk.injEq] at h
        obtain ⟨rfl, rfl⟩ := h
        obtain ⟨g1, g2, m', g3, g4, g5, g6⟩ := reads_ok hN s c m l' e' (t ++ vt N (rdV s (k : Int)).1) h4 h8
        refine ⟨by rw [List.length_cons, g1], fun x hx => ?_, m', g3, by omega, g5, ?_⟩
        · rcases List.mem_cons.1 hx with rfl | hx
          · exact ⟨h5, h6⟩
          · exact g2 x hx
        · rw [List.foldl_cons, g6, h7, ByteArray.append_assoc]
          congr 1
          refine byteL_inj ?_
          rw [byteL_app, byteL_ext, byteL_ext, byteL_ext]
          have e1 : m' - k = (m - k) + (m' - m) := by omega
          have e2 : (byteL s).drop m = ((byteL s).drop k).drop (m - k) := by rw [List.drop_drop]; congr 1; omega
          rw [e1, e2, List.take_add]

theorem spec_reads {N : Nat} (hN : Big N) (s : ByteArray) (hs : s.size ≤ 1048576) (c0 : Den tCred) (kx : DenS (.pr (.d 0 .tx) (.pr (.bx 2 tCred) (.o 4 I))) → Option ((Den tCred) × Bool)) :
    ∀ (c i M : Nat) (acc : List Int) (a : Int), c + i = 10 → c < M → acc.length = i →
      iter (B_spec_ReadCred_L0 N kx (fun ρ7 => some (ρ7))) M (s, c0, acc, a, (i : Int)) = match reads s c a with | none => some (((0 : Int), ((0 : Int), (0 : Int)), (0 : Int), ((0 : Int), (0 : Int)), ((0 : Int), (0 : Int)), (0 : Int), (0 : Int)), false) | some q => kx (s, c0, acc ++ q.1)
  | 0, i, M, acc, a, hc, hM, ha => by
    obtain ⟨M, rfl⟩ : ∃ K, M = K + 1 := ⟨M - 1, by omega⟩
    rw [iter_succ]
    show (bif _ then _ else _) = _
    rw [dF (p := (i : Int) < 10) (by omega), cond_false, reads]
    show kx _ = kx _
    rw [List.append_nil]
  | c + 1, i, M, acc, a, hc, hM, ha => by
    obtain ⟨M, rfl⟩ : ∃ K, M = K + 1 := ⟨M - 1, by omega⟩
    rw [iter_succ]
    show (bif _ then _ else _) = _
    rw [dT (p := (i : Int) < 10) (by omega), cond_true, spec_RV hN s hs a, Option.bind_some, reads]
    cases h : (rdV s a).2.2 with
    | false => rfl
    | true =>
      rw [Bool.not_true, cond_false, cond_true, dT (p := (acc.length + [(rdV s a).1].length) * 8 ≤ 140737488355328) (by simp only [List.length_cons, List.length_nil]; omega), cond_true, w64_up (Nat.le_refl _) (by omega)]
      refine (spec_reads hN s hs c0 kx c (i + 1) M (acc ++ [(rdV s a).1]) (rdV s a).2.1 (by omega) (by omega) (by simp [ha])).trans ?_
      cases reads s c (rdV s a).2.1 with
      | none => rfl
      | some q => show kx _ = kx _; rw [List.append_assoc]; rfl

theorem impl_reads {N : Nat} (hN : Big N) (s : ByteArray) (hs : s.size ≤ 1048576) :
    ∀ (c i M : Nat) (acc : List Int) (a : Int), c + i = 10 → c < M → acc.length = i →
      iter (B_impl_readVars_L0 N (fun (x2, x3) => some (x3, x2, true)) (fun ρ4 => some (ρ4))) M (s, a, acc, (10 : Int), (i : Int)) = match reads s c a with | none => some ([], (0 : Int), false) | some q => some (acc ++ q.1, q.2, true)
  | 0, i, M, acc, a, hc, hM, ha => by
    obtain ⟨M, rfl⟩ : ∃ K, M = K + 1 := ⟨M - 1, by omega⟩
    rw [iter_succ]
    show (bif _ then _ else _) = _
    rw [dF (p := (i : Int) < 10) (by omega), cond_false, reads]
    show some _ = some _
    rw [List.append_nil]
  | c + 1, i, M, acc, a, hc, hM, ha => by
    obtain ⟨M, rfl⟩ : ∃ K, M = K + 1 := ⟨M - 1, by omega⟩
    rw [iter_succ]
    show (bif _ then _ else _) = _
    rw [dT (p := (i : Int) < 10) (by omega), cond_true, impl_RV hN s hs a, Option.bind_some, reads]
    cases h : (rdV s a).2.2 with
    | false => rfl
    | true =>
      rw [Bool.not_true, cond_false, cond_true, dT (p := (acc.length + [(rdV s a).1].length) * 8 ≤ 140737488355328) (by simp only [List.length_cons, List.length_nil]; omega), cond_true, w64_up (Nat.le_refl _) (by omega)]
      refine (impl_reads hN s hs c (i + 1) M (acc ++ [(rdV s a).1]) (rdV s a).2.1 (by omega) (by omega) (by simp [ha])).trans ?_
      cases reads s c (rdV s a).2.1 with
      | none => rfl
      | some q => show some _ = some _; rw [List.append_assoc]; rfl

def noCred : Den tCred := ((0 : Int), ((0 : Int), (0 : Int)), (0 : Int), ((0 : Int), (0 : Int)), ((0 : Int), (0 : Int)), (0 : Int), (0 : Int))
def credAt (l : List Int) : Den tCred := (l.getD 0 0, (l.getD 1 0, l.getD 2 0), l.getD 3 0, (l.getD 4 0, l.getD 5 0), (l.getD 6 0, l.getD 7 0), l.getD 8 0, l.getD 9 0)

/-- A word read. -/
def rdC (s : ByteArray) : Den tCred × Bool := match reads s 10 0 with
  | none => (noCred, false)
  | some q => bif decide (q.2 = (s.size : Int)) && credOk (credAt q.1) then (credAt q.1, true) else (noCred, false)

theorem ten {l : List Int} (h : l.length = 10) : ∃ a b c d e f g i j k, l = [a, b, c, d, e, f, g, i, j, k] := by
  match l, h with
  | [a, b, c, d, e, f, g, i, j, k], _ => exact ⟨a, b, c, d, e, f, g, i, j, k, rfl⟩

theorem bnd {n k : Nat} (h : k < n) : (decide (0 ≤ ((k : Nat) : Int)) && decide (((k : Nat) : Int) < (n : Int))) = true := inr h

theorem rdC_small {N : Nat} (hN : Big N) (s : ByteArray) : smallC (rdC s).1 := by
  unfold rdC
  have hz : smallC noCred := fun x hx => by
    simp only [noCred, List.mem_cons, List.not_mem_nil, or_false] at hx
    rcases hx with rfl | rfl | rfl | rfl | rfl | rfl | rfl | rfl | rfl | rfl <;> decide
  cases h : reads s 10 0 with
  | none => exact hz
  | some q =>
    obtain ⟨l, e⟩ := q
    obtain ⟨h1, h2, _⟩ := reads_ok hN s 10 0 l e ByteArray.empty (by omega) h
    dsimp only
    cases decide (e = (s.size : Int)) && credOk (credAt l) with
    | false => exact hz
    | true =>
      obtain ⟨a, b, c, d, e, f, g, i, j, k, rfl⟩ := ten h1
      intro x hx
      have : x ∈ [a, b, c, d, e, f, g, i, j, k] := hx
      exact Int.le_trans (h2 x this).2 (by decide)

set_option maxHeartbeats 1000000 in
theorem spec_RC {N : Nat} (hN : Big N) (s : ByteArray) (hs : s.size ≤ 1048576) : x_spec_ReadCred N s = some (rdC s) := by
  have hN' : 1099511627776 ≤ N := hN
  unfold x_spec_ReadCred
  refine (spec_reads hN s hs _ _ 10 0 N [] 0 rfl (by omega) rfl).trans ?_
  unfold rdC
  cases h : reads s 10 0 with
  | none => rfl
  | some q =>
    obtain ⟨l, e⟩ := q
    obtain ⟨h1, h2, m, rfl, _, h3, h4⟩ := reads_ok hN s 10 0 l e ByteArray.empty (by omega) h
    have hsm : smallC (credAt l) := by
      obtain ⟨a, b, c, d, e, f, g, i, j, k, rfl⟩ := ten h1
      intro x hx
      have : x ∈ [a, b, c, d, e, f, g, i, j, k] := hx
      exact Int.le_trans (h2 x this).2 (by decide)
    have hct : ctext N (credAt l) = s.extract 0 m := by
      rw [ByteArray.empty_append] at h4
      rw [← h4]
      obtain ⟨a, b, c, d, e, f, g, i, j, k, rfl⟩ := ten h1
      simp only [List.foldl_cons, List.foldl_nil, ByteArray.empty_append]
      rfl
    have hem : decide (ctext N (credAt l) = s) = decide ((m : Int) = (s.size : Int)) := by
      rw [hct]
      by_cases hm : m = s.size
      · subst hm
        rw [dT rfl, dT (byteL_inj (by rw [byteL_ext, List.drop_zero, Nat.sub_zero, ← byteL_len, List.take_length]))]
      · rw [dF (p := (m : Int) = (s.size : Int)) (by omega), dF (p := s.extract 0 m = s) (fun h => hm (by rw [← congrArg ByteArray.size h, ByteArray.size_extract]; omega))]
    dsimp only
    rw [List.nil_append]
    have b : ∀ k : Nat, k < 10 → (decide (0 ≤ ((k : Nat) : Int)) && decide (((k : Nat) : Int) < l.length)) = true := fun k hk => by rw [h1]; exact bnd hk
    rw [show (decide (0 ≤ (0 : Int)) && decide ((0 : Int) < l.length)) = true from b 0 (by decide), cond_true,
      show (decide (0 ≤ (1 : Int)) && decide ((1 : Int) < l.length)) = true from b 1 (by decide), cond_true,
      show (decide (0 ≤ (2 : Int)) && decide ((2 : Int) < l.length)) = true from b 2 (by decide), cond_true,
      show (decide (0 ≤ (3 : Int)) && decide ((3 : Int) < l.length)) = true from b 3 (by decide), cond_true,
      show (decide (0 ≤ (4 : Int)) && decide ((4 : Int) < l.length)) = true from b 4 (by decide), cond_true,
      show (decide (0 ≤ (5 : Int)) && decide ((5 : Int) < l.length)) = true from b 5 (by decide), cond_true,
      show (decide (0 ≤ (6 : Int)) && decide ((6 : Int) < l.length)) = true from b 6 (by decide), cond_true,
      show (decide (0 ≤ (7 : Int)) && decide ((7 : Int) < l.length)) = true from b 7 (by decide), cond_true,
      show (decide (0 ≤ (8 : Int)) && decide ((8 : Int) < l.length)) = true from b 8 (by decide), cond_true,
      show (decide (0 ≤ (9 : Int)) && decide ((9 : Int) < l.length)) = true from b 9 (by decide), cond_true]
    have hr := (spec_CredText hN (credAt l) hsm).1
    have hk := credOk_s N (credAt l)
    refine (congrArg (fun o => Option.bind o _) hk).trans ?_
    rw [Option.bind_some]
    cases hC : credOk (credAt l) with
    | false => rw [Bool.and_false]; rfl
    | true =>
      rw [hC, cond_true] at hr
      rw [Bool.not_true, cond_false, Bool.and_true]
      refine (congrArg (fun o => Option.bind o _) hr).trans ?_
      rw [Option.bind_some, hem]
      cases decide ((m : Int) = (s.size : Int)) <;> rfl

set_option maxHeartbeats 1000000 in
theorem impl_RC {N : Nat} (hN : Big N) (s : ByteArray) (hs : s.size ≤ 1048576) : x_impl_ReadCred N s = some (rdC s) := by
  have hN' : 1099511627776 ≤ N := hN
  unfold x_impl_ReadCred
  have e : x_impl_readVars N s (0 : Int) (10 : Int) = match reads s 10 0 with | none => some ([], (0 : Int), false) | some q => some ([] ++ q.1, q.2, true) := impl_reads hN s hs 10 0 N [] 0 rfl (by omega) rfl
  rw [e]
  unfold rdC
  cases h : reads s 10 0 with
  | none => rfl
  | some q =>
    obtain ⟨l, e⟩ := q
    obtain ⟨h1, h2, m, rfl, _, h3, h4⟩ := reads_ok hN s 10 0 l e ByteArray.empty (by omega) h
    dsimp only
    rw [List.nil_append, Option.bind_some]
    dsimp only
    rw [Bool.not_true, cond_false]
    cases decide ((m : Int) = (s.size : Int)) with
    | false => rfl
    | true =>
      rw [Bool.not_true, cond_false, Bool.true_and]
      have b : ∀ k : Nat, k < 10 → (decide (0 ≤ ((k : Nat) : Int)) && decide (((k : Nat) : Int) < l.length)) = true := fun k hk => by rw [h1]; exact bnd hk
      rw [show (decide (0 ≤ (0 : Int)) && decide ((0 : Int) < l.length)) = true from b 0 (by decide), cond_true,
        show (decide (0 ≤ (1 : Int)) && decide ((1 : Int) < l.length)) = true from b 1 (by decide), cond_true,
        show (decide (0 ≤ (2 : Int)) && decide ((2 : Int) < l.length)) = true from b 2 (by decide), cond_true,
        show (decide (0 ≤ (3 : Int)) && decide ((3 : Int) < l.length)) = true from b 3 (by decide), cond_true,
        show (decide (0 ≤ (4 : Int)) && decide ((4 : Int) < l.length)) = true from b 4 (by decide), cond_true,
        show (decide (0 ≤ (5 : Int)) && decide ((5 : Int) < l.length)) = true from b 5 (by decide), cond_true,
        show (decide (0 ≤ (6 : Int)) && decide ((6 : Int) < l.length)) = true from b 6 (by decide), cond_true,
        show (decide (0 ≤ (7 : Int)) && decide ((7 : Int) < l.length)) = true from b 7 (by decide), cond_true,
        show (decide (0 ≤ (8 : Int)) && decide ((8 : Int) < l.length)) = true from b 8 (by decide), cond_true,
        show (decide (0 ≤ (9 : Int)) && decide ((9 : Int) < l.length)) = true from b 9 (by decide), cond_true]
      have hk := credOk_i N (credAt l)
      refine (congrArg (fun o => Option.bind o _) hk).trans ?_
      rw [Option.bind_some]
      cases credOk (credAt l) <;> rfl
end Go.Proofs.Ytcmlapepofgkpaa.C

namespace Go.Proofs.Ytcmlapepofgkpaa.C
open Go Go.Proofs.Ytcmlapepofgkpaa.Nx Go.RowKit
set_option linter.unusedVariables false
set_option linter.unusedSimpArgs false

/-- Short texts read, one behind the other. -/
def shorts (s : ByteArray) : Nat → Int → Option (List ByteArray)
  | 0, a => some []
  | c + 1, a => bif (rdS s a).2.2 then (shorts s c (rdS s a).2.1).map (fun q => (rdS s a).1 :: q) else none

theorem shorts_ok (s : ByteArray) (hs : s.size ≤ 1048576) : ∀ (c : Nat) (a : Int) (l : List ByteArray), shorts s c a = some l → l.length = c ∧ ∀ x ∈ l, x.size ≤ 1048576
  | 0, a, l, h => by
    simp only [shorts, Option.some.injEq] at h
    subst h
    exact ⟨rfl, fun x hx => by simp at hx⟩
  | c + 1, a, l, h => by
    rw [shorts] at h
    cases h1 : (rdS s a).2.2 with
    | false => rw [h1] at h; cases h
    | true =>
      rw [h1, cond_true] at h
      cases h2 : shorts s c (rdS s a).2.1 with
      | none => rw [h2] at h; cases h
      | some q =>
        rw [h2] at h
        simp only [Option.map_some, Option.some.injEq] at h
        subst h
        obtain ⟨g1, g2⟩ := shorts_ok s hs c _ q h2
        refine ⟨by rw [List.length_cons, g1], fun x hx => ?_⟩
        rcases List.mem_cons.1 hx with rfl | hx
        · exact rdS_size s hs a
        · exact g2 x hx

def noV : Den tVouched := (((0 : Int), ((0 : Int), (0 : Int)), (0 : Int), ((0 : Int), (0 : Int)), ((0 : Int), (0 : Int)), (0 : Int), (0 : Int)), (0 : Int), [], [])

theorem spec_shorts {N : Nat} (hN : Big N) (s : ByteArray) (hs : s.size ≤ 1048576) (n1 n2 : Den tVouched) (c1 : Den tCred) (leaf : Int) (kx : DenS (.pr (.d 0 .tx) (.pr (.bx 2 tVouched) (.pr (.bx 4 tVouched) (.bx 13 tVouched)))) → Option ((Den tVouched) × Bool)) :
    ∀ (c i M : Nat) (E W : List ByteArray) (a : Int), c + i = 13 → c < M → E.length + W.length = i →
      iter (B_spec_ReadVouched_L0 N kx (fun ρ11 => some (ρ11))) M (s, n1, n2, a, (c1, leaf, E, W), (i : Int)) = match shorts s c a with | none => some (n2, false) | some q => kx (s, n1, n2, (c1, leaf, E ++ q.take (11 - i), W ++ q.drop (11 - i)))
  | 0, i, M, E, W, a, hc, hM, ha => by
    obtain ⟨M, rfl⟩ : ∃ K, M = K + 1 := ⟨M - 1, by omega⟩
    rw [iter_succ]
    show (x_spec_l04Steps N).bind _ = _
    rw [steps_two hN, Option.bind_some]
    show (bif _ then _ else _) = _
    have e : wrap64 ((11 : Int) + 2) = 13 := by decide +kernel
    rw [e, dF (p := (i : Int) < 13) (by omega), cond_false, shorts]
    show kx _ = kx _
    rw [List.take_nil, List.drop_nil, List.append_nil, List.append_nil]
  | c + 1, i, M, E, W, a, hc, hM, ha => by
    obtain ⟨M, rfl⟩ : ∃ K, M = K + 1 := ⟨M - 1, by omega⟩
    rw [iter_succ]
    show (x_spec_l04Steps N).bind _ = _
    rw [steps_two hN, Option.bind_some]
    show (bif _ then _ else _) = _
    have e : wrap64 ((11 : Int) + 2) = 13 := by decide +kernel
    rw [e, dT (p := (i : Int) < 13) (by omega), cond_true, spec_RS hN s hs a, Option.bind_some, shorts]
    cases h : (rdS s a).2.2 with
    | false => rfl
    | true =>
      rw [Bool.not_true, cond_false, cond_true]
      by_cases h11 : i < 11
      · rw [dT (p := (i : Int) < 11) (by omega), cond_true]
        show (bif decide ((E.length + [(rdS s a).1].length) * 16 ≤ 140737488355328) then _ else _) = _
        rw [dT (p := (E.length + [(rdS s a).1].length) * 16 ≤ 140737488355328) (by simp only [List.length_cons, List.length_nil]; omega), cond_true, w64_up (Nat.le_refl _) (by omega)]
        refine (spec_shorts hN s hs n1 n2 c1 leaf kx c (i + 1) M (E ++ [(rdS s a).1]) W (rdS s a).2.1 (by omega) (by omega) (by simp; omega)).trans ?_
        cases shorts s c (rdS s a).2.1 with
        | none => rfl
        | some q =>
          show kx _ = kx _
          have e1 : 11 - i = (11 - (i + 1)) + 1 := by omega
          rw [e1, List.take_succ_cons, List.drop_succ_cons, List.append_assoc]; rfl
      · rw [dF (p := (i : Int) < 11) (by omega), cond_false]
        show (bif decide ((W.length + [(rdS s a).1].length) * 16 ≤ 140737488355328) then _ else _) = _
        rw [dT (p := (W.length + [(rdS s a).1].length) * 16 ≤ 140737488355328) (by simp only [List.length_cons, List.length_nil]; omega), cond_true, w64_up (Nat.le_refl _) (by omega)]
        refine (spec_shorts hN s hs n1 n2 c1 leaf kx c (i + 1) M E (W ++ [(rdS s a).1]) (rdS s a).2.1 (by omega) (by omega) (by simp; omega)).trans ?_
        cases shorts s c (rdS s a).2.1 with
        | none => rfl
        | some q =>
          show kx _ = kx _
          have e1 : 11 - i = 0 := by omega
          have e2 : 11 - (i + 1) = 0 := by omega
          rw [e1, e2, List.take_zero, List.take_zero, List.drop_zero, List.drop_zero, List.append_assoc]; rfl

theorem impl_shorts {N : Nat} (hN : Big N) (s : ByteArray) (hs : s.size ≤ 1048576) (n1 : Den tVouched) (c1 : Den tCred) (leaf : Int) (kx : DenS (.pr (.d 0 .tx) (.pr (.bx 2 tVouched) (.pr (.bx 7 tCred) (.pr (.d 9 I) (.o 11 .tx))))) → Option ((Den tVouched) × Bool)) :
    ∀ (c i M : Nat) (E : List ByteArray) (a : Int), c + i = 13 → c < M → E.length = i →
      iter (B_impl_ReadVouched_L0 N kx (fun ρ18 => some (ρ18))) M (s, n1, a, c1, leaf, E, (i : Int)) = match shorts s c a with | none => some (noV, false) | some q => kx (s, n1, c1, leaf, E ++ q)
  | 0, i, M, E, a, hc, hM, ha => by
    obtain ⟨M, rfl⟩ : ∃ K, M = K + 1 := ⟨M - 1, by omega⟩
    rw [iter_succ]
    show (bif _ then _ else _) = _
    rw [dF (p := (i : Int) < 13) (by omega), cond_false, shorts]
    show kx _ = kx _
    rw [List.append_nil]
  | c + 1, i, M, E, a, hc, hM, ha => by
    obtain ⟨M, rfl⟩ : ∃ K, M = K + 1 := ⟨M - 1, by omega⟩
    rw [iter_succ]
    show (bif _ then _ else _) = _
    rw [dT (p := (i : Int) < 13) (by omega), cond_true, impl_RS hN s hs a, Option.bind_some, shorts]
    cases h : (rdS s a).2.2 with
    | false => rfl
    | true =>
      rw [Bool.not_true, cond_false, cond_true, dT (p := (E.length + [(rdS s a).1].length) * 16 ≤ 140737488355328) (by simp only [List.length_cons, List.length_nil]; omega), cond_true, w64_up (Nat.le_refl _) (by omega)]
      refine (impl_shorts hN s hs n1 c1 leaf kx c (i + 1) M (E ++ [(rdS s a).1]) (rdS s a).2.1 (by omega) (by omega) (by simp [ha])).trans ?_
      cases shorts s c (rdS s a).2.1 with
      | none => rfl
      | some q => show kx _ = kx _; rw [List.append_assoc]; rfl

/-- The text of vouched words, where they are right. -/
def vText (N : Nat) (v : Den tVouched) : ByteArray := bif credOk v.1 && formF v.2 then vtext N v else ByteArray.empty

/-- Vouched words read. -/
def rdVo (N : Nat) (t : ByteArray) : Den tVouched × Bool :=
  bif (rdS t 0).2.2 && ((rdC (rdS t 0).1).2 && (rdV t (rdS t 0).2.1).2.2) then
    (match shorts t 13 (rdV t (rdS t 0).2.1).2.1 with
    | none => (noV, false)
    | some q => bif decide (vText N ((rdC (rdS t 0).1).1, (rdV t (rdS t 0).2.1).1, q.take 11, q.drop 11) = t) then (((rdC (rdS t 0).1).1, (rdV t (rdS t 0).2.1).1, q.take 11, q.drop 11), true) else (noV, false))
  else (noV, false)

theorem rdV_le {N : Nat} (hN : Big N) (t : ByteArray) (a : Int) (h : (rdV t a).2.2 = true) : (rdV t a).1 ≤ 9223372036854775807 := by
  obtain ⟨_, _, _, _, _, _, _, h, _⟩ := rdV_ok hN t a h
  exact Int.le_trans h (by decide)

theorem spec_RVo {N : Nat} (hN : Big N) (t : ByteArray) (hs : t.size ≤ 1048576) : x_spec_ReadVouched N t = some (rdVo N t) := by
  have hN' : 1099511627776 ≤ N := hN
  unfold x_spec_ReadVouched rdVo
  rw [spec_RS hN t hs, Option.bind_some]
  cases h1 : (rdS t 0).2.2 with
  | false => rfl
  | true =>
    rw [Bool.not_true, cond_false, spec_RC hN _ (rdS_size t hs 0), Option.bind_some, spec_RV hN t hs, Option.bind_some, Bool.true_and]
    cases h2 : (rdC (rdS t 0).1).2 with
    | false => rfl
    | true =>
      rw [Bool.not_true, cond_false, Bool.true_and]
      cases h3 : (rdV t (rdS t 0).2.1).2.2 with
      | false => rfl
      | true =>
        rw [Bool.not_true, cond_false, cond_true]
        refine (spec_shorts hN t hs noV noV (rdC (rdS t 0).1).1 (rdV t (rdS t 0).2.1).1 _ 13 0 N [] [] (rdV t (rdS t 0).2.1).2.1 rfl (by omega) rfl).trans ?_
        cases h4 : shorts t 13 (rdV t (rdS t 0).2.1).2.1 with
        | none => rfl
        | some q =>
          obtain ⟨h5, h6⟩ := shorts_ok t hs 13 _ q h4
          have e := spec_VouchedText hN ((rdC (rdS t 0).1).1, (rdV t (rdS t 0).2.1).1, q.take 11, q.drop 11) (rdC_small hN _) (rdV_le hN t _ h3) (by rw [List.length_take]; omega) (by rw [List.length_drop]; omega)
          refine (congrArg (fun o => Option.bind o _) e).trans ?_
          rw [Option.bind_some]
          show (bif !decide (vText N ((rdC (rdS t 0).1).1, (rdV t (rdS t 0).2.1).1, q.take 11, q.drop 11) = t) then _ else _) = some (bif decide (vText N ((rdC (rdS t 0).1).1, (rdV t (rdS t 0).2.1).1, q.take 11, q.drop 11) = t) then _ else _)
          cases decide (vText N ((rdC (rdS t 0).1).1, (rdV t (rdS t 0).2.1).1, q.take 11, q.drop 11) = t) <;> rfl

theorem impl_RVo {N : Nat} (hN : Big N) (t : ByteArray) (hs : t.size ≤ 1048576) : x_impl_ReadVouched N t = some (rdVo N t) := by
  have hN' : 1099511627776 ≤ N := hN
  unfold x_impl_ReadVouched rdVo
  rw [impl_RS hN t hs, Option.bind_some, impl_RC hN _ (rdS_size t hs 0), Option.bind_some, impl_RV hN t hs, Option.bind_some]
  cases h1 : (rdS t 0).2.2 with
  | false => rfl
  | true =>
    rw [Bool.not_true, cond_false, Bool.true_and]
    cases h2 : (rdC (rdS t 0).1).2 with
    | false => rfl
    | true =>
      rw [Bool.not_true, cond_false, Bool.true_and]
      cases h3 : (rdV t (rdS t 0).2.1).2.2 with
      | false => rfl
      | true =>
        rw [Bool.not_true, cond_false, cond_true]
        refine (impl_shorts hN t hs noV (rdC (rdS t 0).1).1 (rdV t (rdS t 0).2.1).1 _ 13 0 N [] (rdV t (rdS t 0).2.1).2.1 rfl (by omega) rfl).trans ?_
        cases h4 : shorts t 13 (rdV t (rdS t 0).2.1).2.1 with
        | none => rfl
        | some q =>
          obtain ⟨h5, h6⟩ := shorts_ok t hs 13 _ q h4
          have e := impl_VouchedText hN ((rdC (rdS t 0).1).1, (rdV t (rdS t 0).2.1).1, q.take 11, q.drop 11) (rdC_small hN _) (rdV_le hN t _ h3) (by rw [List.length_take]; omega) (by rw [List.length_drop]; omega)
          dsimp only
          rw [List.nil_append]
          have f1 : (q.drop ((0 : Int).toNat)).take ((11 : Int).toNat - (0 : Int).toNat) = q.take 11 := rfl
          have f2 : (q.drop ((11 : Int).toNat)).take ((q.length : Int).toNat - (11 : Int).toNat) = q.drop 11 := by
            rw [h5]
            exact List.take_of_length_le (by rw [List.length_drop, h5]; decide)
          have f3 : inB (0 : Int) (11 : Int) (q.length : Int) = true := by rw [h5]; rfl
          have f4 : inB (11 : Int) (q.length : Int) (q.length : Int) = true := by rw [h5]; rfl
          rw [f1, f2, f3, f4, clone_str N (q.take 11) (by rw [List.length_take]; omega), clone_str N (q.drop 11) (by rw [List.length_drop]; omega)]
          simp only [Option.bind_some, agree_self]
          rw [cond_true, cond_true]
          refine (congrArg (fun o => Option.bind o _) e).trans ?_
          rw [Option.bind_some]
          show (bif !decide (vText N ((rdC (rdS t 0).1).1, (rdV t (rdS t 0).2.1).1, q.take 11, q.drop 11) = t) then _ else _) = some (bif decide (vText N ((rdC (rdS t 0).1).1, (rdV t (rdS t 0).2.1).1, q.take 11, q.drop 11) = t) then _ else _)
          cases decide (vText N ((rdC (rdS t 0).1).1, (rdV t (rdS t 0).2.1).1, q.take 11, q.drop 11) = t) <;> rfl

theorem noV_ok : okz tVouched noV := by
  refine ⟨⟨trivial, ⟨trivial, trivial⟩, trivial, ⟨trivial, trivial⟩, ⟨trivial, trivial⟩, trivial, trivial⟩, trivial, ⟨by decide, fun x hx => ?_⟩, by decide, fun x hx => ?_⟩
  · cases hx
  · cases hx

theorem rdVo_ok (N : Nat) (t : ByteArray) (hs : t.size ≤ 1048576) : okz tVouched (rdVo N t).1 := by
  unfold rdVo
  cases (rdS t 0).2.2 && ((rdC (rdS t 0).1).2 && (rdV t (rdS t 0).2.1).2.2) with
  | false => exact noV_ok
  | true =>
    rw [cond_true]
    cases h4 : shorts t 13 (rdV t (rdS t 0).2.1).2.1 with
    | none => exact noV_ok
    | some q =>
      obtain ⟨h5, h6⟩ := shorts_ok t hs 13 _ q h4
      dsimp only
      cases decide (vText N ((rdC (rdS t 0).1).1, (rdV t (rdS t 0).2.1).1, q.take 11, q.drop 11) = t) with
      | false => exact noV_ok
      | true =>
        refine ⟨⟨trivial, ⟨trivial, trivial⟩, trivial, ⟨trivial, trivial⟩, ⟨trivial, trivial⟩, trivial, trivial⟩, trivial, ⟨?_, fun x hx => ?_⟩, ?_, fun x hx => ?_⟩
        · show (q.take 11).length ≤ _
          rw [List.length_take]; omega
        · exact h6 x (List.mem_of_mem_take hx)
        · show (q.drop 11).length ≤ _
          rw [List.length_drop]; omega
        · exact h6 x (List.mem_of_mem_drop hx)

/-! Marks. -/

def mtx (N : Nat) (k : Int) : ByteArray := (x_laws_markText N k).getD ByteArray.empty
theorem mtx_some {N : Nat} (hN : Big N) (k : Int) (hk : k ≤ 9223372036854775807) : x_laws_markText N k = some (mtx N k) := by
  have hN' : 1099511627776 ≤ N := hN
  have : ∃ r, x_laws_markText N k = some r := by
    unfold x_laws_markText
    by_cases h : k ≤ 0
    · rw [dT h]; exact ⟨_, rfl⟩
    · rw [dF h]
      refine digits (kx := fun x1 => (bif (decide ((⟨#[109]⟩ : ByteArray).size + x1.size ≤ 4611686018427387904)) then some ((⟨#[109]⟩ : ByteArray) ++ x1) else none)) (fun rec_ s0 s3 => rfl) (fun s hs => ?_) 19 k ByteArray.empty N (by omega) (by omega) (by omega) hk (by decide)
      have : (⟨#[109]⟩ : ByteArray).size = 1 := rfl
      rw [dT (by omega)]; exact ⟨_, rfl⟩
  obtain ⟨r, h⟩ := this
  unfold mtx
  rw [h]; rfl

def mkTx (N : Nat) (x : ByteArray) (k : Int) : ByteArray × Int := (mtx N k, k + 1)
theorem grow_Tx (N : Nat) : Grow (fun _ : ByteArray => True) (mkTx N) 1 := fun x k _ => ⟨by unfold mkTx; simp; omega, by unfold mkTx; simp⟩

theorem mk_StrS {N : Nat} (hN : Big N) (L : List ByteArray) (hL : L.length ≤ 1048576) (k : Int) (h0 : 0 ≤ k) (hk : k + ((1 * L.length : Nat) : Int) ≤ 9223372036854775806) : x_laws_markStringS N L k = some ((mkL (mkTx N) L k).2, (mkL (mkTx N) L k).1, ()) := by
  have hN' : 1099511627776 ≤ N := hN
  have e := mark_rows (B := B_laws_markStringS_L0 N (fun (x2, x3) => some (x3, x2, ())) (fun ρ3 => some (ρ3))) (kx := fun s => some (s.2, s.1, ())) (grow_Tx N)
    (fun rec_ pre x post k _ h0 hk hl => by
      show (bif _ then _ else _) = _
      rw [mtx_some hN k (by omega), Option.bind_some, w64 (x := k + 1) (by omega) (by omega), w64_up (Nat.le_refl _) (by omega)]
      simp only [at_lt, at_le, Int.toNat_natCast, st0, gD0, Bool.and_self, cond_true, mkTx])
    (fun rec_ L k => by
      show (bif _ then _ else _) = _
      simp only [at_end, cond_false])
    L [] k N (by omega) (fun _ _ => trivial) h0 hk (by simp; omega)
  unfold x_laws_markStringS
  refine (congrArg (fun o => Option.bind o _) e).trans ?_
  rw [Option.bind_some]
  dsimp only
  rw [List.nil_append, beq_len (mkL_len _ _ _)]; rfl

theorem hd_StrS {N : Nat} (hN : Big N) (L : List ByteArray) (hL : L.length ≤ 1048576) (k : Int) (h0 : 0 ≤ k) (hk : k + ((1 * L.length : Nat) : Int) ≤ 9223372036854775806) : x_laws_heldStringS N (mkL (mkTx N) L k).1 k = some (mkL (mkTx N) L k).2 := by
  have hN' : 1099511627776 ≤ N := hN
  exact held_rows (B := B_laws_heldStringS_L0 N (fun x2 => some x2) (fun ρ3 => some (ρ3))) (kx := fun s => some s) (grow_Tx N)
    (fun rec_ pre x post k _ h0 hk hl => by
      show (bif _ then _ else _) = _
      rw [mtx_some hN k (by omega), w64 (x := k + 1) (by omega) (by omega), w64_up (Nat.le_refl _) (by omega)]
      have e1 : (mkTx N x k).1 = mtx N k := rfl
      have e2 : (mkTx N x k).2 = k + 1 := rfl
      rw [e2, ← e1]
      generalize (mkTx N x k).1 = y
      simp only [at_lt, at_le, Int.toNat_natCast, gD0, Bool.and_self, cond_true, Option.bind_some, decide_true, Bool.not_true, cond_false])
    (fun rec_ L k => by
      show (bif _ then _ else _) = _
      simp only [at_end, cond_false])
    L [] k N (by omega) (fun _ _ => trivial) h0 hk (by simp; omega)

theorem mark_Vouched {N : Nat} (hN : Big N) (v : Den tVouched) (hv : okz tVouched v) : ∃ (r : Int) (a b : List ByteArray), x_laws_markVouched N v 1 = some (r, ((((), ((), ()), (), ((), ()), ((), ()), (), ()), (), a, b), ())) ∧ 0 ≤ r ∧ ∀ c l, x_laws_heldVouched N (c, l, a, b) 1 = some r := by
  have h1 : v.2.2.1.length ≤ 1048576 := hv.2.2.1.1
  have h2 : v.2.2.2.length ≤ 1048576 := hv.2.2.2.1
  have g1 := mkL_grow (grow_Tx N) v.2.2.1 1 fun _ _ => trivial
  have g2 := mkL_grow (grow_Tx N) v.2.2.2 (mkL (mkTx N) v.2.2.1 1).2 fun _ _ => trivial
  have m1 := mk_StrS hN v.2.2.1 h1 1 (by decide) (by omega)
  have m2 := mk_StrS hN v.2.2.2 h2 (mkL (mkTx N) v.2.2.1 1).2 (by omega) (by omega)
  have d1 := hd_StrS hN v.2.2.1 h1 1 (by decide) (by omega)
  have d2 := hd_StrS hN v.2.2.2 h2 (mkL (mkTx N) v.2.2.1 1).2 (by omega) (by omega)
  refine ⟨(mkL (mkTx N) v.2.2.2 (mkL (mkTx N) v.2.2.1 1).2).2, (mkL (mkTx N) v.2.2.1 1).1, (mkL (mkTx N) v.2.2.2 (mkL (mkTx N) v.2.2.1 1).2).1, ?_, by omega, fun c l => ?_⟩
  · unfold x_laws_markVouched x_laws_markSignature
    rw [m1, Option.bind_some, m2, Option.bind_some, Option.bind_some]
    dsimp only
    rw [beq_len (mkL_len _ _ _), beq_len (mkL_len _ _ _)]
    simp only [Bool.and_self, cond_true, Option.bind_some]
    rw [beq_len (mkL_len _ _ _), beq_len (mkL_len _ _ _)]
    rfl
  · unfold x_laws_heldVouched x_laws_heldSignature
    dsimp only
    rw [d1, Option.bind_some, dF (p := (mkL (mkTx N) v.2.2.1 1).2 < 0) (by omega), cond_false, d2, Option.bind_some, dF (p := (mkL (mkTx N) v.2.2.2 (mkL (mkTx N) v.2.2.1 1).2).2 < 0) (by omega), cond_false, Option.bind_some, dF (p := (mkL (mkTx N) v.2.2.2 (mkL (mkTx N) v.2.2.1 1).2).2 < 0) (by omega), cond_false]

theorem pure_FnExactReadVouched (a0 : ByteArray) (g0 : good .tx a0) : ∃ N, x_laws_FnExactReadVouched N a0 = some true := by
  refine ⟨1099511627776, ?_⟩
  have hN : Big 1099511627776 := Nat.le_refl _
  generalize 1099511627776 = N at hN
  unfold x_laws_FnExactReadVouched
  by_cases h : (1048576 : Int) < (a0.size : Int)
  · rw [dT h]; rfl
  · have hs : a0.size ≤ 1048576 := by omega
    have hv := rdVo_ok N a0 hs
    obtain ⟨r, a, b, m1, m2, m3⟩ := mark_Vouched hN (rdVo N a0).1 hv
    rw [dF h, cond_false, spec_RVo hN a0 hs, Option.bind_some, impl_RVo hN a0 hs, Option.bind_some, eq_Vouched hN _ hv, Option.bind_some, Bool.not_true, cond_false, beq_self_eq_true, Bool.not_true, cond_false, m1, Option.bind_some]
    dsimp only
    rw [m3, Option.bind_some, dF (p := r < 0) (by omega), cond_false, dT (p := r = r) rfl, Bool.not_true, cond_false, Option.bind_some, eq_Vouched hN _ hv, Option.bind_some, Bool.not_true, cond_false, beq_self_eq_true, Bool.not_true, cond_false, Option.bind_some, dF (p := r < 0) (by omega), cond_false, dT (p := r = r) rfl]
    rfl
end Go.Proofs.Ytcmlapepofgkpaa.C
