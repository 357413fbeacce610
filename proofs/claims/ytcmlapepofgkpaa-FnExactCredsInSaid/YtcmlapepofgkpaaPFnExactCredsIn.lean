/- The data that the two functions compute are alike, for all arguments that memory can hold. -/
import Derived.Test.YtcmlapepofgkpaaHFnExactCredsIn
set_option linter.unusedVariables false
set_option linter.unusedSimpArgs false
namespace Go.Proofs.Ytcmlapepofgkpaa.C
open Go Go.Proofs.Ytcmlapepofgkpaa.Nx Go.RowKit
theorem sz_IntS {N : Nat} (hN : Big N) (x : Den (.sl I)) (g : good (.sl I) x) : SzOk (x_laws_szIntS N x) (okz (.sl I) x) :=
  (SzOk.len g.1).mono fun h => ⟨h, fun _ _ => trivial⟩
theorem sz_Step {N : Nat} (hN : Big N) (x : Den tStep) (g : good tStep x) : SzOk (x_laws_szStep N x) (okz tStep x) :=
  (SzOk.last (sz_IntS hN _ g.2.2)).mono fun h => by
    repeat' (first | exact trivial | assumption | refine And.intro ?_ ?_)
theorem sz_StepS {N : Nat} (hN : Big N) (x : Den (.sl tStep)) (g : good (.sl tStep) x) : SzOk (x_laws_szStepS N x) (okz (.sl tStep) x) :=
  sz_rows g (f := x_laws_szStep N) (fun y gy => sz_Step hN y gy) hN (fun _ _ _ _ => rfl)
theorem to_Role {N : Nat} (hN : Big N) (x : Den tRole) (h : okz tRole x) : x_laws_toRole N x = some x := rfl
theorem to_Cred {N : Nat} (hN : Big N) (x : Den tCred) (h : okz tCred x) : x_laws_toCred N x = some x := by
  unfold x_laws_toCred
  simp only [to_Role hN _ h.2.1, to_Role hN _ h.2.2.2.1, to_Role hN _ h.2.2.2.2.1, Option.bind_some] <;> rfl
theorem to_Fact {N : Nat} (hN : Big N) (x : Den tFact) (h : okz tFact x) : x_laws_toFact N x = some x := by
  unfold x_laws_toFact
  simp only [to_Role hN _ h.1, Option.bind_some] <;> rfl
theorem to_IntS {N : Nat} (hN : Big N) (x : Den (.sl I)) (h : okz (.sl I) x) : x_laws_toIntS N x = some x :=
  to_rows h (f := fun y => some y) (fun y hy => rfl) hN (by decide) (fun _ _ _ _ => rfl)
theorem to_Step {N : Nat} (hN : Big N) (x : Den tStep) (h : okz tStep x) : x_laws_toStep N x = some x := by
  unfold x_laws_toStep
  simp only [to_Cred hN _ h.1, to_Fact hN _ h.2.1, to_IntS hN _ h.2.2, Option.bind_some] <;> rfl
theorem to_StepS {N : Nat} (hN : Big N) (x : Den (.sl tStep)) (h : okz (.sl tStep) x) : x_laws_toStepS N x = some x :=
  to_rows h (f := x_laws_toStep N) (fun y hy => to_Step hN y hy) hN (by decide) (fun _ _ _ _ => rfl)
theorem eq_Role {N : Nat} (hN : Big N) (x : Den tRole) (h : okz tRole x) : x_laws_eqRole N x x = some true := by
  unfold x_laws_eqRole
  simp
theorem eq_Cred {N : Nat} (hN : Big N) (x : Den tCred) (h : okz tCred x) : x_laws_eqCred N x x = some true := by
  unfold x_laws_eqCred
  simp [eq_Role hN _ h.2.1, eq_Role hN _ h.2.2.2.1, eq_Role hN _ h.2.2.2.2.1]
theorem eq_CredS {N : Nat} (hN : Big N) (x : Den (.sl tCred)) (h : okz (.sl tCred) x) : x_laws_eqCredS N x x = some true :=
  eq_rows h (f := x_laws_eqCred N) (fun y hy => eq_Cred hN y hy) hN (fun _ _ _ _ => rfl)
theorem eq_Fact {N : Nat} (hN : Big N) (x : Den tFact) (h : okz tFact x) : x_laws_eqFact N x x = some true := by
  unfold x_laws_eqFact
  simp [eq_Role hN _ h.1]
theorem eq_IntS {N : Nat} (hN : Big N) (x : Den (.sl I)) (h : okz (.sl I) x) : x_laws_eqIntS N x x = some true :=
  eq_rows h (f := fun y z => some (decide (y = z))) (fun y hy => by simp) hN (fun _ _ _ _ => rfl)
theorem eq_Step {N : Nat} (hN : Big N) (x : Den tStep) (h : okz tStep x) : x_laws_eqStep N x x = some true := by
  unfold x_laws_eqStep
  simp [eq_Cred hN _ h.1, eq_Fact hN _ h.2.1, eq_IntS hN _ h.2.2]
theorem eq_StepS {N : Nat} (hN : Big N) (x : Den (.sl tStep)) (h : okz (.sl tStep) x) : x_laws_eqStepS N x x = some true :=
  eq_rows h (f := x_laws_eqStep N) (fun y hy => eq_Step hN y hy) hN (fun _ _ _ _ => rfl)
end Go.Proofs.Ytcmlapepofgkpaa.C

namespace Go.Proofs.Ytcmlapepofgkpaa.C
open Go Go.Proofs.Ytcmlapepofgkpaa.Nx Go.RowKit
set_option linter.unusedVariables false
set_option linter.unusedSimpArgs false

theorem peta {α β : Type} (p : α × β) : (p.1, p.2) = p := rfl

def inR (n a b : Int) : Bool := decide (a ≤ n) && decide (n ≤ b)
end Go.Proofs.Ytcmlapepofgkpaa.C

namespace Go.Proofs.Ytcmlapepofgkpaa.C
open Go Go.Proofs.Ytcmlapepofgkpaa.Nx Go.RowKit
set_option linter.unusedVariables false
set_option linter.unusedSimpArgs false

def roleOk (r : Den tRole) : Bool := inR r.1 0 5 && inR r.2 0 3

/-- Words that are right. -/
def credOk (c : Den tCred) : Bool :=
  roleOk c.2.1 && (inR c.2.2.2.2.2.1 1 9999 && (inR c.2.2.2.2.2.2 0 99 &&
  (bif decide (c.1 = 1) then inR c.2.2.1 0 5 && ((decide (c.2.2.2.1.1 = 0) && decide (c.2.2.2.1.2 = 0)) && (decide (c.2.2.2.2.1.1 = 0) && decide (c.2.2.2.2.1.2 = 0)))
   else bif decide (c.1 = 2) then decide (c.2.2.1 = 0) && (roleOk c.2.2.2.1 && (decide (c.2.2.2.2.1.1 = 0) && decide (c.2.2.2.2.1.2 = 0)))
   else bif decide (c.1 = 3) then decide (c.2.2.1 = 0) && (roleOk c.2.2.2.1 && (roleOk c.2.2.2.2.1 && decide (c.2.2.2.2.1.1 = 0)))
   else bif decide (c.1 = 4) then decide (c.2.2.1 = 0) && (roleOk c.2.2.2.1 && roleOk c.2.2.2.2.1)
   else false)))

end Go.Proofs.Ytcmlapepofgkpaa.C

namespace Go.Proofs.Ytcmlapepofgkpaa.C
open Go Go.Proofs.Ytcmlapepofgkpaa.Nx Go.RowKit
set_option linter.unusedVariables false
set_option linter.unusedSimpArgs false

/-- A number marked. -/
def mkInt (x : Int) (k : Int) : Int × Int := (k, k + 1)
theorem grow_Int : Grow (fun _ : Int => True) mkInt 1 := fun x k _ => ⟨by unfold mkInt; simp; omega, by unfold mkInt; simp⟩

theorem mk_IntS {N : Nat} (hN : Big N) (L : List Int) (hL : L.length ≤ 1048576) (k : Int) (h0 : 0 ≤ k) (hk : k + ((1 * L.length : Nat) : Int) ≤ 9223372036854775806) : x_laws_markIntS N L k = some ((mkL mkInt L k).2, (mkL mkInt L k).1, ()) := by
  have hN' : 1099511627776 ≤ N := hN
  have e := mark_rows (B := B_laws_markIntS_L0 N (fun (x1, x2) => some (x2, x1, ())) (fun ρ3 => some (ρ3))) (kx := fun s => some (s.2, s.1, ())) grow_Int
    (fun rec_ pre x post k _ h0 hk hl => by
      show (bif _ then _ else _) = _
      simp only [at_lt, at_le, Int.toNat_natCast, st0, Bool.and_self, cond_true, mkInt]
      rw [w64_up (Nat.le_refl _) (by omega), w64 (x := k + 1) (by omega) (by omega)])
    (fun rec_ L k => by
      show (bif _ then _ else _) = _
      simp only [at_end, cond_false])
    L [] k N (by omega) (fun _ _ => trivial) h0 hk (by simp; omega)
  unfold x_laws_markIntS
  refine (congrArg (fun o => Option.bind o _) e).trans ?_
  rw [Option.bind_some]
  dsimp only
  rw [List.nil_append, beq_len (mkL_len _ _ _)]; rfl

end Go.Proofs.Ytcmlapepofgkpaa.C

namespace Go.Proofs.Ytcmlapepofgkpaa.C
open Go Go.Proofs.Ytcmlapepofgkpaa.Nx Go.RowKit
set_option linter.unusedVariables false
set_option linter.unusedSimpArgs false

/-- Words that are alike. -/
def credEq (x c : Den tCred) : Bool :=
  decide (x.1 = c.1) && (decide (x.2.1.1 = c.2.1.1) && (decide (x.2.1.2 = c.2.1.2) && (decide (x.2.2.1 = c.2.2.1) && (decide (x.2.2.2.1.1 = c.2.2.2.1.1) && (decide (x.2.2.2.1.2 = c.2.2.2.1.2) && (decide (x.2.2.2.2.1.1 = c.2.2.2.2.1.1) && (decide (x.2.2.2.2.1.2 = c.2.2.2.2.1.2) && (decide (x.2.2.2.2.2.1 = c.2.2.2.2.2.1) && decide (x.2.2.2.2.2.2 = c.2.2.2.2.2.2)))))))))

def hasC (acc : List (Den tCred)) (c : Den tCred) : Bool := acc.any fun x => credEq x c

/-- The words of steps, each once. -/
def credsF : List (Den tCred) → List (Den tStep) → List (Den tCred)
  | acc, [] => acc
  | acc, s :: ss => credsF (bif hasC acc s.1 then acc else acc ++ [s.1]) ss

theorem credsF_nil (acc : List (Den tCred)) : credsF acc [] = acc := rfl
theorem credsF_cons (acc : List (Den tCred)) (s : Den tStep) (ss : List (Den tStep)) : credsF acc (s :: ss) = credsF (bif hasC acc s.1 then acc else acc ++ [s.1]) ss := rfl

theorem credsF_len : ∀ (l : List (Den tStep)) (acc : List (Den tCred)), (credsF acc l).length ≤ acc.length + l.length
  | [], acc => by rw [credsF_nil]; simp
  | s :: ss, acc => by
    rw [credsF_cons]
    have h1 := credsF_len ss (bif hasC acc s.1 then acc else acc ++ [s.1])
    have h2 : (bif hasC acc s.1 then acc else acc ++ [s.1]).length ≤ acc.length + 1 := by
      cases hasC acc s.1 <;> simp
    simp only [List.length_cons]
    omega

theorem dcomm (a b : Int) : decide (a = b) = decide (b = a) := decide_eq_decide.2 ⟨Eq.symm, Eq.symm⟩

theorem spec_CredsIn {N : Nat} (hN : Big N) (L : List (Den tStep)) (hL : L.length ≤ 1048576) : x_spec_CredsIn N L = some (credsF [] L) := by
  have hN' : 1099511627776 ≤ N := hN
  unfold x_spec_CredsIn
  refine iter_to (B := B_spec_CredsIn_L0 N (fun x6 => some x6) (fun ρ7 => some (ρ7))) (A := List (Den tCred)) (fun i acc => (L, acc, (i : Int))) (fun i acc r => acc.length ≤ i → r = some (credsF acc (L.drop i))) L.length
    (fun i acc rec_ hi h hacc => ?_) (fun acc rec_ hacc => ?_) N (by omega) [] (Nat.zero_le _)
  · have inner : ∀ (kx : List (Den tStep) × List (Den tCred) × Int × Bool → Option (List (Den tCred))), iter (B_spec_CredsIn_L2 N kx (fun ρ5 => some ρ5)) N (L, acc, (i : Int), false, (0 : Int)) = kx (L, acc, (i : Int), hasC acc L[i].1) := by
      intro kx
      have := iter_rowA (B := B_spec_CredsIn_L2 N kx (fun ρ5 => some ρ5)) acc (fun j (b : Bool) => (L, acc, (i : Int), b, (j : Int))) (fun j b l => kx (L, acc, (i : Int), b || l.any fun x => credEq x L[i].1))
        (fun j hj b rec_ h => by
          show (bif _ then _ else _) = _
          simp only [lt_rows acc hj, le_rows j, Bool.and_self, cond_true, getD_at acc hj, lt_rows L hi, le_rows i, getD_at L hi, w64_up (Nat.le_refl j) (by omega : j ≤ 140737488355328), h, List.any_cons]
          cases b
          · rw [cond_false, Bool.false_or]; rfl
          · rw [cond_true, Bool.true_or, Bool.true_or])
        (fun b rec_ => by
          show (bif _ then _ else _) = _
          rw [dF (Int.lt_irrefl _), List.any_nil, Bool.or_false]; rfl) (N := N) (by omega) false
      rw [Bool.false_or] at this
      exact this
    rw [drop_cons hi, credsF_cons]
    show (bif _ then _ else _) = _
    simp only [lt_rows L hi, cond_true]
    rw [inner]
    simp only [lt_rows L hi, le_rows i, Bool.and_self, cond_true, getD_at L hi, w64_up (Nat.le_refl i) (by omega : i ≤ 140737488355328)]
    cases hasC acc L[i].1
    · rw [dT (by simp; omega)]
      exact h (acc ++ [L[i].1]) (by simp; omega)
    · exact h acc (by omega)
  · show (bif _ then _ else _) = _
    rw [dF (Int.lt_irrefl _), List.drop_length, credsF_nil]; rfl

theorem containsC {N : Nat} (hN : Big N) (acc : List (Den tCred)) (ha : acc.length ≤ 1048576) (c : Den tCred) : x_slices_Contains_impl_Cred_impl_Cred N acc c = some (hasC acc c) := by
  unfold x_slices_Contains_impl_Cred_impl_Cred x_slices_Index_impl_Cred_impl_Cred
  have := index_func (d := dft tCred) (L := acc) (by omega) c (f := fun x => some (credEq x c)) (fun x => credEq x c) (fun x _ => rfl) hN (B := B_slices_Index_impl_Cred_impl_Cred_L0 N (fun _ => some (-1 : Int)) (fun ρ1 => some (ρ1)))
    (fun rec_ s0 s7 s8 => by
      show (bif _ then (bif _ then (bif _ then _ else _) else _) else _) = _
      generalize s0.getD s8.toNat (dft tCred) = x
      rw [dcomm c.1 x.1, dcomm c.2.1.1 x.2.1.1, dcomm c.2.1.2 x.2.1.2, dcomm c.2.2.1 x.2.2.1, dcomm c.2.2.2.1.1 x.2.2.2.1.1, dcomm c.2.2.2.1.2 x.2.2.2.1.2, dcomm c.2.2.2.2.1.1 x.2.2.2.2.1.1, dcomm c.2.2.2.2.1.2 x.2.2.2.2.1.2, dcomm c.2.2.2.2.2.1 x.2.2.2.2.2.1, dcomm c.2.2.2.2.2.2 x.2.2.2.2.2.2]
      rfl)
  rw [this, Option.bind_some, findI_any]
  rfl

theorem impl_CredsIn {N : Nat} (hN : Big N) (L : List (Den tStep)) (hL : L.length ≤ 1048576) : x_impl_CredsIn N L = some (credsF [] L) := by
  have hN' : 1099511627776 ≤ N := hN
  unfold x_impl_CredsIn
  refine iter_to (B := B_impl_CredsIn_L0 N (fun x2 => some x2) (fun ρ3 => some (ρ3))) (A := List (Den tCred)) (fun i acc => (acc, L, (L.length : Int), (i : Int))) (fun i acc r => acc.length ≤ i → r = some (credsF acc (L.drop i))) L.length
    (fun i acc rec_ hi h hacc => ?_) (fun acc rec_ hacc => ?_) N (by omega) [] (Nat.zero_le _)
  · rw [drop_cons hi, credsF_cons]
    show (bif _ then _ else _) = _
    simp only [lt_rows L hi, le_rows i, Bool.and_self, cond_true, getD_at L hi, peta, containsC hN acc (by omega), Option.bind_some, w64_up (Nat.le_refl i) (by omega : i ≤ 140737488355328)]
    cases hasC acc L[i].1
    · rw [dT (by simp; omega)]
      exact h (acc ++ [L[i].1]) (by simp; omega)
    · exact h acc (by omega)
  · show (bif _ then _ else _) = _
    rw [dF (Int.lt_irrefl _), List.drop_length, credsF_nil]; rfl

/-- Words that are alive. -/
def aliveF (now : Int) (l : List (Den tCred)) : List (Den tCred) := l.filter fun c => credOk c && decide (now ≤ c.2.2.2.2.2.1)

theorem aliveF_cons (now : Int) (c : Den tCred) (l : List (Den tCred)) : aliveF now (c :: l) = bif credOk c && decide (now ≤ c.2.2.2.2.2.1) then c :: aliveF now l else aliveF now l := by
  unfold aliveF
  rw [List.filter_cons]
  cases (credOk c && decide (now ≤ c.2.2.2.2.2.1)) <;> rfl

end Go.Proofs.Ytcmlapepofgkpaa.C

namespace Go.Proofs.Ytcmlapepofgkpaa.C
open Go Go.Proofs.Ytcmlapepofgkpaa.Nx Go.RowKit
set_option linter.unusedVariables false
set_option linter.unusedSimpArgs false

/-- A word marked. -/
def mkCred (x : Den tCred) (k : Int) : Den tCred × Int :=
  ((k, (k + 1, k + 1 + 1), k + 1 + 1 + 1, (k + 1 + 1 + 1 + 1, k + 1 + 1 + 1 + 1 + 1), (k + 1 + 1 + 1 + 1 + 1 + 1, k + 1 + 1 + 1 + 1 + 1 + 1 + 1), k + 1 + 1 + 1 + 1 + 1 + 1 + 1 + 1, k + 1 + 1 + 1 + 1 + 1 + 1 + 1 + 1 + 1), k + 1 + 1 + 1 + 1 + 1 + 1 + 1 + 1 + 1 + 1)
theorem grow_Cred : Grow (fun _ : Den tCred => True) mkCred 10 := fun x k _ => by unfold mkCred; dsimp only; omega

theorem mk_CredS {N : Nat} (hN : Big N) (L : List (Den tCred)) (hL : L.length ≤ 1048576) (k : Int) (h0 : 0 ≤ k) (hk : k + ((10 * L.length : Nat) : Int) ≤ 9223372036854775806) : x_laws_markCredS N L k = some ((mkL mkCred L k).2, (mkL mkCred L k).1, ()) := by
  have hN' : 1099511627776 ≤ N := hN
  have e := mark_rows (B := B_laws_markCredS_L0 N (fun (x2, x3) => some (x3, x2, ())) (fun ρ3 => some (ρ3))) (kx := fun s => some (s.2, s.1, ())) grow_Cred
    (fun rec_ pre x post k _ h0 hk hl => by
      have w1 := w64 (x := k + 1) (by omega) (by omega)
      have w2 := w64 (x := k + 1 + 1) (by omega) (by omega)
      have w3 := w64 (x := k + 1 + 1 + 1) (by omega) (by omega)
      have w4 := w64 (x := k + 1 + 1 + 1 + 1) (by omega) (by omega)
      have w5 := w64 (x := k + 1 + 1 + 1 + 1 + 1) (by omega) (by omega)
      have w6 := w64 (x := k + 1 + 1 + 1 + 1 + 1 + 1) (by omega) (by omega)
      have w7 := w64 (x := k + 1 + 1 + 1 + 1 + 1 + 1 + 1) (by omega) (by omega)
      have w8 := w64 (x := k + 1 + 1 + 1 + 1 + 1 + 1 + 1 + 1) (by omega) (by omega)
      have w9 := w64 (x := k + 1 + 1 + 1 + 1 + 1 + 1 + 1 + 1 + 1) (by omega) (by omega)
      have w10 := w64 (x := k + 1 + 1 + 1 + 1 + 1 + 1 + 1 + 1 + 1 + 1) (by omega) (by omega)
      have wp := w64_up (i := pre.length) (Nat.le_refl _) (by omega)
      show (bif _ then _ else _) = _
      simp only [at_lt, at_le, Int.toNat_natCast, st0, gD0, Bool.and_self, cond_true, w1, w2, w3, w4, w5, w6, w7, w8, w9, w10, wp]
      rfl)
    (fun rec_ L k => by
      show (bif _ then _ else _) = _
      simp only [at_end, cond_false])
    L [] k N (by omega) (fun _ _ => trivial) h0 hk (by simp; omega)
  unfold x_laws_markCredS
  refine (congrArg (fun o => Option.bind o _) e).trans ?_
  rw [Option.bind_some]
  dsimp only
  rw [List.nil_append, beq_len (mkL_len _ _ _)]; rfl

theorem hd_CredS {N : Nat} (hN : Big N) (L : List (Den tCred)) (hL : L.length ≤ 1048576) (k : Int) (h0 : 0 ≤ k) (hk : k + ((10 * L.length : Nat) : Int) ≤ 9223372036854775806) : x_laws_heldCredS N (mkL mkCred L k).1 k = some (mkL mkCred L k).2 := by
  have hN' : 1099511627776 ≤ N := hN
  exact held_rows (B := B_laws_heldCredS_L0 N (fun x2 => some x2) (fun ρ3 => some (ρ3))) (kx := fun s => some s) grow_Cred
    (fun rec_ pre x post k _ h0 hk hl => by
      have w1 := w64 (x := k + 1) (by omega) (by omega)
      have w2 := w64 (x := k + 1 + 1) (by omega) (by omega)
      have w3 := w64 (x := k + 1 + 1 + 1) (by omega) (by omega)
      have w4 := w64 (x := k + 1 + 1 + 1 + 1) (by omega) (by omega)
      have w5 := w64 (x := k + 1 + 1 + 1 + 1 + 1) (by omega) (by omega)
      have w6 := w64 (x := k + 1 + 1 + 1 + 1 + 1 + 1) (by omega) (by omega)
      have w7 := w64 (x := k + 1 + 1 + 1 + 1 + 1 + 1 + 1) (by omega) (by omega)
      have w8 := w64 (x := k + 1 + 1 + 1 + 1 + 1 + 1 + 1 + 1) (by omega) (by omega)
      have w9 := w64 (x := k + 1 + 1 + 1 + 1 + 1 + 1 + 1 + 1 + 1) (by omega) (by omega)
      have w10 := w64 (x := k + 1 + 1 + 1 + 1 + 1 + 1 + 1 + 1 + 1 + 1) (by omega) (by omega)
      have wp := w64_up (i := pre.length) (Nat.le_refl _) (by omega)
      show (bif _ then _ else _) = _
      simp only [at_lt, at_le, Int.toNat_natCast, gD0, Bool.and_self, cond_true, w1, w2, w3, w4, w5, w6, w7, w8, w9, w10, wp]
      generalize hy : (mkCred x k).1 = y
      have e : y = (mkCred x k).1 := hy.symm
      unfold mkCred at e
      dsimp only at e
      subst e
      simp only [decide_true, Bool.not_true, cond_false]
      rfl)
    (fun rec_ L k => by
      show (bif _ then _ else _) = _
      simp only [at_end, cond_false])
    L [] k N (by omega) (fun _ _ => trivial) h0 hk (by simp; omega)

/-- A step marked. -/
def mkStep (x : Den tStep) (k : Int) : Den tStep × Int :=
  (((mkCred x.1 k).1, (((mkCred x.1 k).2, (mkCred x.1 k).2 + 1), (mkCred x.1 k).2 + 1 + 1), (mkL mkInt x.2.2 ((mkCred x.1 k).2 + 1 + 1 + 1)).1), (mkL mkInt x.2.2 ((mkCred x.1 k).2 + 1 + 1 + 1)).2)
theorem grow_Step : Grow (okz tStep) mkStep 1048589 := fun x k h => by
  have h1 := grow_Cred x.1 k trivial
  have h2 := mkL_grow grow_Int x.2.2 ((mkCred x.1 k).2 + 1 + 1 + 1) (fun _ _ => trivial)
  have h3 : x.2.2.length ≤ 1048576 := h.2.2.1
  unfold mkStep
  dsimp only
  omega

set_option maxHeartbeats 2000000 in
theorem mk_StepS {N : Nat} (hN : Big N) (L : List (Den tStep)) (hL : okz (.sl tStep) L) (k : Int) (h0 : 0 ≤ k) (hk : k + ((1048589 * L.length : Nat) : Int) ≤ 9223372036854775806) : x_laws_markStepS N L k = some ((mkL mkStep L k).2, (mkL mkStep L k).1, ()) := by
  have hN' : 1099511627776 ≤ N := hN
  have hl := hL.1
  have e := mark_rows (B := B_laws_markStepS_L0 N (fun (x2, x3) => some (x3, x2, ())) (fun ρ3 => some (ρ3))) (kx := fun s => some (s.2, s.1, ())) grow_Step
    (fun rec_ pre x post k hx h0 hk hl => by
      have hx2 : x.2.2.length ≤ 1048576 := hx.2.2.1
      have w1 := w64 (x := k + 1) (by omega) (by omega)
      have w2 := w64 (x := k + 1 + 1) (by omega) (by omega)
      have w3 := w64 (x := k + 1 + 1 + 1) (by omega) (by omega)
      have w4 := w64 (x := k + 1 + 1 + 1 + 1) (by omega) (by omega)
      have w5 := w64 (x := k + 1 + 1 + 1 + 1 + 1) (by omega) (by omega)
      have w6 := w64 (x := k + 1 + 1 + 1 + 1 + 1 + 1) (by omega) (by omega)
      have w7 := w64 (x := k + 1 + 1 + 1 + 1 + 1 + 1 + 1) (by omega) (by omega)
      have w8 := w64 (x := k + 1 + 1 + 1 + 1 + 1 + 1 + 1 + 1) (by omega) (by omega)
      have w9 := w64 (x := k + 1 + 1 + 1 + 1 + 1 + 1 + 1 + 1 + 1) (by omega) (by omega)
      have w10 := w64 (x := k + 1 + 1 + 1 + 1 + 1 + 1 + 1 + 1 + 1 + 1) (by omega) (by omega)
      have w11 := w64 (x := k + 1 + 1 + 1 + 1 + 1 + 1 + 1 + 1 + 1 + 1 + 1) (by omega) (by omega)
      have w12 := w64 (x := k + 1 + 1 + 1 + 1 + 1 + 1 + 1 + 1 + 1 + 1 + 1 + 1) (by omega) (by omega)
      have w13 := w64 (x := k + 1 + 1 + 1 + 1 + 1 + 1 + 1 + 1 + 1 + 1 + 1 + 1 + 1) (by omega) (by omega)
      have wp := w64_up (i := pre.length) (Nat.le_refl _) (by omega)
      have mi := mk_IntS hN x.2.2 hx2 (k + 1 + 1 + 1 + 1 + 1 + 1 + 1 + 1 + 1 + 1 + 1 + 1 + 1) (by omega) (by omega)
      show (bif _ then _ else _) = _
      simp only [at_lt, at_le, Int.toNat_natCast, st0, gD0, Bool.and_self, cond_true, Nat.beq_refl, w1, w2, w3, w4, w5, w6, w7, w8, w9, w10, w11, w12, w13, wp, mi, Option.bind_some, mkStep, mkCred])
    (fun rec_ L k => by
      show (bif _ then _ else _) = _
      simp only [at_end, cond_false])
    L [] k N (by omega) hL.2 h0 hk (by simp; omega)
  unfold x_laws_markStepS
  refine (congrArg (fun o => Option.bind o _) e).trans ?_
  rw [Option.bind_some]
  dsimp only
  rw [List.nil_append, beq_len (mkL_len _ _ _)]; rfl
end Go.Proofs.Ytcmlapepofgkpaa.C

namespace Go.Proofs.Ytcmlapepofgkpaa.C
open Go Go.Proofs.Ytcmlapepofgkpaa.Nx Go.RowKit
set_option linter.unusedVariables false
set_option linter.unusedSimpArgs false

theorem pure_FnExactCredsIn (a0 : Den (.sl tStep)) (g0 : good (.sl tStep) a0) : ∃ N, x_laws_FnExactCredsIn N a0 = some true := by
  refine ⟨1099511627776, ?_⟩
  have hN : Big 1099511627776 := Nat.le_refl _
  generalize 1099511627776 = N at hN
  unfold x_laws_FnExactCredsIn
  obtain ⟨k, e, hk⟩ := sz_StepS hN a0 g0 1048576 (by omega) (by omega)
  rw [e, Option.bind_some]
  rcases hk with hk | ⟨h1, h2, h⟩
  · rw [dT hk]; rfl
  · rw [dF (by omega)]
    have hl := h.1
    have hc := credsF_len a0 []
    simp only [List.length_nil] at hc
    have hs : okz (.sl tCred) (credsF [] a0) := ⟨by omega, fun x _ => by simp [okz]⟩
    have g1 := mkL_grow grow_Step a0 1 h.2
    have g2 := mkL_grow grow_Cred (credsF [] a0) 1 (fun _ _ => trivial)
    simp only [cond_false, to_StepS hN a0 h, Option.bind_some, spec_CredsIn hN a0 hl, impl_CredsIn hN a0 hl, eq_StepS hN a0 h, eq_CredS hN _ hs, mk_StepS hN a0 h 1 (by omega) (by omega), mk_CredS hN _ hs.1 1 (by omega) (by omega), hd_CredS hN _ hs.1 1 (by omega) (by omega), Bool.not_true]
    rw [dF (by omega), dF (by omega), dT trivial]
    rfl
end Go.Proofs.Ytcmlapepofgkpaa.C
