/- The data that the two functions compute are alike, for all arguments that memory can hold. -/
import Derived.Test.YtdjaokdklbidaaaHFnExactEventOk
namespace Go.Proofs.Ytdjaokdklbidaaa.C
open Go Go.Proofs.Ytdjaokdklbidaaa.Nx Go.RowKit
set_option linter.unusedVariables false

theorem cond_if {α : Type} (b : Bool) (x y : α) : (bif b then x else y) = if b = true then x else y := by cases b <;> rfl

def inR (n a b : Int) : Bool := decide (a ≤ n) && decide (n ≤ b)
def roleOk (r : Den tRole) : Bool := inR r.1 0 5 && inR r.2 0 3

theorem in_eq (N : Nat) (n a b : Int) : x_impl_in N n a b = some (inR n a b) := by
  unfold x_impl_in inR
  cases decide (a ≤ n) <;> rfl
theorem l01In_eq (N : Nat) (n a b : Int) : x_spec_l01In N n a b = some (inR n a b) := by
  unfold x_spec_l01In inR
  cases decide (a ≤ n) <;> rfl
theorem roleOk_i (N : Nat) (r : Den tRole) : x_impl_RoleOk N r = some (roleOk r) := by
  unfold x_impl_RoleOk roleOk
  simp only [in_eq, Option.bind_some]
  cases inR r.1 0 5 <;> rfl
theorem roleOk_s (N : Nat) (r : Den tRole) : x_spec_RoleOk N r = some (roleOk r) := by
  unfold x_spec_RoleOk roleOk
  simp only [l01In_eq, Option.bind_some]
  cases inR r.1 0 5 <;> rfl
theorem isPerson_i (N : Nat) (n : Int) : x_impl_isPerson N n = some (inR n 0 5) := by
  unfold x_impl_isPerson
  simp only [in_eq, Option.bind_some]

/-- Words that are right. -/
def credOk (c : Den tCred) : Bool :=
  roleOk c.2.1 && (inR c.2.2.2.2.2.1 1 9999 && (inR c.2.2.2.2.2.2 0 99 &&
  (bif decide (c.1 = 1) then inR c.2.2.1 0 5 && ((decide (c.2.2.2.1.1 = 0) && decide (c.2.2.2.1.2 = 0)) && (decide (c.2.2.2.2.1.1 = 0) && decide (c.2.2.2.2.1.2 = 0)))
   else bif decide (c.1 = 2) then decide (c.2.2.1 = 0) && (roleOk c.2.2.2.1 && (decide (c.2.2.2.2.1.1 = 0) && decide (c.2.2.2.2.1.2 = 0)))
   else bif decide (c.1 = 3) then decide (c.2.2.1 = 0) && (roleOk c.2.2.2.1 && (roleOk c.2.2.2.2.1 && decide (c.2.2.2.2.1.1 = 0)))
   else bif decide (c.1 = 4) then decide (c.2.2.1 = 0) && (roleOk c.2.2.2.1 && roleOk c.2.2.2.2.1)
   else false)))

theorem credOk_i (N : Nat) (c : Den tCred) : x_impl_CredOk N c = some (credOk c) := by
  unfold x_impl_CredOk credOk
  simp only [in_eq, roleOk_i, isPerson_i, Option.bind_some]
  generalize roleOk c.2.1 = a1
  generalize inR c.2.2.2.2.2.1 1 9999 = a2
  generalize inR c.2.2.2.2.2.2 0 99 = a3
  generalize inR c.2.2.1 0 5 = a4
  generalize decide (c.1 = 1) = b1
  generalize decide (c.1 = 2) = b2
  generalize decide (c.1 = 3) = b3
  generalize decide (c.1 = 4) = b4
  generalize decide (c.2.2.1 = 0) = d1
  generalize roleOk c.2.2.2.1 = r1
  generalize roleOk c.2.2.2.2.1 = r2
  generalize (decide (c.2.2.2.1.1 = 0) && decide (c.2.2.2.1.2 = 0)) = z1
  generalize (decide (c.2.2.2.2.1.1 = 0) && decide (c.2.2.2.2.1.2 = 0)) = z2
  cases a1 <;> cases a2 <;> cases a3 <;> try rfl
  cases b1 <;> cases b2 <;> cases b3 <;> cases b4 <;> cases d1 <;> cases r1 <;> cases r2 <;> cases a4 <;> cases z1 <;> rfl

theorem credOk_s (N : Nat) (c : Den tCred) : x_spec_CredOk N c = some (credOk c) := by
  rw [← credOk_i N c]
  unfold x_spec_CredOk x_impl_CredOk
  simp only [in_eq, l01In_eq, roleOk_i, roleOk_s, isPerson_i, Option.bind_some]

theorem toRole_id (N : Nat) (r : Den tRole) : x_laws_toRole N r = some r := rfl
theorem toCred_id (N : Nat) (c : Den tCred) : x_laws_toCred N c = some c := rfl
theorem toEvent_id (N : Nat) (c : Den tEvent) : x_laws_toEvent N c = some c := rfl

theorem credless (N : Nat) (k : Int) : x_spec_l14Credless N k = some (!decide (k = 7) && (!decide (k = 8) && !decide (k = 9))) := by
  unfold x_spec_l14Credless
  cases decide (k = 7) <;> cases decide (k = 8) <;> rfl

/-- No words. -/
def noCred (c : Den tCred) : Bool := decide (c.1 = 0) && (decide (c.2.1.1 = 0) && (decide (c.2.1.2 = 0) && (decide (c.2.2.1 = 0) && (decide (c.2.2.2.1.1 = 0) && (decide (c.2.2.2.1.2 = 0) && (decide (c.2.2.2.2.1.1 = 0) && (decide (c.2.2.2.2.1.2 = 0) && (decide (c.2.2.2.2.2.1 = 0) && decide (c.2.2.2.2.2.2 = 0)))))))))

theorem credOk_no (c : Den tCred) (h : noCred c = true) : credOk c = false := by
  unfold noCred at h
  simp only [Bool.and_eq_true, decide_eq_true_eq] at h
  unfold credOk inR
  simp [h]

theorem eventOk_eq (N : Nat) (e : Den tEvent) : x_impl_EventOk N e = x_spec_EventOk N e := by
  unfold x_impl_EventOk x_spec_EventOk
  simp only [in_eq, l01In_eq, credOk_i, credOk_s, credless, Option.bind_some]
  have hn := credOk_no e.2.2.2.1
  unfold noCred at hn
  generalize (decide (e.2.2.2.1.1 = 0) && _) = nc at hn ⊢
  generalize credOk e.2.2.2.1 = co at hn ⊢
  generalize inR e.1 1 11 = a1
  generalize decide (e.2.1 < 0) = a2
  generalize decide (e.2.2.1 < 0) = a3
  have hs : decide ((e.2.2.2.2.size : Int) ≤ 600) = !decide ((600 : Int) < (e.2.2.2.2.size : Int)) := by
    by_cases h : (e.2.2.2.2.size : Int) ≤ 600
    · rw [decide_eq_true h, decide_eq_false (by omega)]; rfl
    · rw [decide_eq_false h, decide_eq_true (by omega)]; rfl
  rw [hs]
  have he : decide (e.2.2.2.2 = ByteArray.empty) = true → decide ((600 : Int) < (e.2.2.2.2.size : Int)) = false := by
    intro h
    have := of_decide_eq_true h
    rw [this]; rfl
  generalize decide (e.2.2.2.2 = ByteArray.empty) = z at he ⊢
  generalize decide ((600 : Int) < (e.2.2.2.2.size : Int)) = s6 at he ⊢
  generalize decide (e.2.2.2.1.1 = 1) = m1
  have k79 : decide (e.1 = 7) = true → decide (e.1 = 8) = false ∧ decide (e.1 = 9) = false ∧ decide (e.1 = 11) = false := by
    intro h; have := of_decide_eq_true h; simp [this]
  have k8 : decide (e.1 = 8) = true → decide (e.1 = 9) = false ∧ decide (e.1 = 11) = false := by
    intro h; have := of_decide_eq_true h; simp [this]
  have k9 : decide (e.1 = 9) = true → decide (e.1 = 11) = false := by
    intro h; have := of_decide_eq_true h; simp [this]
  generalize decide (e.1 = 7) = b7 at *
  generalize decide (e.1 = 8) = b8 at *
  generalize decide (e.1 = 9) = b9 at *
  generalize decide (e.1 = 11) = b11 at *
  cases a1 <;> try rfl
  cases a2 <;> cases a3 <;> try rfl
  cases b7 <;> cases b8 <;> cases b9 <;> cases b11 <;> simp at k79 k8 k9 <;> cases nc <;> cases co <;> simp at hn <;> cases z <;> cases s6 <;> simp at he <;> cases m1 <;> rfl

theorem pure_FnExactEventOk (e : Den tEvent) (_ : good tEvent e) : ∃ N, x_laws_FnExactEventOk N e = some true := by
  refine ⟨0, ?_⟩
  unfold x_laws_FnExactEventOk
  simp only [toEvent_id, Option.bind_some]
  have h1 : ∃ r, x_spec_EventOk 0 e = some r := by
    unfold x_spec_EventOk
    simp only [l01In_eq, credOk_s, credless, Option.bind_some]
    repeat' (first | exact ⟨_, rfl⟩ | (rw [cond_if]; split))
  obtain ⟨r, h1⟩ := h1
  have h2 : ∃ k, x_laws_szEvent 0 e 1048576 = some k := by
    unfold x_laws_szEvent
    repeat' (first | exact ⟨_, rfl⟩ | (rw [cond_if]; split))
  obtain ⟨k, h2⟩ := h2
  rw [h2, eventOk_eq, h1]
  simp only [Option.bind_some]
  cases decide (k < 0) <;> simp
end Go.Proofs.Ytdjaokdklbidaaa.C
