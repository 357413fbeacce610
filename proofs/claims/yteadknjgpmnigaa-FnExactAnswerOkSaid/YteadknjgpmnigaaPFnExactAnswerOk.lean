/- The data that the two functions compute are alike, for all arguments that memory can hold. -/
import Derived.Test.YteadknjgpmnigaaHFnExactAnswerOk
set_option linter.unusedVariables false
set_option linter.unusedSimpArgs false
namespace Go.Proofs.Yteadknjgpmnigaa.C
open Go Go.Proofs.Yteadknjgpmnigaa.Nx Go.RowKit
theorem sz_IntS {N : Nat} (hN : Big N) (x : Den (.sl I)) (g : good (.sl I) x) : SzOk (x_laws_szIntS N x) (okz (.sl I) x) :=
  (SzOk.len g.1).mono fun h => ⟨h, fun _ _ => trivial⟩
theorem sz_Step {N : Nat} (hN : Big N) (x : Den tStep) (g : good tStep x) : SzOk (x_laws_szStep N x) (okz tStep x) :=
  (SzOk.last (sz_IntS hN _ g.2.2)).mono fun h => by
    repeat' (first | exact trivial | assumption | refine And.intro ?_ ?_)
theorem sz_StepS {N : Nat} (hN : Big N) (x : Den (.sl tStep)) (g : good (.sl tStep) x) : SzOk (x_laws_szStepS N x) (okz (.sl tStep) x) :=
  sz_rows g (f := x_laws_szStep N) (fun y gy => sz_Step hN y gy) hN (fun _ _ _ _ => rfl)
theorem sz_Answer {N : Nat} (hN : Big N) (x : Den tAnswer) (g : good tAnswer x) : SzOk (x_laws_szAnswer N x) (okz tAnswer x) :=
  (SzOk.last (sz_StepS hN _ g.2.1)).mono fun h => by
    repeat' (first | exact trivial | assumption | refine And.intro ?_ ?_)
theorem to_Role {N : Nat} (hN : Big N) (x : Den tRole) (h : okz tRole x) : x_laws_toRole N x = some x := rfl
theorem to_Cred {N : Nat} (hN : Big N) (x : Den tCred) (h : okz tCred x) : x_laws_toCred N x = some x := by
  unfold x_laws_toCred
  simp only [to_Role hN _ h.2.1, to_Role hN _ h.2.2.2.1, to_Role hN _ h.2.2.2.2.1, Option.bind_some] <;> rfl
theorem to_Fact {N : Nat} (hN : Big N) (x : Den tFact) (h : okz tFact x) : x_laws_toFact N x = some x := by
  unfold x_laws_toFact
  simp only [to_Role hN _ h.1, Option.bind_some] <;> rfl
theorem to_IntS {N : Nat} (hN : Big N) (x : Den (.sl I)) (h : okz (.sl I) x) : x_laws_toIntS N x = some x :=
  to_rows h (f := fun y => some y) (fun y hy => rfl) hN (by decide) (fun _ _ _ _ => rfl)
theorem to_Step {N : Nat} (hN : Big N) (x : Den tStep) (h : okz tStep x) : x_laws_toStep N x = some x := by
  unfold x_laws_toStep
  simp only [to_Cred hN _ h.1, to_Fact hN _ h.2.1, to_IntS hN _ h.2.2, Option.bind_some] <;> rfl
theorem to_StepS {N : Nat} (hN : Big N) (x : Den (.sl tStep)) (h : okz (.sl tStep) x) : x_laws_toStepS N x = some x :=
  to_rows h (f := x_laws_toStep N) (fun y hy => to_Step hN y hy) hN (by decide) (fun _ _ _ _ => rfl)
theorem to_Answer {N : Nat} (hN : Big N) (x : Den tAnswer) (h : okz tAnswer x) : x_laws_toAnswer N x = some x := by
  unfold x_laws_toAnswer
  simp only [to_StepS hN _ h.2.1, Option.bind_some] <;> rfl
theorem eq_Role {N : Nat} (hN : Big N) (x : Den tRole) (h : okz tRole x) : x_laws_eqRole N x x = some true := by
  unfold x_laws_eqRole
  simp
theorem eq_Cred {N : Nat} (hN : Big N) (x : Den tCred) (h : okz tCred x) : x_laws_eqCred N x x = some true := by
  unfold x_laws_eqCred
  simp [eq_Role hN _ h.2.1, eq_Role hN _ h.2.2.2.1, eq_Role hN _ h.2.2.2.2.1]
theorem eq_Fact {N : Nat} (hN : Big N) (x : Den tFact) (h : okz tFact x) : x_laws_eqFact N x x = some true := by
  unfold x_laws_eqFact
  simp [eq_Role hN _ h.1]
theorem eq_IntS {N : Nat} (hN : Big N) (x : Den (.sl I)) (h : okz (.sl I) x) : x_laws_eqIntS N x x = some true :=
  eq_rows h (f := fun y z => some (decide (y = z))) (fun y hy => by simp) hN (fun _ _ _ _ => rfl)
theorem eq_Step {N : Nat} (hN : Big N) (x : Den tStep) (h : okz tStep x) : x_laws_eqStep N x x = some true := by
  unfold x_laws_eqStep
  simp [eq_Cred hN _ h.1, eq_Fact hN _ h.2.1, eq_IntS hN _ h.2.2]
theorem eq_StepS {N : Nat} (hN : Big N) (x : Den (.sl tStep)) (h : okz (.sl tStep) x) : x_laws_eqStepS N x x = some true :=
  eq_rows h (f := x_laws_eqStep N) (fun y hy => eq_Step hN y hy) hN (fun _ _ _ _ => rfl)
theorem eq_Answer {N : Nat} (hN : Big N) (x : Den tAnswer) (h : okz tAnswer x) : x_laws_eqAnswer N x x = some true := by
  unfold x_laws_eqAnswer
  simp [eq_StepS hN _ h.2.1]
end Go.Proofs.Yteadknjgpmnigaa.C

namespace Go.Proofs.Yteadknjgpmnigaa.C
open Go Go.Proofs.Yteadknjgpmnigaa.Nx Go.RowKit
set_option linter.unusedVariables false
set_option linter.unusedSimpArgs false

theorem peta {α β : Type} (p : α × β) : (p.1, p.2) = p := rfl

def inR (n a b : Int) : Bool := decide (a ≤ n) && decide (n ≤ b)
theorem in_eq (N : Nat) (n a b : Int) : x_impl_in N n a b = some (inR n a b) := by
  unfold x_impl_in inR
  cases decide (a ≤ n) <;> rfl
theorem l01In_eq (N : Nat) (n a b : Int) : x_spec_l01In N n a b = some (inR n a b) := by
  unfold x_spec_l01In inR
  cases decide (a ≤ n) <;> rfl
end Go.Proofs.Yteadknjgpmnigaa.C

namespace Go.Proofs.Yteadknjgpmnigaa.C
open Go Go.Proofs.Yteadknjgpmnigaa.Nx Go.RowKit
set_option linter.unusedVariables false
set_option linter.unusedSimpArgs false

def roleOk (r : Den tRole) : Bool := inR r.1 0 5 && inR r.2 0 3

theorem roleOk_i (N : Nat) (r : Den tRole) : x_impl_RoleOk N r = some (roleOk r) := by
  unfold x_impl_RoleOk roleOk
  simp only [in_eq, Option.bind_some]
  cases inR r.1 0 5 <;> rfl
theorem roleOk_s (N : Nat) (r : Den tRole) : x_spec_RoleOk N r = some (roleOk r) := by
  unfold x_spec_RoleOk roleOk
  simp only [l01In_eq, Option.bind_some]
  cases inR r.1 0 5 <;> rfl
theorem isPerson_i (N : Nat) (n : Int) : x_impl_isPerson N n = some (inR n 0 5) := by
  unfold x_impl_isPerson
  simp only [in_eq, Option.bind_some]

/-- Words that are right. -/
def credOk (c : Den tCred) : Bool :=
  roleOk c.2.1 && (inR c.2.2.2.2.2.1 1 9999 && (inR c.2.2.2.2.2.2 0 99 &&
  (bif decide (c.1 = 1) then inR c.2.2.1 0 5 && ((decide (c.2.2.2.1.1 = 0) && decide (c.2.2.2.1.2 = 0)) && (decide (c.2.2.2.2.1.1 = 0) && decide (c.2.2.2.2.1.2 = 0)))
   else bif decide (c.1 = 2) then decide (c.2.2.1 = 0) && (roleOk c.2.2.2.1 && (decide (c.2.2.2.2.1.1 = 0) && decide (c.2.2.2.2.1.2 = 0)))
   else bif decide (c.1 = 3) then decide (c.2.2.1 = 0) && (roleOk c.2.2.2.1 && (roleOk c.2.2.2.2.1 && decide (c.2.2.2.2.1.1 = 0)))
   else bif decide (c.1 = 4) then decide (c.2.2.1 = 0) && (roleOk c.2.2.2.1 && roleOk c.2.2.2.2.1)
   else false)))

theorem credOk_i (N : Nat) (c : Den tCred) : x_impl_CredOk N c = some (credOk c) := by
  unfold x_impl_CredOk credOk
  simp only [in_eq, roleOk_i, isPerson_i, Option.bind_some]
  generalize roleOk c.2.1 = a1
  generalize inR c.2.2.2.2.2.1 1 9999 = a2
  generalize inR c.2.2.2.2.2.2 0 99 = a3
  generalize inR c.2.2.1 0 5 = a4
  generalize decide (c.1 = 1) = b1
  generalize decide (c.1 = 2) = b2
  generalize decide (c.1 = 3) = b3
  generalize decide (c.1 = 4) = b4
  generalize decide (c.2.2.1 = 0) = d1
  generalize roleOk c.2.2.2.1 = r1
  generalize roleOk c.2.2.2.2.1 = r2
  generalize (decide (c.2.2.2.1.1 = 0) && decide (c.2.2.2.1.2 = 0)) = z1
  generalize (decide (c.2.2.2.2.1.1 = 0) && decide (c.2.2.2.2.1.2 = 0)) = z2
  cases a1 <;> cases a2 <;> cases a3 <;> try rfl
  cases b1 <;> cases b2 <;> cases b3 <;> cases b4 <;> cases d1 <;> cases r1 <;> cases r2 <;> cases a4 <;> cases z1 <;> rfl

theorem credOk_s (N : Nat) (c : Den tCred) : x_spec_CredOk N c = some (credOk c) := by
  rw [← credOk_i N c]
  unfold x_spec_CredOk x_impl_CredOk
  simp only [in_eq, l01In_eq, roleOk_i, roleOk_s, isPerson_i, Option.bind_some]

end Go.Proofs.Yteadknjgpmnigaa.C

namespace Go.Proofs.Yteadknjgpmnigaa.C
open Go Go.Proofs.Yteadknjgpmnigaa.Nx Go.RowKit
set_option linter.unusedVariables false
set_option linter.unusedSimpArgs false

theorem iter_2 {σ R : Type} {B : (σ → Option R) → σ → Option R} {N : Nat} (hN : Big N) : ∃ M, ∀ s, iter B N s = B (fun s => B (iter B M) s) s := by
  have hN' : 1099511627776 ≤ N := hN
  obtain ⟨M, rfl⟩ : ∃ M, N = M + 2 := ⟨N - 2, by omega⟩
  exact ⟨M, fun s => rfl⟩

/-- One fact is another. -/
def factEq (a : Den tFact) (r1 r2 w : Int) : Bool := decide (a.1.1 = r1) && (decide (a.1.2 = r2) && decide (a.2 = w))

/-- A step follows from those that it names. -/
def follows (L : List (Den tStep)) (s : Den tStep) : Bool :=
  let g := fun (x : Int) => (L.getD x.toNat (dft tStep)).2.1
  bif decide (s.1.1 = 1) then decide (s.2.2.length = 0) && decide (s.2.1.2 = s.1.2.2.1)
  else bif decide (s.1.1 = 2) then (match s.2.2 with
    | [x] => factEq (g x) s.1.2.2.2.1.1 s.1.2.2.2.1.2 s.2.1.2
    | _ => false)
  else bif decide (s.1.1 = 3) then (match s.2.2 with
    | [x, y] => (decide ((g x).1.1 = s.1.2.2.2.1.1) && decide ((g x).1.2 = s.1.2.2.2.1.2)) && factEq (g y) (g x).2 s.1.2.2.2.2.1.2 s.2.1.2
    | _ => false)
  else (match s.2.2 with
    | [x, y] => factEq (g x) s.1.2.2.2.1.1 s.1.2.2.2.1.2 s.2.1.2 && factEq (g y) s.1.2.2.2.2.1.1 s.1.2.2.2.2.1.2 s.2.1.2
    | _ => false)

/-- A step that is right. -/
def stepAt (L : List (Den tStep)) (i : Nat) (s : Den tStep) : Bool :=
  credOk s.1 && ((decide (s.2.1.1.1 = s.1.2.1.1) && decide (s.2.1.1.2 = s.1.2.1.2)) && (allI (fun _ x => inR x 0 ((i : Int) - 1)) 0 s.2.2 && follows L s))

def stepOk (L : List (Den tStep)) (n : Int) : Bool :=
  bif inR n 0 ((L.length : Int) - 1) then stepAt L n.toNat (L.getD n.toNat (dft tStep)) else false

theorem inR_nat {x : Int} {n : Nat} (h : inR x 0 ((n : Int) - 1) = true) : ∃ k : Nat, x = (k : Int) ∧ k < n := by
  unfold inR at h
  rw [Bool.and_eq_true, decide_eq_true_eq, decide_eq_true_eq] at h
  exact ⟨x.toNat, by omega, by omega⟩

theorem credOk_kind {c : Den tCred} (h : credOk c = true) : c.1 = 1 ∨ c.1 = 2 ∨ c.1 = 3 ∨ c.1 = 4 := by
  unfold credOk at h
  by_cases h1 : c.1 = 1
  · exact .inl h1
  by_cases h2 : c.1 = 2
  · exact .inr (.inl h2)
  by_cases h3 : c.1 = 3
  · exact .inr (.inr (.inl h3))
  by_cases h4 : c.1 = 4
  · exact .inr (.inr (.inr h4))
  rw [dF h1, dF h2, dF h3, dF h4] at h
  simp at h

theorem w64_sub1 {i : Nat} (h : i ≤ 140737488355328) : wrap64 ((i : Int) - 1) = (i : Int) - 1 := w64 (by omega) (by omega)

theorem shown_one {N : Nat} (hN : Big N) (L : List (Den tStep)) (hL : okz (.sl tStep) L) {i : Nat} (hi : i < L.length) {x : Int} (hF : L[i].2.2 = [x]) (hx : inR x 0 ((i : Int) - 1) = true) (f : Den tFact) :
    x_spec_l07Shown N L (i : Int) f = some (factEq (L.getD x.toNat (dft tStep)).2.1 f.1.1 f.1.2 f.2) := by
  have hl := hL.1
  obtain ⟨k, rfl, hk⟩ := inR_nat hx
  have hk' : k < L.length := by omega
  obtain ⟨M, e⟩ := iter_2 (B := B_spec_l07Shown_L0 N (fun _ => some false) (fun ρ2 => some (ρ2))) hN
  unfold x_spec_l07Shown
  rw [e]
  show (bif _ then _ else _) = _
  simp only [lt_rows L hi, le_rows i, Bool.and_self, cond_true, getD_at L hi, hF, w64_sub1 (by omega : i ≤ 140737488355328)]
  simp only [show (decide ((0 : Int) < (([(k : Int)] : List Int).length : Int))) = true from rfl, show decide ((0 : Int) ≤ 0) = true from rfl, Bool.and_self, cond_true, show ([(k : Int)] : List Int).getD (0 : Int).toNat 0 = (k : Int) from rfl, l01In_eq, hx, Option.bind_some, lt_rows L hk', le_rows k, getD_at L hk']
  unfold factEq
  cases (decide (L[k].2.1.1.1 = f.1.1) && (decide (L[k].2.1.1.2 = f.1.2) && decide (L[k].2.1.2 = f.2)))
  · simp only [cond_false]
    show (bif _ then _ else _) = _
    simp only [lt_rows L hi, le_rows i, Bool.and_self, cond_true, getD_at L hi, hF]
    rw [show decide (wrap64 ((0 : Int) + 1) < (([(k : Int)] : List Int).length : Int)) = false from by rw [show wrap64 ((0 : Int) + 1) = 1 from w64_up (Nat.le_refl 0) (by omega)]; rfl]
    rfl
  · rfl

theorem getD_map {α β : Type} (f : α → β) (l : List α) (k : Nat) (h : k < l.length) (d : β) : (l.map f).getD k d = f l[k] := by
  simp [List.getD, h]


theorem stepOk_out (L : List (Den tStep)) {n : Int} (hn : inR n 0 ((L.length : Int) - 1) = false) : stepOk L n = false := by
  unfold stepOk; rw [hn]; rfl
theorem stepOk_in (L : List (Den tStep)) {i : Nat} (hi : i < L.length) : stepOk L (i : Int) = stepAt L i L[i] := by
  unfold stepOk
  have : inR (i : Int) 0 ((L.length : Int) - 1) = true := by
    unfold inR; rw [dT (by omega), dT (by omega)]; rfl
  rw [this, getD_at L hi]; rfl

theorem spec_StepOk {N : Nat} (hN : Big N) (L : List (Den tStep)) (hL : okz (.sl tStep) L) (n : Int) : x_spec_StepOk N L n = some (stepOk L n) := by
  have hN' : 1099511627776 ≤ N := hN
  have hl := hL.1
  unfold x_spec_StepOk
  rw [w64_sub1 (by omega : L.length ≤ 140737488355328), l01In_eq, Option.bind_some]
  cases hn : inR n 0 ((L.length : Int) - 1)
  · rw [stepOk_out L hn]; rfl
  obtain ⟨i, rfl, hi⟩ := inR_nat hn
  have hs : okz tStep L[i] := hL.2 _ (List.getElem_mem hi)
  rw [stepOk_in L hi]
  simp only [Bool.not_true, cond_false, cond_true, lt_rows L hi, le_rows i, Bool.and_self, getD_at L hi, peta]
  unfold stepAt
  rw [credOk_s, Option.bind_some]
  cases hc : credOk L[i].1
  · rfl
  cases (decide (L[i].2.1.1.1 = L[i].1.2.1.1) && decide (L[i].2.1.1.2 = L[i].1.2.1.2))
  · rfl
  simp only [Bool.not_true, cond_false, Bool.true_and]
  have h0 := hs.2.2.1
  generalize hT : (fun (x : List (Den tStep) × Int × Den tStep × Den tCred) => _) = T
  refine Eq.trans (iter_all (B := B_spec_StepOk_L0 N T (fun ρ9 => some ρ9)) L[i].2.2 (fun j => (L, (i : Int), L[i], L[i].1, (j : Int))) (fun _ x => inR x 0 ((i : Int) - 1)) (T (L, (i : Int), L[i], L[i].1)) (some false)
    (fun j hj rec_ => by
      show (bif _ then _ else _) = _
      simp only [lt_rows L[i].2.2 hj, le_rows j, Bool.and_self, cond_true, getD_at L[i].2.2 hj, w64_up (Nat.le_refl j) (by omega : j ≤ 140737488355328), l01In_eq, Option.bind_some, w64_sub1 (by omega : i ≤ 140737488355328)]
      cases inR L[i].2.2[j] 0 ((i : Int) - 1) <;> rfl)
    (fun rec_ => by
      show (bif _ then _ else _) = _
      rw [dF (Int.lt_irrefl _)]; rfl) (N := N) (by omega)) ?_
  cases ha : allI (fun _ x => inR x 0 ((i : Int) - 1)) 0 L[i].2.2
  · rfl
  rw [← hT]
  simp only [cond_true, Bool.true_and]
  have el : ∀ k : Nat, decide ((List.length L[i].2.2 : Int) = (k : Int)) = decide (List.length L[i].2.2 = k) := fun k => decide_eq_decide.2 (by omega)
  unfold follows
  rcases credOk_kind hc with h | h | h | h
  · simp only [dT h, cond_true, show ((0 : Int)) = ((0 : Nat) : Int) from rfl, el]
    cases decide (L[i].2.1.2 = L[i].1.2.2.1) <;> cases decide (List.length L[i].2.2 = 0) <;> rfl
  · simp only [dT h, dF (show ¬ L[i].1.1 = 1 by rw [h]; decide), cond_true, cond_false]
    rcases hF : L[i].2.2 with _ | ⟨x, _ | ⟨y, zs⟩⟩
    · rfl
    · rw [hF] at ha
      have hx : inR x 0 ((i : Int) - 1) = true := by simpa [allI] using ha
      rw [shown_one hN L hL hi hF hx]
      rfl
    · simp only [List.length_cons]
      rw [dF (by omega)]; rfl
  · simp only [dT h, dF (show ¬ L[i].1.1 = 1 by rw [h]; decide), dF (show ¬ L[i].1.1 = 2 by rw [h]; decide), dF (show ¬ L[i].1.1 = 4 by rw [h]; decide), cond_true, cond_false]
    rcases hF : L[i].2.2 with _ | ⟨x, _ | ⟨y, _ | ⟨z, zs⟩⟩⟩
    · rfl
    · rfl
    · rw [hF] at ha
      have hxy : inR x 0 ((i : Int) - 1) = true ∧ inR y 0 ((i : Int) - 1) = true := by simpa [allI] using ha
      obtain ⟨kx, rfl, hkx⟩ := inR_nat hxy.1
      obtain ⟨ky, rfl, hky⟩ := inR_nat hxy.2
      have hkx' : kx < L.length := by omega
      have hky' : ky < L.length := by omega
      simp only [show ([(kx : Int), (ky : Int)] : List Int).getD (0 : Int).toNat 0 = (kx : Int) from rfl, show ([(kx : Int), (ky : Int)] : List Int).getD (1 : Int).toNat 0 = (ky : Int) from rfl, lt_rows L hkx', le_rows kx, lt_rows L hky', le_rows ky, getD_at L hkx', getD_at L hky']
      unfold factEq
      cases (decide (L[kx].2.1.1.1 = L[i].1.2.2.2.1.1) && decide (L[kx].2.1.1.2 = L[i].1.2.2.2.1.2)) <;> rfl
    · simp only [List.length_cons]
      rw [dF (by omega)]; rfl
  · simp only [dT h, dF (show ¬ L[i].1.1 = 1 by rw [h]; decide), dF (show ¬ L[i].1.1 = 2 by rw [h]; decide), dF (show ¬ L[i].1.1 = 3 by rw [h]; decide), cond_true, cond_false]
    rcases hF : L[i].2.2 with _ | ⟨x, _ | ⟨y, _ | ⟨z, zs⟩⟩⟩
    · rfl
    · rfl
    · rw [hF] at ha
      have hxy : inR x 0 ((i : Int) - 1) = true ∧ inR y 0 ((i : Int) - 1) = true := by simpa [allI] using ha
      obtain ⟨kx, rfl, hkx⟩ := inR_nat hxy.1
      obtain ⟨ky, rfl, hky⟩ := inR_nat hxy.2
      have hkx' : kx < L.length := by omega
      have hky' : ky < L.length := by omega
      simp only [show ([(kx : Int), (ky : Int)] : List Int).getD (0 : Int).toNat 0 = (kx : Int) from rfl, show ([(kx : Int), (ky : Int)] : List Int).getD (1 : Int).toNat 0 = (ky : Int) from rfl, lt_rows L hkx', le_rows kx, lt_rows L hky', le_rows ky, getD_at L hkx', getD_at L hky']
      unfold factEq
      cases (decide (L[kx].2.1.1.1 = L[i].1.2.2.2.1.1) && (decide (L[kx].2.1.1.2 = L[i].1.2.2.2.1.2) && decide (L[kx].2.1.2 = L[i].2.1.2))) <;> rfl
    · simp only [List.length_cons]
      rw [dF (by omega)]; rfl

theorem impl_StepOk {N : Nat} (hN : Big N) (L : List (Den tStep)) (hL : okz (.sl tStep) L) (n : Int) : x_impl_StepOk N L n = some (stepOk L n) := by
  have hN' : 1099511627776 ≤ N := hN
  have hl := hL.1
  unfold x_impl_StepOk
  rw [w64_sub1 (by omega : L.length ≤ 140737488355328), in_eq, Option.bind_some]
  cases hn : inR n 0 ((L.length : Int) - 1)
  · rw [stepOk_out L hn]; rfl
  obtain ⟨i, rfl, hi⟩ := inR_nat hn
  have hs : okz tStep L[i] := hL.2 _ (List.getElem_mem hi)
  rw [stepOk_in L hi]
  simp only [Bool.not_true, cond_false, cond_true, lt_rows L hi, le_rows i, Bool.and_self, getD_at L hi, peta]
  unfold stepAt
  rw [credOk_i, Option.bind_some]
  cases hc : credOk L[i].1
  · rfl
  cases (decide (L[i].2.1.1.1 = L[i].1.2.1.1) && decide (L[i].2.1.1.2 = L[i].1.2.1.2))
  · rfl
  simp only [Bool.not_true, cond_false, Bool.true_and]
  have h0 := hs.2.2.1
  generalize hT : (fun (x : Den tStep × List (Den tFact)) => _) = T
  obtain ⟨g, hg⟩ : ∃ g : Int → Den tFact, g = fun (x : Int) => (L.getD x.toNat (dft tStep)).2.1 := ⟨_, rfl⟩
  have st0 : ([] : List (Den tFact)) = (L[i].2.2.take 0).map g := by simp
  rw [st0]
  refine Eq.trans (iter_all (B := B_impl_StepOk_L0 N T (fun ρ6 => some ρ6)) L[i].2.2 (fun j => (L, (i : Int), L[i], (L[i].2.2.take j).map g, L[i].2.2, (List.length L[i].2.2 : Int), (j : Int))) (fun _ x => inR x 0 ((i : Int) - 1)) (T (L[i], L[i].2.2.map g)) (some false)
    (fun j hj rec_ => by
      show (bif _ then _ else _) = _
      simp only [lt_rows L[i].2.2 hj, le_rows j, Bool.and_self, cond_true, getD_at L[i].2.2 hj, w64_up (Nat.le_refl j) (by omega : j ≤ 140737488355328)]
      unfold x_impl_shown
      simp only [in_eq, Option.bind_some, w64_sub1 (by omega : i ≤ 140737488355328)]
      cases hx : inR L[i].2.2[j] 0 ((i : Int) - 1)
      · rfl
      obtain ⟨k, hk1, hk2⟩ := inR_nat hx
      have hk3 : k < L.length := by omega
      simp only [hk1, Bool.not_true, cond_false, lt_rows L hk3, le_rows k, Bool.and_self, cond_true, Option.bind_some, peta]
      rw [dT (by simp; omega)]
      have e : (L[i].2.2.take j).map g ++ [(L.getD ((k : Int)).toNat (dft tStep)).2.1] = (L[i].2.2.take (j + 1)).map g := by
        rw [List.take_succ_eq_append_getElem hj, List.map_append, hg, ← hk1]; rfl
      rw [e]; rfl)
    (fun rec_ => by
      show (bif _ then _ else _) = _
      rw [dF (Int.lt_irrefl _), List.take_length]; rfl) (N := N) (by omega)) ?_
  cases ha : allI (fun _ x => inR x 0 ((i : Int) - 1)) 0 L[i].2.2
  · rfl
  rw [← hT]
  simp only [cond_true, Bool.true_and, List.length_map]
  have el : ∀ k : Nat, decide ((List.length L[i].2.2 : Int) = (k : Int)) = decide (List.length L[i].2.2 = k) := fun k => decide_eq_decide.2 (by omega)
  unfold follows
  rcases credOk_kind hc with h | h | h | h
  · simp only [dT h, cond_true, show ((0 : Int)) = ((0 : Nat) : Int) from rfl, el]
    cases decide (L[i].2.1.2 = L[i].1.2.2.1) <;> cases decide (List.length L[i].2.2 = 0) <;> rfl
  · simp only [dT h, dF (show ¬ L[i].1.1 = 1 by rw [h]; decide), cond_true, cond_false]
    rcases hF : L[i].2.2 with _ | ⟨x, _ | ⟨y, zs⟩⟩
    · rfl
    · rw [hg]; rfl
    · simp only [List.length_cons]
      rw [dF (by omega)]; rfl
  · simp only [dT h, dF (show ¬ L[i].1.1 = 1 by rw [h]; decide), dF (show ¬ L[i].1.1 = 2 by rw [h]; decide), cond_true, cond_false]
    rcases hF : L[i].2.2 with _ | ⟨x, _ | ⟨y, _ | ⟨z, zs⟩⟩⟩
    · rfl
    · rfl
    · simp only [hg, List.map_cons, List.map_nil, show ∀ a b : Den tFact, [a, b].getD (0 : Int).toNat (dft tFact) = a from fun _ _ => rfl, show ∀ a b : Den tFact, [a, b].getD (1 : Int).toNat (dft tFact) = b from fun _ _ => rfl]
      unfold factEq
      cases (decide ((L.getD x.toNat (dft tStep)).2.1.1.1 = L[i].1.2.2.2.1.1) && decide ((L.getD x.toNat (dft tStep)).2.1.1.2 = L[i].1.2.2.2.1.2)) <;> rfl
    · simp only [List.length_cons]
      rw [dF (by omega)]; rfl
  · simp only [dT h, dF (show ¬ L[i].1.1 = 1 by rw [h]; decide), dF (show ¬ L[i].1.1 = 2 by rw [h]; decide), dF (show ¬ L[i].1.1 = 3 by rw [h]; decide), cond_true, cond_false]
    rcases hF : L[i].2.2 with _ | ⟨x, _ | ⟨y, _ | ⟨z, zs⟩⟩⟩
    · rfl
    · rfl
    · simp only [hg, List.map_cons, List.map_nil, show ∀ a b : Den tFact, [a, b].getD (0 : Int).toNat (dft tFact) = a from fun _ _ => rfl, show ∀ a b : Den tFact, [a, b].getD (1 : Int).toNat (dft tFact) = b from fun _ _ => rfl]
      unfold factEq
      cases (decide ((L.getD x.toNat (dft tStep)).2.1.1.1 = L[i].1.2.2.2.1.1) && (decide ((L.getD x.toNat (dft tStep)).2.1.1.2 = L[i].1.2.2.2.1.2) && decide ((L.getD x.toNat (dft tStep)).2.1.2 = L[i].2.1.2))) <;> rfl
    · simp only [List.length_cons]
      rw [dF (by omega)]; rfl
end Go.Proofs.Yteadknjgpmnigaa.C

namespace Go.Proofs.Yteadknjgpmnigaa.C
open Go Go.Proofs.Yteadknjgpmnigaa.Nx Go.RowKit
set_option linter.unusedVariables false
set_option linter.unusedSimpArgs false

/-- A proof that is right. -/
def proofOk (L : List (Den tStep)) (r : Den tRole) (w : Int) : Bool :=
  inR (L.length : Int) 1 200 && (factEq (L.getD (L.length - 1) (dft tStep)).2.1 r.1 r.2 w && allI (fun i _ => stepOk L (i : Int)) 0 L)

theorem inR_pos {x a b : Int} (h : inR x a b = true) : a ≤ x ∧ x ≤ b := by
  unfold inR at h
  rwa [Bool.and_eq_true, decide_eq_true_eq, decide_eq_true_eq] at h

theorem spec_ProofOk {N : Nat} (hN : Big N) (L : List (Den tStep)) (hL : okz (.sl tStep) L) (r : Den tRole) (w : Int) : x_spec_ProofOk N L r w = some (proofOk L r w) := by
  have hN' : 1099511627776 ≤ N := hN
  have hl := hL.1
  unfold x_spec_ProofOk proofOk
  rw [l01In_eq, Option.bind_some]
  cases hn : inR (L.length : Int) 1 200
  · rfl
  have h1 := (inR_pos hn).1
  have hi : L.length - 1 < L.length := by omega
  have hm : wrap64 ((L.length : Int) - 1) = ((L.length - 1 : Nat) : Int) := by rw [w64 (by omega) (by omega)]; omega
  simp only [hm, lt_rows L hi, le_rows, Bool.and_self, Bool.not_true, cond_true, cond_false, Int.toNat_natCast, Bool.true_and]
  have e := iter_all (B := B_spec_ProofOk_L0 N (fun _ => some true) (fun ρ3 => some (ρ3))) L (fun i => (L, (L.length : Int), (i : Int))) (fun i _ => stepOk L (i : Int)) (some true) (some false)
    (fun i hi rec_ => by
      show (bif _ then _ else _) = _
      simp only [lt_rows L hi, cond_true, spec_StepOk hN L hL, Option.bind_some, w64_up (Nat.le_refl i) (by omega : i ≤ 140737488355328)]
      cases stepOk L (i : Int) <;> rfl)
    (fun rec_ => by
      show (bif _ then _ else _) = _
      rw [dF (Int.lt_irrefl _)]; rfl) (N := N) (by omega)
  unfold factEq
  generalize (decide ((L.getD (L.length - 1) (dft tStep)).2.1.1.1 = r.1) && _) = b
  cases b
  · rfl
  · refine Eq.trans e ?_
    cases allI (fun i _ => stepOk L (i : Int)) 0 L <;> rfl

theorem impl_ProofOk {N : Nat} (hN : Big N) (L : List (Den tStep)) (hL : okz (.sl tStep) L) (r : Den tRole) (w : Int) : x_impl_ProofOk N L r w = some (proofOk L r w) := by
  have hN' : 1099511627776 ≤ N := hN
  have hl := hL.1
  unfold x_impl_ProofOk proofOk
  rw [in_eq, Option.bind_some]
  cases hn : inR (L.length : Int) 1 200
  · rfl
  have h1 := (inR_pos hn).1
  have hi : L.length - 1 < L.length := by omega
  have hm : wrap64 ((L.length : Int) - 1) = ((L.length - 1 : Nat) : Int) := by rw [w64 (by omega) (by omega)]; omega
  simp only [Bool.not_true, cond_false, Bool.true_and]
  generalize hT : (fun (x : List (Den tStep) × Int × Den tRole) => _) = T
  refine Eq.trans (iter_all (B := B_impl_ProofOk_L0 N T (fun ρ6 => some (ρ6))) L (fun i => (L, w, r, (L.length : Int), (i : Int))) (fun i _ => stepOk L (i : Int)) (T (L, w, r)) (some false)
    (fun i hi rec_ => by
      show (bif _ then _ else _) = _
      simp only [lt_rows L hi, cond_true, impl_StepOk hN L hL, Option.bind_some, w64_up (Nat.le_refl i) (by omega : i ≤ 140737488355328)]
      cases stepOk L (i : Int) <;> rfl)
    (fun rec_ => by
      show (bif _ then _ else _) = _
      rw [dF (Int.lt_irrefl _)]; rfl) (N := N) (by omega)) ?_
  rw [← hT]
  simp only [hm, lt_rows L hi, le_rows, Bool.and_self, cond_true, Int.toNat_natCast]
  unfold factEq
  generalize (decide ((L.getD (L.length - 1) (dft tStep)).2.1.1.1 = r.1) && _) = b
  cases allI (fun i _ => stepOk L (i : Int)) 0 L <;> cases b <;> rfl
end Go.Proofs.Yteadknjgpmnigaa.C

namespace Go.Proofs.Yteadknjgpmnigaa.C
open Go Go.Proofs.Yteadknjgpmnigaa.Nx Go.RowKit
set_option linter.unusedVariables false
set_option linter.unusedSimpArgs false

/-- Words that are alike. -/
def credEq (x c : Den tCred) : Bool :=
  decide (x.1 = c.1) && (decide (x.2.1.1 = c.2.1.1) && (decide (x.2.1.2 = c.2.1.2) && (decide (x.2.2.1 = c.2.2.1) && (decide (x.2.2.2.1.1 = c.2.2.2.1.1) && (decide (x.2.2.2.1.2 = c.2.2.2.1.2) && (decide (x.2.2.2.2.1.1 = c.2.2.2.2.1.1) && (decide (x.2.2.2.2.1.2 = c.2.2.2.2.1.2) && (decide (x.2.2.2.2.2.1 = c.2.2.2.2.2.1) && decide (x.2.2.2.2.2.2 = c.2.2.2.2.2.2)))))))))

def hasC (acc : List (Den tCred)) (c : Den tCred) : Bool := acc.any fun x => credEq x c

/-- The words of steps, each once. -/
def credsF : List (Den tCred) → List (Den tStep) → List (Den tCred)
  | acc, [] => acc
  | acc, s :: ss => credsF (bif hasC acc s.1 then acc else acc ++ [s.1]) ss

theorem credsF_nil (acc : List (Den tCred)) : credsF acc [] = acc := rfl
theorem credsF_cons (acc : List (Den tCred)) (s : Den tStep) (ss : List (Den tStep)) : credsF acc (s :: ss) = credsF (bif hasC acc s.1 then acc else acc ++ [s.1]) ss := rfl

theorem credsF_len : ∀ (l : List (Den tStep)) (acc : List (Den tCred)), (credsF acc l).length ≤ acc.length + l.length
  | [], acc => by rw [credsF_nil]; simp
  | s :: ss, acc => by
    rw [credsF_cons]
    have h1 := credsF_len ss (bif hasC acc s.1 then acc else acc ++ [s.1])
    have h2 : (bif hasC acc s.1 then acc else acc ++ [s.1]).length ≤ acc.length + 1 := by
      cases hasC acc s.1 <;> simp
    simp only [List.length_cons]
    omega

theorem dcomm (a b : Int) : decide (a = b) = decide (b = a) := decide_eq_decide.2 ⟨Eq.symm, Eq.symm⟩

theorem spec_CredsIn {N : Nat} (hN : Big N) (L : List (Den tStep)) (hL : L.length ≤ 1048576) : x_spec_CredsIn N L = some (credsF [] L) := by
  have hN' : 1099511627776 ≤ N := hN
  unfold x_spec_CredsIn
  refine iter_to (B := B_spec_CredsIn_L0 N (fun x6 => some x6) (fun ρ7 => some (ρ7))) (A := List (Den tCred)) (fun i acc => (L, acc, (i : Int))) (fun i acc r => acc.length ≤ i → r = some (credsF acc (L.drop i))) L.length
    (fun i acc rec_ hi h hacc => ?_) (fun acc rec_ hacc => ?_) N (by omega) [] (Nat.zero_le _)
  · have inner : ∀ (kx : List (Den tStep) × List (Den tCred) × Int × Bool → Option (List (Den tCred))), iter (B_spec_CredsIn_L2 N kx (fun ρ5 => some ρ5)) N (L, acc, (i : Int), false, (0 : Int)) = kx (L, acc, (i : Int), hasC acc L[i].1) := by
      intro kx
      have := iter_rowA (B := B_spec_CredsIn_L2 N kx (fun ρ5 => some ρ5)) acc (fun j (b : Bool) => (L, acc, (i : Int), b, (j : Int))) (fun j b l => kx (L, acc, (i : Int), b || l.any fun x => credEq x L[i].1))
        (fun j hj b rec_ h => by
          show (bif _ then _ else _) = _
          simp only [lt_rows acc hj, le_rows j, Bool.and_self, cond_true, getD_at acc hj, lt_rows L hi, le_rows i, getD_at L hi, w64_up (Nat.le_refl j) (by omega : j ≤ 140737488355328), h, List.any_cons]
          cases b
          · rw [cond_false, Bool.false_or]; rfl
          · rw [cond_true, Bool.true_or, Bool.true_or])
        (fun b rec_ => by
          show (bif _ then _ else _) = _
          rw [dF (Int.lt_irrefl _), List.any_nil, Bool.or_false]; rfl) (N := N) (by omega) false
      rw [Bool.false_or] at this
      exact this
    rw [drop_cons hi, credsF_cons]
    show (bif _ then _ else _) = _
    simp only [lt_rows L hi, cond_true]
    rw [inner]
    simp only [lt_rows L hi, le_rows i, Bool.and_self, cond_true, getD_at L hi, w64_up (Nat.le_refl i) (by omega : i ≤ 140737488355328)]
    cases hasC acc L[i].1
    · rw [dT (by simp; omega)]
      exact h (acc ++ [L[i].1]) (by simp; omega)
    · exact h acc (by omega)
  · show (bif _ then _ else _) = _
    rw [dF (Int.lt_irrefl _), List.drop_length, credsF_nil]; rfl

theorem containsC {N : Nat} (hN : Big N) (acc : List (Den tCred)) (ha : acc.length ≤ 1048576) (c : Den tCred) : x_slices_Contains_impl_Cred_impl_Cred N acc c = some (hasC acc c) := by
  unfold x_slices_Contains_impl_Cred_impl_Cred x_slices_Index_impl_Cred_impl_Cred
  have := index_func (d := dft tCred) (L := acc) (by omega) c (f := fun x => some (credEq x c)) (fun x => credEq x c) (fun x _ => rfl) hN (B := B_slices_Index_impl_Cred_impl_Cred_L0 N (fun _ => some (-1 : Int)) (fun ρ1 => some (ρ1)))
    (fun rec_ s0 s7 s8 => by
      show (bif _ then (bif _ then (bif _ then _ else _) else _) else _) = _
      generalize s0.getD s8.toNat (dft tCred) = x
      rw [dcomm c.1 x.1, dcomm c.2.1.1 x.2.1.1, dcomm c.2.1.2 x.2.1.2, dcomm c.2.2.1 x.2.2.1, dcomm c.2.2.2.1.1 x.2.2.2.1.1, dcomm c.2.2.2.1.2 x.2.2.2.1.2, dcomm c.2.2.2.2.1.1 x.2.2.2.2.1.1, dcomm c.2.2.2.2.1.2 x.2.2.2.2.1.2, dcomm c.2.2.2.2.2.1 x.2.2.2.2.2.1, dcomm c.2.2.2.2.2.2 x.2.2.2.2.2.2]
      rfl)
  rw [this, Option.bind_some, findI_any]
  rfl

theorem impl_CredsIn {N : Nat} (hN : Big N) (L : List (Den tStep)) (hL : L.length ≤ 1048576) : x_impl_CredsIn N L = some (credsF [] L) := by
  have hN' : 1099511627776 ≤ N := hN
  unfold x_impl_CredsIn
  refine iter_to (B := B_impl_CredsIn_L0 N (fun x2 => some x2) (fun ρ3 => some (ρ3))) (A := List (Den tCred)) (fun i acc => (acc, L, (L.length : Int), (i : Int))) (fun i acc r => acc.length ≤ i → r = some (credsF acc (L.drop i))) L.length
    (fun i acc rec_ hi h hacc => ?_) (fun acc rec_ hacc => ?_) N (by omega) [] (Nat.zero_le _)
  · rw [drop_cons hi, credsF_cons]
    show (bif _ then _ else _) = _
    simp only [lt_rows L hi, le_rows i, Bool.and_self, cond_true, getD_at L hi, peta, containsC hN acc (by omega), Option.bind_some, w64_up (Nat.le_refl i) (by omega : i ≤ 140737488355328)]
    cases hasC acc L[i].1
    · rw [dT (by simp; omega)]
      exact h (acc ++ [L[i].1]) (by simp; omega)
    · exact h acc (by omega)
  · show (bif _ then _ else _) = _
    rw [dF (Int.lt_irrefl _), List.drop_length, credsF_nil]; rfl

/-- Words that are alive. -/
def aliveF (now : Int) (l : List (Den tCred)) : List (Den tCred) := l.filter fun c => credOk c && decide (now ≤ c.2.2.2.2.2.1)

theorem aliveF_cons (now : Int) (c : Den tCred) (l : List (Den tCred)) : aliveF now (c :: l) = bif credOk c && decide (now ≤ c.2.2.2.2.2.1) then c :: aliveF now l else aliveF now l := by
  unfold aliveF
  rw [List.filter_cons]
  cases (credOk c && decide (now ≤ c.2.2.2.2.2.1)) <;> rfl

theorem spec_Alive {N : Nat} (hN : Big N) (L : List (Den tCred)) (hL : L.length ≤ 1048576) (now : Int) : x_spec_Alive N L now = some (aliveF now L) := by
  have hN' : 1099511627776 ≤ N := hN
  unfold x_spec_Alive
  refine iter_to (B := B_spec_Alive_L0 N (fun x2 => some x2) (fun ρ3 => some (ρ3))) (A := List (Den tCred)) (fun i acc => (L, now, acc, (i : Int))) (fun i acc r => acc.length ≤ i → r = some (acc ++ aliveF now (L.drop i))) L.length
    (fun i acc rec_ hi h hacc => ?_) (fun acc rec_ hacc => ?_) N (by omega) [] (Nat.zero_le _)
  · rw [drop_cons hi, aliveF_cons]
    show (bif _ then _ else _) = _
    simp only [lt_rows L hi, le_rows i, Bool.and_self, cond_true, getD_at L hi, credOk_s, Option.bind_some, w64_up (Nat.le_refl i) (by omega : i ≤ 140737488355328)]
    cases credOk L[i]
    · exact h acc (by omega)
    · cases decide (now ≤ L[i].2.2.2.2.2.1)
      · exact h acc (by omega)
      · rw [dT (by simp; omega)]
        refine (h (acc ++ [L[i]]) (by simp; omega)).trans ?_
        simp
  · show (bif _ then _ else _) = _
    rw [dF (Int.lt_irrefl _), List.drop_length]
    simp [aliveF]

theorem impl_Alive {N : Nat} (hN : Big N) (L : List (Den tCred)) (hL : L.length ≤ 1048576) (now : Int) : x_impl_Alive N L now = some (aliveF now L) := by
  have hN' : 1099511627776 ≤ N := hN
  unfold x_impl_Alive
  refine iter_to (B := B_impl_Alive_L0 N (fun x2 => some x2) (fun ρ3 => some (ρ3))) (A := List (Den tCred)) (fun i acc => (now, acc, L, (L.length : Int), (i : Int))) (fun i acc r => acc.length ≤ i → r = some (acc ++ aliveF now (L.drop i))) L.length
    (fun i acc rec_ hi h hacc => ?_) (fun acc rec_ hacc => ?_) N (by omega) [] (Nat.zero_le _)
  · rw [drop_cons hi, aliveF_cons]
    show (bif _ then _ else _) = _
    simp only [lt_rows L hi, le_rows i, Bool.and_self, cond_true, getD_at L hi, peta, credOk_i, Option.bind_some, w64_up (Nat.le_refl i) (by omega : i ≤ 140737488355328)]
    cases credOk L[i]
    · exact h acc (by omega)
    · cases decide (now ≤ L[i].2.2.2.2.2.1)
      · exact h acc (by omega)
      · rw [dT (by simp; omega)]
        refine (h (acc ++ [L[i]]) (by simp; omega)).trans ?_
        simp
  · show (bif _ then _ else _) = _
    rw [dF (Int.lt_irrefl _), List.drop_length]
    simp [aliveF]

theorem answerOk_eq {N : Nat} (hN : Big N) (a : Den tAnswer) (ha : okz tAnswer a) (r : Den tRole) (w now : Int) : ∃ b, x_spec_AnswerOk N a r w now = some b ∧ x_impl_AnswerOk N a r w now = some b := by
  have hs := ha.2.1
  have hc : (credsF [] a.2.1).length ≤ 1048576 := by
    have := credsF_len a.2.1 []
    have := hs.1
    simp at *
    omega
  unfold x_spec_AnswerOk x_impl_AnswerOk
  simp only [spec_CredsIn hN a.2.1 hs.1, impl_CredsIn hN a.2.1 hs.1, spec_ProofOk hN _ hs, impl_ProofOk hN _ hs, spec_Alive hN _ hc, impl_Alive hN _ hc, Option.bind_some]
  cases a.1
  · exact ⟨_, rfl, rfl⟩
  · cases proofOk a.2.1 r w <;> exact ⟨_, rfl, rfl⟩
end Go.Proofs.Yteadknjgpmnigaa.C

namespace Go.Proofs.Yteadknjgpmnigaa.C
open Go Go.Proofs.Yteadknjgpmnigaa.Nx Go.RowKit
set_option linter.unusedVariables false
set_option linter.unusedSimpArgs false

theorem pure_FnExactAnswerOk (a0 : Den tAnswer) (a1 : Den tRole) (a2 a3 : Den I) (g0 : good tAnswer a0) (g1 : good tRole a1) (g2 : good I a2) (g3 : good I a3) : ∃ N, x_laws_FnExactAnswerOk N a0 a1 a2 a3 = some true := by
  refine ⟨1099511627776, ?_⟩
  have hN : Big 1099511627776 := Nat.le_refl _
  generalize 1099511627776 = N at hN
  unfold x_laws_FnExactAnswerOk
  obtain ⟨k, e, hk⟩ := sz_Answer hN a0 g0 1048576 (by omega) (by omega)
  rw [e, Option.bind_some]
  rcases hk with hk | ⟨h1, h2, h⟩
  · rw [dT hk]; rfl
  · rw [dF (by omega)]
    obtain ⟨b, e1, e2⟩ := answerOk_eq hN a0 h a1 a2 a3
    simp only [cond_false, to_Answer hN a0 h, to_Role hN a1 ⟨trivial, trivial⟩, Option.bind_some, e1, e2, eq_Answer hN a0 h, beq_self_eq_true, Bool.not_true]
end Go.Proofs.Yteadknjgpmnigaa.C
