/- The data that the two functions compute are alike, for all arguments that memory can hold. -/
import Derived.Test.YtfmlmdnaeonobaaHFnProofs
set_option linter.unusedVariables false
set_option linter.unusedSimpArgs false
namespace Go.Proofs.Ytfmlmdnaeonobaa.C
open Go Go.Proofs.Ytfmlmdnaeonobaa.Nx Go.RowKit
end Go.Proofs.Ytfmlmdnaeonobaa.C
namespace Go.Proofs.Ytfmlmdnaeonobaa.C
open Go Go.Proofs.Ytfmlmdnaeonobaa.Nx Go.RowKit
set_option linter.unusedVariables false
set_option linter.unusedSimpArgs false
theorem peta {α β : Type} (p : α × β) : (p.1,p.2) = p := rfl
def inR (n a b : Int) : Bool := decide (a ≤ n) && decide (n ≤ b)
theorem in_eq (N : Nat) (n a b : Int) : x_f10 N n a b = some (inR n a b) := by
 unfold x_f10 inR
 cases decide (a ≤ n) <;> rfl
theorem l01In_eq (N : Nat) (n a b : Int) : x_f30 N n a b = some (inR n a b) := by
 unfold x_f30 inR
 cases decide (a ≤ n) <;> rfl
end Go.Proofs.Ytfmlmdnaeonobaa.C
namespace Go.Proofs.Ytfmlmdnaeonobaa.C
open Go Go.Proofs.Ytfmlmdnaeonobaa.Nx Go.RowKit
set_option linter.unusedVariables false
set_option linter.unusedSimpArgs false
def roleOk (r : Den tRole) : Bool := inR r.1 0 5 && inR r.2 0 3
theorem roleOk_i (N : Nat) (r : Den tRole) : x_f4 N r = some (roleOk r) := by
 unfold x_f4 roleOk
 simp only [in_eq,Option.bind_some]
 cases inR r.1 0 5 <;> rfl
theorem roleOk_s (N : Nat) (r : Den tRole) : x_f27 N r = some (roleOk r) := by
 unfold x_f27 roleOk
 simp only [l01In_eq,Option.bind_some]
 cases inR r.1 0 5 <;> rfl
theorem isPerson_i (N : Nat) (n : Int) : x_f11 N n = some (inR n 0 5) := by
 unfold x_f11
 simp only [in_eq,Option.bind_some]
def credOk (c : Den tCred) : Bool :=
 roleOk c.2.1 && (inR c.2.2.2.2.2.1 1 9999 && (inR c.2.2.2.2.2.2 0 99 &&
 (bif decide (c.1 = 1) then inR c.2.2.1 0 5 && ((decide (c.2.2.2.1.1 = 0) && decide (c.2.2.2.1.2 = 0)) && (decide (c.2.2.2.2.1.1 = 0) && decide (c.2.2.2.2.1.2 = 0)))
  else bif decide (c.1 = 2) then decide (c.2.2.1 = 0) && (roleOk c.2.2.2.1 && (decide (c.2.2.2.2.1.1 = 0) && decide (c.2.2.2.2.1.2 = 0)))
  else bif decide (c.1 = 3) then decide (c.2.2.1 = 0) && (roleOk c.2.2.2.1 && (roleOk c.2.2.2.2.1 && decide (c.2.2.2.2.1.1 = 0)))
  else bif decide (c.1 = 4) then decide (c.2.2.1 = 0) && (roleOk c.2.2.2.1 && roleOk c.2.2.2.2.1)
  else false)))
theorem credOk_i (N : Nat) (c : Den tCred) : x_f0 N c = some (credOk c) := by
 unfold x_f0 credOk
 simp only [in_eq,roleOk_i,isPerson_i,Option.bind_some]
 generalize roleOk c.2.1 = a1
 generalize inR c.2.2.2.2.2.1 1 9999 = a2
 generalize inR c.2.2.2.2.2.2 0 99 = a3
 generalize inR c.2.2.1 0 5 = a4
 generalize decide (c.1 = 1) = b1
 generalize decide (c.1 = 2) = b2
 generalize decide (c.1 = 3) = b3
 generalize decide (c.1 = 4) = b4
 generalize decide (c.2.2.1 = 0) = d1
 generalize roleOk c.2.2.2.1 = r1
 generalize roleOk c.2.2.2.2.1 = r2
 generalize (decide (c.2.2.2.1.1 = 0) && decide (c.2.2.2.1.2 = 0)) = z1
 generalize (decide (c.2.2.2.2.1.1 = 0) && decide (c.2.2.2.2.1.2 = 0)) = z2
 cases a1 <;> cases a2 <;> cases a3 <;> try rfl
 cases b1 <;> cases b2 <;> cases b3 <;> cases b4 <;> cases d1 <;> cases r1 <;> cases r2 <;> cases a4 <;> cases z1 <;> rfl
theorem credOk_s (N : Nat) (c : Den tCred) : x_f21 N c = some (credOk c) := by
 rw [← credOk_i N c]
 unfold x_f21 x_f0
 simp only [in_eq,l01In_eq,roleOk_i,roleOk_s,isPerson_i,Option.bind_some]
end Go.Proofs.Ytfmlmdnaeonobaa.C
namespace Go.Proofs.Ytfmlmdnaeonobaa.C
open Go Go.Proofs.Ytfmlmdnaeonobaa.Nx Go.RowKit
set_option linter.unusedVariables false
set_option linter.unusedSimpArgs false
def factEq (a : Den tFact) (r1 r2 w : Int) : Bool := decide (a.1.1 = r1) && (decide (a.1.2 = r2) && decide (a.2 = w))
def follows (L : List (Den tStep)) (s : Den tStep) : Bool :=
 let g := fun (x : Int) => (L.getD x.toNat (dft tStep)).2.1
 bif decide (s.1.1 = 1) then decide (s.2.2.length = 0) && decide (s.2.1.2 = s.1.2.2.1)
 else bif decide (s.1.1 = 2) then (match s.2.2 with
  | [x] => factEq (g x) s.1.2.2.2.1.1 s.1.2.2.2.1.2 s.2.1.2
  | _ => false)
 else bif decide (s.1.1 = 3) then (match s.2.2 with
  | [x,y] => (decide ((g x).1.1 = s.1.2.2.2.1.1) && decide ((g x).1.2 = s.1.2.2.2.1.2)) && factEq (g y) (g x).2 s.1.2.2.2.2.1.2 s.2.1.2
  | _ => false)
 else (match s.2.2 with
  | [x,y] => factEq (g x) s.1.2.2.2.1.1 s.1.2.2.2.1.2 s.2.1.2 && factEq (g y) s.1.2.2.2.2.1.1 s.1.2.2.2.2.1.2 s.2.1.2
  | _ => false)
def stepAt (L : List (Den tStep)) (i : Nat) (s : Den tStep) : Bool :=
 credOk s.1 && ((decide (s.2.1.1.1 = s.1.2.1.1) && decide (s.2.1.1.2 = s.1.2.1.2)) && (allI (fun _ x => inR x 0 ((i : Int) - 1)) 0 s.2.2 && follows L s))
def stepOk (L : List (Den tStep)) (n : Int) : Bool :=
 bif inR n 0 ((L.length : Int) - 1) then stepAt L n.toNat (L.getD n.toNat (dft tStep)) else false
theorem inR_nat {x : Int} {n : Nat} (h : inR x 0 ((n : Int) - 1) = true) : ∃ k : Nat,x = (k : Int) ∧ k < n := by
 unfold inR at h
 rw [Bool.and_eq_true,decide_eq_true_eq,decide_eq_true_eq] at h
 exact ⟨x.toNat,by omega,by omega⟩
theorem credOk_kind {c : Den tCred} (h : credOk c = true) : c.1 = 1 ∨ c.1 = 2 ∨ c.1 = 3 ∨ c.1 = 4 := by
 unfold credOk at h
 by_cases h1 : c.1 = 1
 ·exact .inl h1
 by_cases h2 : c.1 = 2
 ·exact .inr (.inl h2)
 by_cases h3 : c.1 = 3
 ·exact .inr (.inr (.inl h3))
 by_cases h4 : c.1 = 4
 ·exact .inr (.inr (.inr h4))
 rw [dF h1,dF h2,dF h3,dF h4] at h
 simp at h
theorem w64_sub1 {i : Nat} (h : i ≤ 140737488355328) : wrap64 ((i : Int) - 1) = (i : Int) - 1 := w64 (by omega) (by omega)
theorem getD_map {α β : Type} (f : α → β) (l : List α) (k : Nat) (h : k < l.length) (d : β) : (l.map f).getD k d = f l[k] := by
 simp [List.getD,h]
theorem stepOk_out (L : List (Den tStep)) {n : Int} (hn : inR n 0 ((L.length : Int) - 1) = false) : stepOk L n = false := by
 unfold stepOk; rw [hn]; rfl
theorem stepOk_in (L : List (Den tStep)) {i : Nat} (hi : i < L.length) : stepOk L (i : Int) = stepAt L i L[i] := by
 unfold stepOk
 have : inR (i : Int) 0 ((L.length : Int) - 1) = true := by
  unfold inR; rw [dT (by omega),dT (by omega)]; rfl
 rw [this,getD_at L hi]; rfl
theorem impl_StepOk {N : Nat} (hN : Big N) (L : List (Den tStep)) (hL : okz (.sl tStep) L) (n : Int) : x_f5 N L n = some (stepOk L n) := by
 have hN' : 1099511627776 ≤ N := hN
 have hl := hL.1
 unfold x_f5
 rw [w64_sub1 (by omega : L.length ≤ 140737488355328),in_eq,Option.bind_some]
 cases hn : inR n 0 ((L.length : Int) - 1)
 ·rw [stepOk_out L hn]; rfl
 obtain ⟨i,rfl,hi⟩ := inR_nat hn
 have hs : okz tStep L[i] := hL.2 _ (List.getElem_mem hi)
 rw [stepOk_in L hi]
 simp only [Bool.not_true,cond_false,cond_true,lt_rows L hi,le_rows i,Bool.and_self,getD_at L hi,peta]
 unfold stepAt
 rw [credOk_i,Option.bind_some]
 cases hc : credOk L[i].1
 ·rfl
 cases (decide (L[i].2.1.1.1 = L[i].1.2.1.1) && decide (L[i].2.1.1.2 = L[i].1.2.1.2))
 ·rfl
 simp only [Bool.not_true,cond_false,Bool.true_and]
 have h0 := hs.2.2.1
 generalize hT : (fun (x : Den tStep × List (Den tFact)) => _) = T
 obtain ⟨g,hg⟩ : ∃ g : Int → Den tFact,g = fun (x : Int) => (L.getD x.toNat (dft tStep)).2.1 := ⟨_,rfl⟩
 have st0 : ([] : List (Den tFact)) = (L[i].2.2.take 0).map g := by simp
 rw [st0]
 refine Eq.trans (iter_all (B := B_f5_L0 N T (fun ρ6 => some ρ6)) L[i].2.2 (fun j => (L,(i : Int),L[i],(L[i].2.2.take j).map g,L[i].2.2,(List.length L[i].2.2 : Int),(j : Int))) (fun _ x => inR x 0 ((i : Int) - 1)) (T (L[i],L[i].2.2.map g)) (some false)
  (fun j hj rec_ => by
   show (bif _ then _ else _) = _
   simp only [lt_rows L[i].2.2 hj,le_rows j,Bool.and_self,cond_true,getD_at L[i].2.2 hj,w64_up (Nat.le_refl j) (by omega : j ≤ 140737488355328)]
   unfold x_f13
   simp only [in_eq,Option.bind_some,w64_sub1 (by omega : i ≤ 140737488355328)]
   cases hx : inR L[i].2.2[j] 0 ((i : Int) - 1)
   ·rfl
   obtain ⟨k,hk1,hk2⟩ := inR_nat hx
   have hk3 : k < L.length := by omega
   simp only [hk1,Bool.not_true,cond_false,lt_rows L hk3,le_rows k,Bool.and_self,cond_true,Option.bind_some,peta]
   rw [dT (by simp; omega)]
   have e : (L[i].2.2.take j).map g ++ [(L.getD ((k : Int)).toNat (dft tStep)).2.1] = (L[i].2.2.take (j + 1)).map g := by
    rw [List.take_succ_eq_append_getElem hj,List.map_append,hg,← hk1]; rfl
   rw [e]; rfl)
  (fun rec_ => by
   show (bif _ then _ else _) = _
   rw [dF (Int.lt_irrefl _),List.take_length]; rfl) (N := N) (by omega)) ?_
 cases ha : allI (fun _ x => inR x 0 ((i : Int) - 1)) 0 L[i].2.2
 ·rfl
 rw [← hT]
 simp only [cond_true,Bool.true_and,List.length_map]
 have el : ∀ k : Nat,decide ((List.length L[i].2.2 : Int) = (k : Int)) = decide (List.length L[i].2.2 = k) := fun k => decide_eq_decide.2 (by omega)
 unfold follows
 rcases credOk_kind hc with h | h | h | h
 ·simp only [dT h,cond_true,show ((0:Int)) = ((0 : Nat) : Int) from rfl,el]
  cases decide (L[i].2.1.2 = L[i].1.2.2.1) <;> cases decide (List.length L[i].2.2 = 0) <;> rfl
 ·simp only [dT h,dF (show ¬ L[i].1.1 = 1 by rw [h]; decide),cond_true,cond_false]
  rcases hF : L[i].2.2 with _ | ⟨x,_ | ⟨y,zs⟩⟩
  ·rfl
  ·rw [hg]; rfl
  ·simp only [List.length_cons]
   rw [dF (by omega)]; rfl
 ·simp only [dT h,dF (show ¬ L[i].1.1 = 1 by rw [h]; decide),dF (show ¬ L[i].1.1 = 2 by rw [h]; decide),cond_true,cond_false]
  rcases hF : L[i].2.2 with _ | ⟨x,_ | ⟨y,_ | ⟨z,zs⟩⟩⟩
  ·rfl
  ·rfl
  ·simp only [hg,List.map_cons,List.map_nil,show ∀ a b : Den tFact,[a,b].getD (0:Int).toNat (dft tFact) = a from fun _ _ => rfl,show ∀ a b : Den tFact,[a,b].getD (1:Int).toNat (dft tFact) = b from fun _ _ => rfl]
   unfold factEq
   cases (decide ((L.getD x.toNat (dft tStep)).2.1.1.1 = L[i].1.2.2.2.1.1) && decide ((L.getD x.toNat (dft tStep)).2.1.1.2 = L[i].1.2.2.2.1.2)) <;> rfl
  ·simp only [List.length_cons]
   rw [dF (by omega)]; rfl
 ·simp only [dT h,dF (show ¬ L[i].1.1 = 1 by rw [h]; decide),dF (show ¬ L[i].1.1 = 2 by rw [h]; decide),dF (show ¬ L[i].1.1 = 3 by rw [h]; decide),cond_true,cond_false]
  rcases hF : L[i].2.2 with _ | ⟨x,_ | ⟨y,_ | ⟨z,zs⟩⟩⟩
  ·rfl
  ·rfl
  ·simp only [hg,List.map_cons,List.map_nil,show ∀ a b : Den tFact,[a,b].getD (0:Int).toNat (dft tFact) = a from fun _ _ => rfl,show ∀ a b : Den tFact,[a,b].getD (1:Int).toNat (dft tFact) = b from fun _ _ => rfl]
   unfold factEq
   cases (decide ((L.getD x.toNat (dft tStep)).2.1.1.1 = L[i].1.2.2.2.1.1) && (decide ((L.getD x.toNat (dft tStep)).2.1.1.2 = L[i].1.2.2.2.1.2) && decide ((L.getD x.toNat (dft tStep)).2.1.2 = L[i].2.1.2))) <;> rfl
  ·simp only [List.length_cons]
   rw [dF (by omega)]; rfl
end Go.Proofs.Ytfmlmdnaeonobaa.C
namespace Go.Proofs.Ytfmlmdnaeonobaa.C
open Go Go.Proofs.Ytfmlmdnaeonobaa.Nx Go.RowKit
set_option linter.unusedVariables false
set_option linter.unusedSimpArgs false
def proofOk (L : List (Den tStep)) (r : Den tRole) (w : Int) : Bool :=
 inR (L.length : Int) 1 200 && (factEq (L.getD (L.length - 1) (dft tStep)).2.1 r.1 r.2 w && allI (fun i _ => stepOk L (i : Int)) 0 L)
theorem inR_pos {x a b : Int} (h : inR x a b = true) : a ≤ x ∧ x ≤ b := by
 unfold inR at h
 rwa [Bool.and_eq_true,decide_eq_true_eq,decide_eq_true_eq] at h
theorem impl_ProofOk {N : Nat} (hN : Big N) (L : List (Den tStep)) (hL : okz (.sl tStep) L) (r : Den tRole) (w : Int) : x_f3 N L r w = some (proofOk L r w) := by
 have hN' : 1099511627776 ≤ N := hN
 have hl := hL.1
 unfold x_f3 proofOk
 rw [in_eq,Option.bind_some]
 cases hn : inR (L.length : Int) 1 200
 ·rfl
 have h1 := (inR_pos hn).1
 have hi : L.length - 1 < L.length := by omega
 have hm : wrap64 ((L.length : Int) - 1) = ((L.length - 1 : Nat) : Int) := by rw [w64 (by omega) (by omega)]; omega
 simp only [Bool.not_true,cond_false,Bool.true_and]
 generalize hT : (fun (x : List (Den tStep) × Int × Den tRole) => _) = T
 refine Eq.trans (iter_all (B := B_f3_L0 N T (fun ρ6 => some (ρ6))) L (fun i => (L,w,r,(L.length : Int),(i : Int))) (fun i _ => stepOk L (i : Int)) (T (L,w,r)) (some false)
  (fun i hi rec_ => by
   show (bif _ then _ else _) = _
   simp only [lt_rows L hi,cond_true,impl_StepOk hN L hL,Option.bind_some,w64_up (Nat.le_refl i) (by omega : i ≤ 140737488355328)]
   cases stepOk L (i : Int) <;> rfl)
  (fun rec_ => by
   show (bif _ then _ else _) = _
   rw [dF (Int.lt_irrefl _)]; rfl) (N := N) (by omega)) ?_
 rw [← hT]
 simp only [hm,lt_rows L hi,le_rows,Bool.and_self,cond_true,Int.toNat_natCast]
 unfold factEq
 generalize (decide ((L.getD (L.length - 1) (dft tStep)).2.1.1.1 = r.1) && _) = b
 cases allI (fun i _ => stepOk L (i : Int)) 0 L <;> cases b <;> rfl
end Go.Proofs.Ytfmlmdnaeonobaa.C
namespace Go.Proofs.Ytfmlmdnaeonobaa.C
open Go Go.Proofs.Ytfmlmdnaeonobaa.Nx Go.RowKit
set_option linter.unusedVariables false
set_option linter.unusedSimpArgs false
def credEq (x c : Den tCred) : Bool :=
 decide (x.1 = c.1) && (decide (x.2.1.1 = c.2.1.1) && (decide (x.2.1.2 = c.2.1.2) && (decide (x.2.2.1 = c.2.2.1) && (decide (x.2.2.2.1.1 = c.2.2.2.1.1) && (decide (x.2.2.2.1.2 = c.2.2.2.1.2) && (decide (x.2.2.2.2.1.1 = c.2.2.2.2.1.1) && (decide (x.2.2.2.2.1.2 = c.2.2.2.2.1.2) && (decide (x.2.2.2.2.2.1 = c.2.2.2.2.2.1) && decide (x.2.2.2.2.2.2 = c.2.2.2.2.2.2)))))))))
def hasC (acc : List (Den tCred)) (c : Den tCred) : Bool := acc.any fun x => credEq x c
def credsF : List (Den tCred) → List (Den tStep) → List (Den tCred)
 | acc,[] => acc
 | acc,s :: ss => credsF (bif hasC acc s.1 then acc else acc ++ [s.1]) ss
theorem credsF_nil (acc : List (Den tCred)) : credsF acc [] = acc := rfl
theorem credsF_cons (acc : List (Den tCred)) (s : Den tStep) (ss : List (Den tStep)) : credsF acc (s :: ss) = credsF (bif hasC acc s.1 then acc else acc ++ [s.1]) ss := rfl
theorem credsF_len : ∀ (l : List (Den tStep)) (acc : List (Den tCred)),(credsF acc l).length ≤ acc.length + l.length
 | [],acc => by rw [credsF_nil]; simp
 | s :: ss,acc => by
  rw [credsF_cons]
  have h1 := credsF_len ss (bif hasC acc s.1 then acc else acc ++ [s.1])
  have h2 : (bif hasC acc s.1 then acc else acc ++ [s.1]).length ≤ acc.length + 1 := by
   cases hasC acc s.1 <;> simp
  simp only [List.length_cons]
  omega
theorem dcomm (a b : Int) : decide (a = b) = decide (b = a) := decide_eq_decide.2 ⟨Eq.symm,Eq.symm⟩
theorem containsC {N : Nat} (hN : Big N) (acc : List (Den tCred)) (ha : acc.length ≤ 1048576) (c : Den tCred) : x_f17 N acc c = some (hasC acc c) := by
 unfold x_f17 x_f19
 have := index_func (d := dft tCred) (L := acc) (by omega) c (f := fun x => some (credEq x c)) (fun x => credEq x c) (fun x _ => rfl) hN (B := B_f19_L0 N (fun _ => some (-1:Int)) (fun ρ1 => some (ρ1)))
  (fun rec_ s0 s7 s8 => by
   show (bif _ then (bif _ then (bif _ then _ else _) else _) else _) = _
   generalize s0.getD s8.toNat (dft tCred) = x
   rw [dcomm c.1 x.1,dcomm c.2.1.1 x.2.1.1,dcomm c.2.1.2 x.2.1.2,dcomm c.2.2.1 x.2.2.1,dcomm c.2.2.2.1.1 x.2.2.2.1.1,dcomm c.2.2.2.1.2 x.2.2.2.1.2,dcomm c.2.2.2.2.1.1 x.2.2.2.2.1.1,dcomm c.2.2.2.2.1.2 x.2.2.2.2.1.2,dcomm c.2.2.2.2.2.1 x.2.2.2.2.2.1,dcomm c.2.2.2.2.2.2 x.2.2.2.2.2.2]
   rfl)
 rw [this,Option.bind_some,findI_any]
 rfl
theorem impl_CredsIn {N : Nat} (hN : Big N) (L : List (Den tStep)) (hL : L.length ≤ 1048576) : x_f1 N L = some (credsF [] L) := by
 have hN' : 1099511627776 ≤ N := hN
 unfold x_f1
 refine iter_to (B := B_f1_L0 N (fun x2 => some x2) (fun ρ3 => some (ρ3))) (A := List (Den tCred)) (fun i acc => (acc,L,(L.length : Int),(i : Int))) (fun i acc r => acc.length ≤ i → r = some (credsF acc (L.drop i))) L.length
  (fun i acc rec_ hi h hacc => ?_) (fun acc rec_ hacc => ?_) N (by omega) [] (Nat.zero_le _)
 ·rw [drop_cons hi,credsF_cons]
  show (bif _ then _ else _) = _
  simp only [lt_rows L hi,le_rows i,Bool.and_self,cond_true,getD_at L hi,peta,containsC hN acc (by omega),Option.bind_some,w64_up (Nat.le_refl i) (by omega : i ≤ 140737488355328)]
  cases hasC acc L[i].1
  ·rw [dT (by simp; omega)]
   exact h (acc ++ [L[i].1]) (by simp; omega)
  ·exact h acc (by omega)
 ·show (bif _ then _ else _) = _
  rw [dF (Int.lt_irrefl _),List.drop_length,credsF_nil]; rfl
end Go.Proofs.Ytfmlmdnaeonobaa.C
namespace Go.Proofs.Ytfmlmdnaeonobaa.C
open Go Go.Proofs.Ytfmlmdnaeonobaa.Nx Go.RowKit
set_option linter.unusedVariables false
set_option linter.unusedSimpArgs false
theorem and255 (a : Int) : 0 ≤ andI .i64 a 255 ∧ andI .i64 a 255 ≤ 255 := by
 unfold andI
 rw [pin_eq]
 have h : (BitVec.ofInt 64 a &&& BitVec.ofInt 64 255).toNat ≤ 255 := by
  rw [BitVec.toNat_and]
  exact Nat.and_le_right
 show 0 ≤ IntKind.i64.wrap ((BitVec.ofInt 64 a &&& BitVec.ofInt 64 255).toNat : Int) ∧ IntKind.i64.wrap ((BitVec.ofInt 64 a &&& BitVec.ofInt 64 255).toNat : Int) ≤ 255
 generalize (BitVec.ofInt 64 a &&& BitVec.ofInt 64 255).toNat = x at h
 rw [IntWalk.i64_left,w64 (by omega) (by omega)]
 omega
def okC (c : Den tL01Cur) : Prop := 0 ≤ c.2.1 ∧ c.1.length ≤ 1048576
theorem byte_ok (N : Nat) (c : Den tL01Cur) (h : okC c) : ∃ x c',x_f29 N c = some (x,c') ∧ 0 ≤ x ∧ x ≤ 255 ∧ okC c' := by
 obtain ⟨b,i,s⟩ : List Int × Int × Int := c
 have h0 : 0 ≤ i := h.1
 have hb : b.length ≤ 1048576 := h.2
 unfold x_f29
 simp only
 cases hd : decide (i < (b.length : Int)) with
 | true =>
  have hd' : i < (b.length : Int) := of_decide_eq_true hd
  rw [dT h0]
  simp only [cond_true,Bool.and_self,Option.bind_some]
  refine ⟨_,_,rfl,(and255 _).1,(and255 _).2,?_,hb⟩
  show (0:Int) ≤ wrap64 (i + 1)
  rw [w64 (by omega) (by omega)]; omega
 | false =>
  simp only [cond_false,cond_true,Option.bind_some]
  exact ⟨_,_,rfl,(and255 _).1,(and255 _).2,h0,hb⟩
theorem below_ok (N : Nat) (c : Den tL01Cur) (h : okC c) (n : Int) (hn : 0 < n) : ∃ x c',x_f28 N c n = some (x,c',()) ∧ 0 ≤ x ∧ x < n ∧ okC c' := by
 unfold x_f28
 rw [dF (p := n ≤ 0) (by omega),dF (p := n = 0) (by omega)]
 simp only [cond_false,Bool.not_false,cond_true]
 cases hd : decide (n ≤ 256) with
 | true =>
  obtain ⟨x,c',e,h0,h1,hc⟩ := byte_ok N c h
  rw [e]
  exact ⟨x.tmod n,c',rfl,Int.tmod_nonneg _ h0,Int.tmod_lt_of_pos _ hn,hc⟩
 | false =>
  obtain ⟨x,c1,e1,a0,a1,hc1⟩ := byte_ok N c h
  obtain ⟨y,c2,e2,b0,b1,hc2⟩ := byte_ok N c1 hc1
  obtain ⟨z,c3,e3,d0,d1,hc3⟩ := byte_ok N c2 hc2
  obtain ⟨u,c4,e4,f0,f1,hc4⟩ := byte_ok N c3 hc3
  simp only [e1,e2,e3,e4,Option.bind_some,cond_false]
  have hw : 0 ≤ wrap64 ((wrap64 ((wrap64 ((wrap64 (x * (16777216:Int))) + (wrap64 (y * (65536:Int))))) + (wrap64 (z * (256:Int))))) + u) := by
   rw [w64 (x := x * 16777216) (by omega) (by omega),w64 (x := y * 65536) (by omega) (by omega),w64 (x := z * 256) (by omega) (by omega),w64 (x := x * 16777216 + y * 65536) (by omega) (by omega),w64 (x := x * 16777216 + y * 65536 + z * 256) (by omega) (by omega),w64 (by omega) (by omega)]
   omega
  exact ⟨_,c4,rfl,Int.tmod_nonneg _ hw,Int.tmod_lt_of_pos _ hn,hc4⟩
theorem new_ok {N : Nat} (hN : Big N) (L : List Int) (hL : L.length ≤ 1048576) : ∃ c,x_f31 N L = some (c,()) ∧ okC c := by
 have hN' : 1099511627776 ≤ N := hN
 unfold x_f31
 have key := iter_to (B := B_f31_L0 N (fun (x1,x2) => some ((x1,(0:Int),x2),())) (fun ρ3 => some (ρ3))) (A := Int) (fun i a => (L,a,(i : Int))) (fun i a r => ∃ s : Int,r = some ((L,(0:Int),s),())) L.length
  (fun i a rec_ hi h => by
   show ∃ s : Int,(bif _ then _ else _) = _
   rw [lt_rows _ hi,le_rows i,w64_up (Nat.le_refl i) (by omega)]
   simp only [cond_true,Bool.and_self]
   cases decide ((i : Int) < 4000)
   ·exact ⟨a,rfl⟩
   ·exact h _)
  (fun a rec_ => by
   show ∃ s : Int,(bif _ then _ else _) = _
   rw [at_end]
   exact ⟨a,rfl⟩)
  N (by omega) (wrap64 ((95501:Int) + (L.length : Int)))
 obtain ⟨s,e⟩ := key
 have e' : iter (B_f31_L0 N (fun (x1,x2) => some ((x1,(0:Int),x2),())) (fun ρ3 => some (ρ3))) N (L,wrap64 ((95501:Int) + (L.length : Int)),(0:Int)) = some ((L,(0:Int),s),()) := e
 rw [e']
 exact ⟨_,rfl,Int.le_refl _,hL⟩
theorem pick_ok (N : Nat) (c : Den tL01Cur) (h : okC c) (l : List Int) (hl : 0 < l.length) : ∃ x c',x_f32 N c l = some (x,c',()) ∧ x ∈ l ∧ okC c' := by
 obtain ⟨x,c',e,h0,h1,hc⟩ := below_ok N c h (l.length : Int) (by omega)
 unfold x_f32
 rw [e]
 simp only [Option.bind_some]
 rw [dT h0,dT h1]
 refine ⟨_,c',rfl,?_,hc⟩
 rw [List.getD_eq_getElem?_getD,List.getElem?_eq_getElem (by omega)]
 exact List.getElem_mem _
theorem places_ok {N : Nat} (hN : Big N) (L : List Int) (hL : L.length ≤ 1048576) : ∃ p,x_f22 N L = some p ∧ p.length = 12 ∧ ∀ x ∈ p,0 ≤ x ∧ x < 10000 := by
 have hN' : 1099511627776 ≤ N := hN
 unfold x_f22
 obtain ⟨c,e,hc⟩ := new_ok hN L hL
 obtain ⟨x,c1,e1,_,_,hc1⟩ := byte_ok N c hc
 rw [e,Option.bind_some]
 simp only
 rw [e1,Option.bind_some]
 simp only
 obtain ⟨n,hn⟩ : ∃ n : Nat,n = 12 := ⟨12,rfl⟩
 have key := iter_to (B := B_f22_L0 N (fun x4 => some x4) (fun ρ5 => some (ρ5))) (A := {p : Den tL01Cur × List Int // okC p.1 ∧ ∀ x ∈ p.2,0 ≤ x ∧ x < 10000}) (fun i a => (a.1.1,a.1.2,(i : Int))) (fun i a r => a.1.2.length = i → ∃ p,r = some p ∧ p.length = 12 ∧ ∀ x ∈ p,0 ≤ x ∧ x < 10000) n
  (fun i a rec_ hi ih hl => by
   obtain ⟨⟨s0,s3⟩,hc,hs⟩ := a
   simp only at hl hs
   obtain ⟨x,c1,e1,a0,a1,hc1⟩ := below_ok N s0 hc 10000 (by omega)
   show ∃ p,(bif _ then _ else _) = _ ∧ _
   rw [dT (p := (i : Int) < 12) (by omega),e1]
   simp only [cond_true,Option.bind_some]
   rw [dT (p := (s3.length + [x].length) * 8 ≤ 140737488355328) (by simp only [List.length_cons,List.length_nil]; omega),w64_up (Nat.le_refl i) (by omega)]
   exact ih ⟨(c1,s3 ++ [x]),hc1,fun y hy => by
    rcases List.mem_append.1 hy with h | h
    ·exact hs y h
    ·rw [List.mem_singleton.1 h]; exact ⟨a0,a1⟩⟩ (by simp only [List.length_append,List.length_cons,List.length_nil]; omega))
  (fun a rec_ hl => by
   obtain ⟨⟨s0,s3⟩,hc,hs⟩ := a
   simp only at hl hs
   show ∃ p,(bif _ then _ else _) = _ ∧ _
   rw [dF (p := (n : Int) < 12) (by omega)]
   exact ⟨s3,rfl,by omega,hs⟩)
  N (by omega) ⟨(c1,[]),hc1,fun _ h => by cases h⟩
 exact key rfl
end Go.Proofs.Ytfmlmdnaeonobaa.C
namespace Go.Proofs.Ytfmlmdnaeonobaa.C
open Go Go.Proofs.Ytfmlmdnaeonobaa.Nx Go.RowKit
set_option linter.unusedVariables false
set_option linter.unusedSimpArgs false
theorem n40f {N : Nat} (hN : Big N) : 1099511627776 ≤ N := hN
def eqF (x f : Den tFact) : Bool := decide (x.1.1 = f.1.1) && (decide (x.1.2 = f.1.2) && decide (x.2 = f.2))
theorem eqF_iff {x f : Den tFact} : eqF x f = true ↔ x = f := by
 obtain ⟨⟨a,b⟩,c⟩ := x
 obtain ⟨⟨d,e⟩,g⟩ := f
 unfold eqF
 simp only [Bool.and_eq_true,decide_eq_true_eq]
 constructor
 ·rintro ⟨rfl,rfl,rfl⟩; rfl
 ·intro h; cases h; exact ⟨rfl,rfl,rfl⟩
def hasF (l : List (Den tFact)) (f : Den tFact) : Bool := l.any fun x => eqF x f
theorem hasF_iff {l : List (Den tFact)} {f : Den tFact} : hasF l f = true ↔ f ∈ l := by
 unfold hasF
 rw [List.any_eq_true]
 constructor
 ·rintro ⟨x,h1,h2⟩; rw [eqF_iff] at h2; rw [← h2]; exact h1
 ·intro h; exact ⟨f,h,eqF_iff.2 rfl⟩
def putF (l : List (Den tFact)) (f : Den tFact) : List (Den tFact) := bif hasF l f then l else l ++ [f]
theorem putF_len (l : List (Den tFact)) (f : Den tFact) : (putF l f).length ≤ l.length + 1 := by
 unfold putF
 cases hasF l f
 ·simp only [cond_false,List.length_append,List.length_cons,List.length_nil]; omega
 ·simp only [cond_true]; omega
theorem spec_has {N : Nat} (hN : Big N) (l : List (Den tFact)) (hl : l.length ≤ 1048576) (f : Den tFact) : x_f36 N l f = some (hasF l f) := by
 have hN' := n40f hN
 unfold x_f36 hasF
 exact iter_row (B := B_f36_L0 N (fun _ => some false) (fun ρ1 => some (ρ1))) l (fun i => (l,f,(i : Int))) (fun i l => some (l.any fun x => eqF x f))
  (fun i hi rec_ h => by
   show (bif _ then _ else _) = _
   rw [lt_rows l hi,le_rows i,getD_at l hi,w64_up (Nat.le_refl i) (by omega),h,List.any_cons]
   simp only [Bool.and_self,cond_true]
   change (bif eqF l[i] f then _ else _) = _
   cases eqF l[i] f <;> rfl)
  (fun rec_ => by
   show (bif _ then _ else _) = _
   rw [at_end l]; rfl) (by omega)
theorem spec_put {N : Nat} (hN : Big N) (l : List (Den tFact)) (hl : l.length ≤ 1048576) (f : Den tFact) : x_f37 N l f = some (putF l f,(),()) := by
 unfold x_f37 putF
 rw [spec_has hN l hl,Option.bind_some,dT (p := (l.length + [f].length) * 24 ≤ 140737488355328) (by simp only [List.length_cons,List.length_nil]; omega)]
 cases hasF l f <;> rfl
theorem dcomF (x f : Den tFact) : (decide (f.1.1 = x.1.1) && (decide (f.1.2 = x.1.2) && decide (f.2 = x.2))) = eqF x f := by
 unfold eqF
 rw [decide_eq_decide.2 (eq_comm (a := f.1.1) (b := x.1.1)),decide_eq_decide.2 (eq_comm (a := f.1.2) (b := x.1.2)),decide_eq_decide.2 (eq_comm (a := f.2) (b := x.2))]
theorem indexF {N : Nat} (hN : Big N) (l : List (Den tFact)) (hl : l.length ≤ 1048576) (f : Den tFact) : x_f20 N l f = some (findI (fun x => eqF x f) 0 l) := by
 unfold x_f20
 exact index_func (d := dft tFact) (L := l) (by omega) f (f := fun x => some (eqF x f)) (fun x => eqF x f) (fun x _ => rfl) hN (B := B_f20_L0 N (fun _ => some (-1:Int)) (fun ρ1 => some (ρ1)))
  (fun rec_ s0 s7 s8 => by
   show (bif _ then (bif _ then (bif _ then _ else _) else _) else _) = _
   generalize s0.getD s8.toNat (dft tFact) = x
   rw [dcomF]
   rfl)
theorem containsF {N : Nat} (hN : Big N) (l : List (Den tFact)) (hl : l.length ≤ 1048576) (f : Den tFact) : x_f18 N l f = some (hasF l f) := by
 unfold x_f18
 rw [indexF hN l hl,Option.bind_some,findI_any]; rfl
theorem cloneF (N : Nat) (L : List (Den tFact)) (hL : L.length ≤ 1048576) : x_f16 N L = some L := by
 unfold x_f16
 simp only [List.length_nil,List.nil_append]
 rw [dT (p := (0 + L.length) * 24 ≤ 140737488355328) (by omega)]
 by_cases h : L.length = 0
 ·obtain rfl : L = [] := List.length_eq_zero_iff.1 h
  rw [dT h]
  exact agree_self _
 ·rw [dF h]; rfl
def whoA (r : Den tRole) : Nat → List (Den tFact) → List Int
 | _,[] => []
 | i,f :: fs => bif decide (f.1.1 = r.1) && decide (f.1.2 = r.2) then (i : Int) :: whoA r (i + 1) fs else whoA r (i + 1) fs
theorem whoA_len (r : Den tRole) : ∀ (l : List (Den tFact)) (i : Nat),(whoA r i l).length ≤ l.length
 | [],i => Nat.le_refl _
 | f :: fs,i => by
  unfold whoA
  have := whoA_len r fs (i + 1)
  cases decide (f.1.1 = r.1) && decide (f.1.2 = r.2)
  ·simp only [cond_false,List.length_cons]; omega
  ·simp only [cond_true,List.length_cons]; omega
theorem whoA_mem (r : Den tRole) : ∀ (l : List (Den tFact)) (i : Nat),∀ x ∈ whoA r i l,∃ k : Nat,∃ hk : k < l.length,x = ((i + k : Nat) : Int) ∧ (l[k]).1 = r
 | [],i,x,h => by cases h
 | f :: fs,i,x,h => by
  unfold whoA at h
  have rest : x ∈ whoA r (i + 1) fs → ∃ k : Nat,∃ hk : k < (f :: fs).length,x = ((i + k : Nat) : Int) ∧ ((f :: fs)[k]).1 = r := fun h => by
   obtain ⟨k,hk,e,h2⟩ := whoA_mem r fs (i + 1) x h
   exact ⟨k + 1,by simpa using hk,by rw [e]; congr 1; omega,by simpa using h2⟩
  cases hb : decide (f.1.1 = r.1) && decide (f.1.2 = r.2) with
  | false => rw [hb] at h; exact rest h
  | true =>
   rw [hb,cond_true] at h
   simp only [Bool.and_eq_true,decide_eq_true_eq] at hb
   rcases List.mem_cons.1 h with rfl | h
   ·refine ⟨0,by simp,by simp,?_⟩
    obtain ⟨⟨a,b⟩,c⟩ := f
    obtain ⟨d,e⟩ := r
    simp only at hb
    rw [List.getElem_cons_zero]
    simp only
    rw [hb.1,hb.2]
   ·exact rest h
def okF (f : Den tFact) : Prop := roleOk f.1 = true ∧ inR f.2 0 5 = true
theorem factOk_i (N : Nat) (f : Den tFact) : x_f8 N f = some (roleOk f.1 && inR f.2 0 5) := by
 unfold x_f8
 rw [roleOk_i,Option.bind_some,isPerson_i]
 cases roleOk f.1 <;> rfl
theorem impl_whoOf {N : Nat} (hN : Big N) (l : List (Den tFact)) (hl : l.length ≤ 1048576) (ho : ∀ f ∈ l,okF f) (r : Den tRole) : x_f14 N l r = some (whoA r 0 l) := by
 have hN' := n40f hN
 unfold x_f14
 have key := iter_to (B := B_f14_L0 N (fun x2 => some x2) (fun ρ3 => some (ρ3))) (A := List Int) (fun i a => (r,a,l,(l.length : Int),(i : Int))) (fun i a q => a.length ≤ i → q = some (a ++ whoA r i (l.drop i))) l.length
  (fun i a rec_ hi ih ha => by
   obtain ⟨h1,h2⟩ := ho _ (List.getElem_mem hi)
   show (bif _ then _ else _) = _
   rw [lt_rows l hi,le_rows i,getD_at l hi,w64_up (Nat.le_refl i) (by omega),drop_cons hi]
   simp only [Bool.and_self,cond_true]
   unfold whoA
   cases decide ((l[i]).1.1 = r.1) && decide ((l[i]).1.2 = r.2) with
   | false => exact ih a (by omega)
   | true =>
    have e : x_f8 N (((l[i]).1.1,(l[i]).1.2),(l[i]).2) = some true := by
     rw [factOk_i]
     show some (roleOk (l[i]).1 && inR (l[i]).2 0 5) = _
     rw [h1,h2]; rfl
    simp only [cond_true]
    rw [e,Option.bind_some,dT (p := (a.length + [(i : Int)].length) * 8 ≤ 140737488355328) (by simp only [List.length_cons,List.length_nil]; omega)]
    have := ih (a ++ [(i : Int)]) (by simp only [List.length_append,List.length_cons,List.length_nil]; omega)
    rw [List.append_assoc] at this
    exact this)
  (fun a rec_ ha => by
   show (bif _ then _ else _) = _
   rw [dF (Int.lt_irrefl _),List.drop_length]
   simp [whoA])
  N (by omega) []
 exact key (by simp)
def der2 (l : List (Den tFact)) (c : Den tCred) (i : Int) : Den tDerived := ((c.2.1,(l.getD i.toNat (dft tFact)).2),[i])
def der3 (l : List (Den tFact)) (c : Den tCred) (i : Int) : List (Den tDerived) :=
 (whoA ((l.getD i.toNat (dft tFact)).2,c.2.2.2.2.1.2) 0 l).map fun k => ((c.2.1,(l.getD k.toNat (dft tFact)).2),[i,k])
def der4 (l : List (Den tFact)) (c : Den tCred) (i : Int) : List (Den tDerived) :=
 bif decide (0 ≤ findI (fun x => eqF x (c.2.2.2.2.1,(l.getD i.toNat (dft tFact)).2)) 0 l) then [((c.2.1,(l.getD i.toNat (dft tFact)).2),[i,findI (fun x => eqF x (c.2.2.2.2.1,(l.getD i.toNat (dft tFact)).2)) 0 l])] else []
def derI (l : List (Den tFact)) (c : Den tCred) : List (Den tDerived) :=
 bif decide (c.1 = 1) then [((c.2.1,c.2.2.1),[])] else
 bif decide (c.1 = 2) then (whoA c.2.2.2.1 0 l).map (der2 l c) else
 bif decide (c.1 = 3) then (whoA c.2.2.2.1 0 l).flatMap (der3 l c) else
 bif decide (c.1 = 4) then (whoA c.2.2.2.1 0 l).flatMap (der4 l c) else []
theorem derive1 (N : Nat) (w : Int) (fr : List Int) (out : List (Den tDerived)) (hl : out.length ≤ 2000000) (c : Den tCred) : x_f7 N w fr out c = some ((),(),(),out ++ [((c.2.1,w),fr)],()) := by
 unfold x_f7
 rw [dT (p := (out.length + [((c.2.1,w),fr)].length) * 48 ≤ 140737488355328) (by simp only [List.length_cons,List.length_nil]; omega)]
 rfl
theorem who_at {l : List (Den tFact)} {r : Den tRole} {i : Nat} (hi : i < (whoA r 0 l).length) : decide (0 ≤ (whoA r 0 l)[i]) = true ∧ decide ((whoA r 0 l)[i] < (l.length : Int)) = true := by
 obtain ⟨k,hk,e,_⟩ := whoA_mem r l 0 _ (List.getElem_mem hi)
 rw [e]
 exact ⟨decide_eq_true (by omega),decide_eq_true (by omega)⟩
theorem der3_len (l : List (Den tFact)) (c : Den tCred) (i : Int) : (der3 l c i).length ≤ l.length := by
 unfold der3; rw [List.length_map]; exact whoA_len _ _ _
theorem der4_len (l : List (Den tFact)) (c : Den tCred) (i : Int) : (der4 l c i).length ≤ 1 := by
 unfold der4
 cases decide (0 ≤ findI (fun x => eqF x (c.2.2.2.2.1,(l.getD i.toNat (dft tFact)).2)) 0 l) <;> simp
theorem impl_derive {N : Nat} (hN : Big N) (l : List (Den tFact)) (hl : l.length ≤ 1000) (ho : ∀ f ∈ l,okF f) (c : Den tCred) : x_f6 N l c = some (derI l c) := by
 have hN' := n40f hN
 have hw := whoA_len c.2.2.2.1 l 0
 unfold x_f6 derI
 rw [derive1 N _ _ _ (by simp),impl_whoOf hN l (by omega) ho,Option.bind_some,Option.bind_some,Option.bind_some,Option.bind_some]
 cases decide (c.1 = 1) with
 | true => rfl
 | false =>
  simp only [cond_false]
  have L1 : iter (B_f6_L1 N (fun x4 => some x4) (fun ρ5 => some (ρ5))) N (l,c,[],(),whoA c.2.2.2.1 0 l,((whoA c.2.2.2.1 0 l).length : Int),(0:Int)) = some ((whoA c.2.2.2.1 0 l).map (der2 l c)) := by
   have key := iter_to (B := B_f6_L1 N (fun x4 => some x4) (fun ρ5 => some (ρ5))) (A := List (Den tDerived)) (fun i a => (l,c,a,(),whoA c.2.2.2.1 0 l,((whoA c.2.2.2.1 0 l).length : Int),(i : Int))) (fun i a q => a.length ≤ i → q = some (a ++ ((whoA c.2.2.2.1 0 l).drop i).map (der2 l c))) (whoA c.2.2.2.1 0 l).length
    (fun i a rec_ hi ih ha => by
     obtain ⟨w1,w2⟩ := who_at hi
     show (bif _ then _ else _) = _
     rw [lt_rows _ hi,le_rows i,getD_at _ hi,w64_up (Nat.le_refl i) (by omega),drop_cons hi,w1,w2,derive1 N _ _ _ (by omega)]
     have := ih (a ++ [der2 l c (whoA c.2.2.2.1 0 l)[i]]) (by simp only [List.length_append,List.length_cons,List.length_nil]; omega)
     rw [List.append_assoc] at this
     exact this)
    (fun a rec_ ha => by
     show (bif _ then _ else _) = _
     rw [dF (Int.lt_irrefl _),List.drop_length]; simp)
    N (by omega) []
   exact key (by simp)
  have L3 : iter (B_f6_L3 N (fun x17 => some x17) (fun ρ18 => some (ρ18))) N (l,c,[],(),whoA c.2.2.2.1 0 l,((whoA c.2.2.2.1 0 l).length : Int),(0:Int)) = some ((whoA c.2.2.2.1 0 l).flatMap (der3 l c)) := by
   have key := iter_to (B := B_f6_L3 N (fun x17 => some x17) (fun ρ18 => some (ρ18))) (A := List (Den tDerived)) (fun i a => (l,c,a,(),whoA c.2.2.2.1 0 l,((whoA c.2.2.2.1 0 l).length : Int),(i : Int))) (fun i a q => a.length ≤ i * 1000 → q = some (a ++ ((whoA c.2.2.2.1 0 l).drop i).flatMap (der3 l c))) (whoA c.2.2.2.1 0 l).length
    (fun i a rec_ hi ih ha => by
     obtain ⟨w1,w2⟩ := who_at hi
     show (bif _ then _ else _) = _
     rw [lt_rows _ hi,le_rows i,getD_at _ hi,drop_cons hi,w1,w2,impl_whoOf hN l (by omega) ho,Option.bind_some]
     generalize hx : (whoA c.2.2.2.1 0 l)[i] = x
     have hq := whoA_len ((l.getD x.toNat (dft tFact)).2,c.2.2.2.2.1.2) l 0
     have hd : der3 l c x = (whoA ((l.getD x.toNat (dft tFact)).2,c.2.2.2.2.1.2) 0 l).map fun k => ((c.2.1,(l.getD k.toNat (dft tFact)).2),[x,k]) := rfl
     have hwa : ∀ {k : Nat} (hk : k < (whoA ((l.getD x.toNat (dft tFact)).2,c.2.2.2.2.1.2) 0 l).length),_ := fun {k} hk => who_at hk
     rw [List.flatMap_cons,hd]
     generalize whoA ((l.getD x.toNat (dft tFact)).2,c.2.2.2.2.1.2) 0 l = Q at hq hwa
     have inner := iter_to (B := B_f6_L5 N (fun (x9,x10,x11,x12,x13,x14,x15) => rec_ (x9,x10,x11,(),x13,x14,(wrap64 (x15 + (1:Int))))) (fun ρ16 => some (ρ16))) (A := List (Den tDerived)) (fun k b => (l,c,b,(),x,whoA c.2.2.2.1 0 l,((whoA c.2.2.2.1 0 l).length : Int),(i : Int),Q,(Q.length : Int),(k : Int)))
      (fun k b q => b.length ≤ a.length + k → b ++ (Q.drop k).map (fun k => ((c.2.1,(l.getD k.toNat (dft tFact)).2),[x,k])) = a ++ Q.map (fun k => ((c.2.1,(l.getD k.toNat (dft tFact)).2),[x,k])) → q = some (a ++ (Q.map (fun k => ((c.2.1,(l.getD k.toNat (dft tFact)).2),[x,k])) ++ ((whoA c.2.2.2.1 0 l).drop (i + 1)).flatMap (der3 l c)))) Q.length
      (fun k b rec2 hk ih2 hb he => by
       obtain ⟨w3,w4⟩ := hwa hk
       show (bif _ then _ else _) = _
       rw [lt_rows Q hk,le_rows k,getD_at Q hk,w64_up (Nat.le_refl k) (by omega),w3,w4,derive1 N _ _ _ (by omega)]
       refine ih2 (b ++ [((c.2.1,(l.getD (Q[k]).toNat (dft tFact)).2),[x,Q[k]])]) (by simp only [List.length_append,List.length_cons,List.length_nil]; omega) ?_
       rw [← he,drop_cons hk,List.map_cons,List.append_assoc]; rfl)
      (fun b rec2 hb he => by
       show (bif _ then _ else _) = _
       rw [dF (Int.lt_irrefl _)]
       rw [List.drop_length,List.map_nil,List.append_nil] at he
       simp only [cond_false]
       rw [w64_up (Nat.le_refl i) (by omega),he]
       have := ih (a ++ Q.map (fun k => ((c.2.1,(l.getD k.toNat (dft tFact)).2),[x,k]))) (by rw [List.length_append,List.length_map]; omega)
       rw [List.append_assoc] at this
       exact this)
      N (by omega) a
     exact inner (by omega) (by rw [List.drop_zero]))
    (fun a rec_ ha => by
     show (bif _ then _ else _) = _
     rw [dF (Int.lt_irrefl _),List.drop_length]; simp)
    N (by omega) []
   exact key (by simp)
  have L7 : iter (B_f6_L7 N (fun x22 => some x22) (fun ρ23 => some (ρ23))) N (l,c,[],(),whoA c.2.2.2.1 0 l,((whoA c.2.2.2.1 0 l).length : Int),(0:Int)) = some ((whoA c.2.2.2.1 0 l).flatMap (der4 l c)) := by
   have key := iter_to (B := B_f6_L7 N (fun x22 => some x22) (fun ρ23 => some (ρ23))) (A := List (Den tDerived)) (fun i a => (l,c,a,(),whoA c.2.2.2.1 0 l,((whoA c.2.2.2.1 0 l).length : Int),(i : Int))) (fun i a q => a.length ≤ i → q = some (a ++ ((whoA c.2.2.2.1 0 l).drop i).flatMap (der4 l c))) (whoA c.2.2.2.1 0 l).length
    (fun i a rec_ hi ih ha => by
     obtain ⟨w1,w2⟩ := who_at hi
     show (bif _ then _ else _) = _
     rw [lt_rows _ hi,le_rows i,getD_at _ hi,w64_up (Nat.le_refl i) (by omega),drop_cons hi,w1,w2,indexF hN l (by omega),Option.bind_some,derive1 N _ _ _ (by omega),List.flatMap_cons]
     generalize (whoA c.2.2.2.1 0 l)[i] = x
     have hd := der4_len l c x
     unfold der4 at hd ⊢
     simp only [Bool.and_self,cond_true]
     cases decide (0 ≤ findI (fun y => eqF y (c.2.2.2.2.1,(l.getD x.toNat (dft tFact)).2)) 0 l) with
     | false => exact ih a (by omega)
     | true =>
      have := ih (a ++ [((c.2.1,(l.getD x.toNat (dft tFact)).2),[x,findI (fun y => eqF y (c.2.2.2.2.1,(l.getD x.toNat (dft tFact)).2)) 0 l])]) (by simp only [List.length_append,List.length_cons,List.length_nil]; omega)
      rw [List.append_assoc] at this
      exact this)
    (fun a rec_ ha => by
     show (bif _ then _ else _) = _
     rw [dF (Int.lt_irrefl _),List.drop_length]; simp)
    N (by omega) []
   exact key (by simp)
  rw [L1,L3,L7]
  cases decide (c.1 = 2) <;> cases decide (c.1 = 3) <;> cases decide (c.1 = 4) <;> rfl
end Go.Proofs.Ytfmlmdnaeonobaa.C
namespace Go.Proofs.Ytfmlmdnaeonobaa.C
open Go Go.Proofs.Ytfmlmdnaeonobaa.Nx Go.RowKit
set_option linter.unusedVariables false
set_option linter.unusedSimpArgs false
abbrev fc (out : List (Den tFoundV)) : List (Den tFact) := out.map fun x => x.1
def addO (k : Int) (out : List (Den tFoundV)) (d : Den tDerived) : List (Den tFoundV) := bif hasF (fc out) d.1 then out else out ++ [(d.1,(k,d.2))]
def stepO (out : List (Den tFoundV)) (k : Int) (c : Den tCred) : List (Den tFoundV) := bif credOk c then (derI (fc out) c).foldl (addO k) out else out
def passO : Nat → List (Den tFoundV) → List (Den tCred) → List (Den tFoundV)
 | _,out,[] => out
 | k,out,c :: cs => passO (k + 1) (stepO out (k : Int) c) cs
def closeO (list : List (Den tCred)) : Nat → List (Den tFoundV) → List (Den tFoundV)
 | 0,out => out
 | n + 1,out => bif decide (out.length < (passO 0 out list).length) then closeO list n (passO 0 out list) else passO 0 out list
def stepF (l : List (Den tFact)) (c : Den tCred) : List (Den tFact) := bif credOk c then ((derI l c).map fun d => d.1).foldl putF l else l
def closeF (list : List (Den tCred)) : Nat → List (Den tFact) → List (Den tFact)
 | 0,l => l
 | n + 1,l => bif decide (l.length < (list.foldl stepF l).length) then closeF list n (list.foldl stepF l) else list.foldl stepF l
theorem addO_fc (k : Int) (out : List (Den tFoundV)) (d : Den tDerived) : fc (addO k out d) = putF (fc out) d.1 := by
 unfold addO putF
 cases hasF (fc out) d.1
 ·simp [fc]
 ·rfl
theorem foldO_fc (k : Int) : ∀ (ds : List (Den tDerived)) (out : List (Den tFoundV)),fc (ds.foldl (addO k) out) = (ds.map fun d => d.1).foldl putF (fc out)
 | [],out => rfl
 | d :: ds,out => by rw [List.foldl_cons,foldO_fc k ds,addO_fc,List.map_cons,List.foldl_cons]
theorem stepO_fc (out : List (Den tFoundV)) (k : Int) (c : Den tCred) : fc (stepO out k c) = stepF (fc out) c := by
 unfold stepO stepF
 cases credOk c
 ·rfl
 ·exact foldO_fc k _ out
theorem passO_fc : ∀ (list : List (Den tCred)) (k : Nat) (out : List (Den tFoundV)),fc (passO k out list) = list.foldl stepF (fc out)
 | [],_,_ => rfl
 | c :: cs,k,out => by unfold passO; rw [passO_fc cs,stepO_fc,List.foldl_cons]
theorem fc_len (out : List (Den tFoundV)) : (fc out).length = out.length := List.length_map _
theorem closeO_fc (list : List (Den tCred)) : ∀ (n : Nat) (out : List (Den tFoundV)),fc (closeO list n out) = closeF list n (fc out)
 | 0,_ => rfl
 | n + 1,out => by
  unfold closeO closeF
  rw [← passO_fc list 0 out,fc_len,fc_len]
  cases decide (out.length < (passO 0 out list).length)
  ·rfl
  ·exact closeO_fc list n _
def OkL (l : List (Den tFact)) : Prop := l.Nodup ∧ ∀ f ∈ l,okF f
theorem nodup_lt : ∀ (n : Nat) (l : List Nat),l.Nodup → (∀ x ∈ l,x < n) → l.length ≤ n
 | 0,l,_,h => by
  cases l with
  | nil => simp
  | cons x xs => exact absurd (h x (by simp)) (by omega)
 | n + 1,l,hn,h => by
  have h1 := nodup_lt n (l.erase n) (hn.erase n) (fun x hx => by
   have := (List.Nodup.mem_erase_iff hn).1 hx
   have := h x this.2
   omega)
  have := List.length_erase (a := n) (l := l)
  split at this <;> omega
def codI (a b c : Int) : Nat := ((a * 4 + b) * 6 + c).toNat
theorem codI_inj {a b c d e g : Int} (h1 : (0 ≤ a ∧ a ≤ 5) ∧ (0 ≤ b ∧ b ≤ 3) ∧ (0 ≤ c ∧ c ≤ 5)) (h2 : (0 ≤ d ∧ d ≤ 5) ∧ (0 ≤ e ∧ e ≤ 3) ∧ (0 ≤ g ∧ g ≤ 5)) (h : codI a b c = codI d e g) : a = d ∧ b = e ∧ c = g := by
 unfold codI at h; omega
theorem codI_lt {a b c : Int} (h1 : (0 ≤ a ∧ a ≤ 5) ∧ (0 ≤ b ∧ b ≤ 3) ∧ (0 ≤ c ∧ c ≤ 5)) : codI a b c < 144 := by unfold codI; omega
def codeF (f : Den tFact) : Nat := codI f.1.1 f.1.2 f.2
theorem inR_ok {x a b : Int} (h : inR x a b = true) : a ≤ x ∧ x ≤ b := by
 unfold inR at h
 rw [Bool.and_eq_true,decide_eq_true_eq,decide_eq_true_eq] at h
 exact h
theorem okF_r {f : Den tFact} (h : okF f) : ((0:Int) ≤ f.1.1 ∧ @LE.le Int _ f.1.1 5) ∧ ((0:Int) ≤ f.1.2 ∧ @LE.le Int _ f.1.2 3) ∧ ((0:Int) ≤ f.2 ∧ @LE.le Int _ f.2 5) := by
 obtain ⟨h1,h2⟩ := h
 unfold roleOk at h1
 rw [Bool.and_eq_true] at h1
 exact ⟨inR_ok h1.1,inR_ok h1.2,inR_ok h2⟩
theorem OkL.len {l : List (Den tFact)} (h : OkL l) : l.length ≤ 144 := by
 have h1 : (l.map codeF).Nodup := by
  rw [List.nodup_iff_pairwise_ne,List.pairwise_map]
  have := h.1
  rw [List.nodup_iff_pairwise_ne] at this
  refine List.Pairwise.imp_of_mem (fun {a b} ha hb hne he => hne ?_) this
  obtain ⟨e1,e2,e3⟩ := codI_inj (okF_r (h.2 a ha)) (okF_r (h.2 b hb)) he
  exact eqF_iff.1 (by unfold eqF; rw [decide_eq_true e1,decide_eq_true e2,decide_eq_true e3]; rfl)
 have := nodup_lt 144 _ h1 (fun x hx => by
  obtain ⟨f,hf,rfl⟩ := List.mem_map.1 hx
  exact codI_lt (okF_r (h.2 f hf)))
 rwa [List.length_map] at this
theorem putF_ok {l : List (Den tFact)} (h : OkL l) {f : Den tFact} (hf : okF f) : OkL (putF l f) := by
 unfold putF
 cases hb : hasF l f with
 | true => exact h
 | false =>
  have hm : f ∉ l := fun hm => by rw [hasF_iff.2 hm] at hb; cases hb
  refine ⟨List.nodup_append.2 ⟨h.1,by simp,fun x hx y hy e => ?_⟩,fun x hx => ?_⟩
  ·rw [List.mem_singleton.1 hy] at e
   exact hm (e ▸ hx)
  ·rcases List.mem_append.1 hx with hx | hx
   ·exact h.2 x hx
   ·rw [List.mem_singleton.1 hx]; exact hf
theorem foldF_ok : ∀ (ds l : List (Den tFact)),OkL l → (∀ f ∈ ds,okF f) → OkL (ds.foldl putF l)
 | [],_,h,_ => h
 | d :: ds,l,h,hd => foldF_ok ds _ (putF_ok h (hd d (by simp))) fun f hf => hd f (by simp [hf])
theorem foldF_len : ∀ (ds l : List (Den tFact)),l.length ≤ (ds.foldl putF l).length
 | [],_ => Nat.le_refl _
 | d :: ds,l => by
  refine Nat.le_trans ?_ (foldF_len ds _)
  unfold putF
  cases hasF l d
  ·simp only [cond_false,List.length_append,List.length_cons,List.length_nil]; omega
  ·exact Nat.le_refl _
theorem who_ok {l : List (Den tFact)} (h : ∀ f ∈ l,okF f) {r : Den tRole} {i : Int} (hi : i ∈ whoA r 0 l) : inR (l.getD i.toNat (dft tFact)).2 0 5 = true := by
 obtain ⟨k,hk,e,_⟩ := whoA_mem r l 0 i hi
 subst e
 have : l.getD ((0 + k : Nat) : Int).toNat (dft tFact) = l[k] := by
  rw [Nat.zero_add,Int.toNat_natCast,List.getD_eq_getElem?_getD,List.getElem?_eq_getElem hk]; rfl
 rw [this]
 exact (h _ (List.getElem_mem hk)).2
theorem derI_ok {l : List (Den tFact)} (h : ∀ f ∈ l,okF f) {c : Den tCred} (hc : credOk c = true) : ∀ d ∈ derI l c,okF d.1 := by
 have hr : roleOk c.2.1 = true := by unfold credOk at hc; rw [Bool.and_eq_true] at hc; exact hc.1
 intro d hd
 unfold derI at hd
 cases h1 : decide (c.1 = 1) with
 | true =>
  rw [h1] at hd
  have : d = ((c.2.1,c.2.2.1),[]) := by simpa using hd
  subst this
  refine ⟨hr,?_⟩
  unfold credOk at hc
  rw [h1] at hc
  simp only [Bool.and_eq_true,cond_true] at hc
  exact hc.2.2.2.1
 | false =>
  rw [h1] at hd
  cases h2 : decide (c.1 = 2) with
  | true =>
   rw [h2] at hd
   simp only [cond_false,cond_true] at hd
   obtain ⟨i,hi,rfl⟩ := List.mem_map.1 hd
   exact ⟨hr,who_ok h hi⟩
  | false =>
   rw [h2] at hd
   cases h3 : decide (c.1 = 3) with
   | true =>
    rw [h3] at hd
    simp only [cond_false,cond_true] at hd
    obtain ⟨i,hi,hd⟩ := List.mem_flatMap.1 hd
    obtain ⟨k,hk,rfl⟩ := List.mem_map.1 hd
    exact ⟨hr,who_ok h hk⟩
   | false =>
    rw [h3] at hd
    cases h4 : decide (c.1 = 4) with
    | true =>
     rw [h4] at hd
     simp only [cond_false,cond_true] at hd
     obtain ⟨i,hi,hd⟩ := List.mem_flatMap.1 hd
     unfold der4 at hd
     revert hd
     cases decide (0 ≤ findI (fun x => eqF x (c.2.2.2.2.1,(l.getD i.toNat (dft tFact)).2)) 0 l) with
     | false => intro hd; cases hd
     | true =>
      intro hd
      have hd := List.mem_singleton.1 hd
      rw [hd]
      exact ⟨hr,who_ok h hi⟩
    | false => rw [h4] at hd; cases hd
theorem stepF_ok {l : List (Den tFact)} (h : OkL l) (c : Den tCred) : OkL (stepF l c) := by
 unfold stepF
 cases hc : credOk c with
 | false => exact h
 | true =>
  refine foldF_ok _ _ h fun f hf => ?_
  obtain ⟨d,hd,rfl⟩ := List.mem_map.1 hf
  exact derI_ok h.2 hc d hd
theorem stepF_len (l : List (Den tFact)) (c : Den tCred) : l.length ≤ (stepF l c).length := by
 unfold stepF
 cases credOk c
 ·exact Nat.le_refl _
 ·exact foldF_len _ _
theorem passF_ok : ∀ (list : List (Den tCred)) (l : List (Den tFact)),OkL l → OkL (list.foldl stepF l)
 | [],_,h => h
 | c :: cs,l,h => passF_ok cs _ (stepF_ok h c)
theorem passF_len : ∀ (list : List (Den tCred)) (l : List (Den tFact)),l.length ≤ (list.foldl stepF l).length
 | [],_ => Nat.le_refl _
 | c :: cs,l => Nat.le_trans (stepF_len l c) (passF_len cs _)
theorem flat_le {α β : Type} (g : α → List β) (m : Nat) (hg : ∀ x,(g x).length ≤ m) : ∀ L : List α,(L.flatMap g).length ≤ L.length * m
 | [] => by simp
 | x :: xs => by
  rw [List.flatMap_cons,List.length_append,List.length_cons,Nat.succ_mul]
  have := flat_le g m hg xs
  have := hg x
  omega
theorem derI_len {l : List (Den tFact)} (hl : l.length ≤ 144) (c : Den tCred) : (derI l c).length ≤ 30000 := by
 have hw := whoA_len c.2.2.2.1 l 0
 have f3 := flat_le (der3 l c) 144 (fun i => by have := der3_len l c i; omega) (whoA c.2.2.2.1 0 l)
 have f4 := flat_le (der4 l c) 1 (der4_len l c) (whoA c.2.2.2.1 0 l)
 have : (whoA c.2.2.2.1 0 l).length * 144 ≤ 144 * 144 := Nat.mul_le_mul_right _ (by omega)
 unfold derI
 cases decide (c.1 = 1)
 ·cases decide (c.1 = 2)
  ·cases decide (c.1 = 3)
   ·cases decide (c.1 = 4)
    ·simp
    ·simp only [cond_false,cond_true]; omega
   ·simp only [cond_false,cond_true]; omega
  ·simp only [cond_false,cond_true,List.length_map]; omega
 ·simp
theorem find_L4 {N : Nat} (hN : Big N) {kx kr} (s0 s18 : Den (.sl tCred)) (s5 k s19 s20 : Int) (D : List (Den tDerived)) (out : List (Den tFoundV)) (hb : out.length + D.length ≤ 100000) :
  iter (B_f9_L4 (Ω := (List (Den tFoundV)) × DenW (.d 0 (.sl tCred))) N kx kr) N (s0,fc out,out,s5,k,s18,s19,s20,D,(D.length : Int),(0:Int)) = kx (s0,fc (D.foldl (addO k) out),D.foldl (addO k) out,s5,s18,s19,s20) := by
 have hN' := n40f hN
 have key := iter_to (B := B_f9_L4 (Ω := (List (Den tFoundV)) × DenW (.d 0 (.sl tCred))) N kx kr) (A := List (Den tFoundV)) (fun i a => (s0,fc a,a,s5,k,s18,s19,s20,D,(D.length : Int),(i : Int))) (fun i a q => a.length ≤ out.length + i → q = kx (s0,fc ((D.drop i).foldl (addO k) a),(D.drop i).foldl (addO k) a,s5,s18,s19,s20)) D.length
  (fun i a rec_ hi ih ha => by
   have hfl := fc_len a
   have hcf := containsF hN (fc a) (by omega) (D[i]).1
   show (bif _ then _ else _) = _
   rw [lt_rows D hi,le_rows i,getD_at D hi,w64_up (Nat.le_refl i) (by omega),drop_cons hi,List.foldl_cons]
   simp only [Bool.and_self,cond_true]
   have e : x_f18 N (fc a) (((D[i]).1.1.1,(D[i]).1.1.2),(D[i]).1.2) = some (hasF (fc a) (D[i]).1) := hcf
   rw [e,Option.bind_some]
   have hadd : addO k a D[i] = bif hasF (fc a) (D[i]).1 then a else a ++ [((D[i]).1,(k,(D[i]).2))] := rfl
   have hal := ih (addO k a D[i])
   revert hal
   rw [hadd]
   cases hasF (fc a) (D[i]).1 with
   | true => intro hal; exact hal (by simp only [cond_true]; omega)
   | false =>
    intro hal
    simp only [Bool.not_false,cond_true,List.length_cons,List.length_nil]
    rw [dT (p := ((fc a).length + (0 + 1)) * 24 ≤ 140737488355328) (by omega),dT (p := (a.length + (0 + 1)) * 56 ≤ 140737488355328) (by omega)]
    have := hal (by simp only [cond_false,List.length_append,List.length_cons,List.length_nil]; omega)
    simp only [cond_false] at this ⊢
    rw [show fc (a ++ [((D[i]).1,(k,(D[i]).2))]) = fc a ++ [(D[i]).1] from by simp [fc]] at this
    exact this)
  (fun a rec_ ha => by
   show (bif _ then _ else _) = _
   rw [dF (Int.lt_irrefl _),List.drop_length]; rfl)
  N (by omega) out
 exact key (by omega)
theorem find_L2 {N : Nat} (hN : Big N) {kx kr} (list : List (Den tCred)) (hl : list.length ≤ 1048576) (s5 : Int) (out : List (Den tFoundV)) (ho : OkL (fc out)) :
  iter (B_f9_L2 (Ω := (List (Den tFoundV)) × DenW (.d 0 (.sl tCred))) N kx kr) N (list,fc out,out,s5,list,(list.length : Int),(0:Int)) = kx (list,fc (passO 0 out list),passO 0 out list,s5) := by
 have hN' := n40f hN
 have key := iter_to (B := B_f9_L2 (Ω := (List (Den tFoundV)) × DenW (.d 0 (.sl tCred))) N kx kr) (A := List (Den tFoundV)) (fun i a => (list,fc a,a,s5,list,(list.length : Int),(i : Int))) (fun i a q => OkL (fc a) → q = kx (list,fc (passO i a (list.drop i)),passO i a (list.drop i),s5)) list.length
  (fun i a rec_ hi ih ha => by
   have hal := ha.len
   have hfl := fc_len a
   have hd := derI_len hal (list[i])
   have eta : ∀ c : Den tCred,((c.1,(c.2.1.1,c.2.1.2),c.2.2.1,(c.2.2.2.1.1,c.2.2.2.1.2),(c.2.2.2.2.1.1,c.2.2.2.2.1.2),c.2.2.2.2.2.1,c.2.2.2.2.2.2) : Den tCred) = c := fun _ => rfl
   have hstep := ih (stepO a (i : Int) list[i]) (by rw [stepO_fc]; exact stepF_ok ha _)
   show (bif _ then _ else _) = _
   rw [lt_rows list hi,le_rows i,getD_at list hi,drop_cons hi]
   simp only [Bool.and_self,cond_true,eta]
   rw [credOk_i,Option.bind_some,cloneF N (fc a) (by omega),Option.bind_some,impl_derive hN (fc a) (by omega) ha.2,Option.bind_some]
   unfold passO
   revert hstep
   unfold stepO
   cases credOk list[i] with
   | false =>
    intro hstep
    simp only [Bool.not_false,cond_true,cond_false]
    rw [w64_up (Nat.le_refl i) (by omega)]
    exact hstep
   | true =>
    intro hstep
    simp only [Bool.not_true,cond_true,cond_false]
    rw [find_L4 hN _ _ _ _ _ _ _ _ (by omega)]
    simp only
    rw [w64_up (Nat.le_refl i) (by omega)]
    exact hstep)
  (fun a rec_ ha => by
   show (bif _ then _ else _) = _
   rw [dF (Int.lt_irrefl _),List.drop_length]; rfl)
  N (by omega) out
 exact key ho
theorem find_L0 {N : Nat} (hN : Big N) {kx kr} (list : List (Den tCred)) (hl : list.length ≤ 1048576) : ∀ (n : Nat) (out : List (Den tFoundV)) (b : Int),OkL (fc out) → 145 ≤ out.length + n → b < out.length → ∀ M,n < M →
  iter (B_f9_L0 (Ω := (List (Den tFoundV)) × DenW (.d 0 (.sl tCred))) N kx kr) M (list,fc out,out,b) = kx (closeO list n out)
 | 0,out,b,ho,h145,_,_,_ => by have := ho.len; rw [fc_len] at this; omega
 | n + 1,out,b,ho,h145,hb,M,hM => by
  obtain ⟨M,rfl⟩ : ∃ m,M = m + 1 := ⟨M - 1,by omega⟩
  have hfl := fc_len out
  have hpl := fc_len (passO 0 out list)
  have hlen := passF_len list (fc out)
  rw [← passO_fc list 0 out] at hlen
  have hok := passF_ok list (fc out) ho
  rw [← passO_fc list 0 out] at hok
  show (bif _ then _ else _) = _
  rw [dT (p := b < ((fc out).length : Int)) (by omega)]
  simp only [cond_true]
  rw [find_L2 hN list hl _ out ho]
  unfold closeO
  show iter (B_f9_L0 (Ω := (List (Den tFoundV)) × DenW (.d 0 (.sl tCred))) N kx kr) M (list,fc (passO 0 out list),passO 0 out list,((fc out).length : Int)) = _
  by_cases hg : out.length < (passO 0 out list).length
  ·rw [dT hg,cond_true]
   exact find_L0 hN list hl n _ _ hok (by omega) (by omega) M (by omega)
  ·rw [dF hg,cond_false]
   obtain ⟨M,rfl⟩ : ∃ m,M = m + 1 := ⟨M - 1,by omega⟩
   show (bif _ then _ else _) = _
   rw [dF (p := ((fc out).length : Int) < ((fc (passO 0 out list)).length : Int)) (by omega)]; rfl
theorem impl_findFacts {N : Nat} (hN : Big N) (list : List (Den tCred)) (hl : list.length ≤ 1048576) : x_f9 N list = some (closeO list 145 [],()) := by
 have hN' := n40f hN
 unfold x_f9
 have := find_L0 (kx := fun x18 => some (x18,())) (kr := fun ρ19 => some ρ19) hN list hl 145 [] (-1) ⟨List.nodup_nil,fun f h => by cases h⟩ (by simp) (by simp) N (by omega)
 refine (congrArg (fun o => Option.bind o _) this).trans ?_
 rfl
end Go.Proofs.Ytfmlmdnaeonobaa.C
namespace Go.Proofs.Ytfmlmdnaeonobaa.C
open Go Go.Proofs.Ytfmlmdnaeonobaa.Nx Go.RowKit
set_option linter.unusedVariables false
set_option linter.unusedSimpArgs false
def g1 (l : List (Den tFact)) (c : Den tCred) (i : Int) : List (Den tFact) :=
 bif decide (c.1 = 2) || hasF l (c.2.2.2.2.1,(l.getD i.toNat (dft tFact)).2) then [(c.2.1,(l.getD i.toNat (dft tFact)).2)] else []
def g3 (l : List (Den tFact)) (c : Den tCred) (i : Int) : List (Den tFact) :=
 (whoA ((l.getD i.toNat (dft tFact)).2,c.2.2.2.2.1.2) 0 l).map fun k => (c.2.1,(l.getD k.toNat (dft tFact)).2)
theorem getD_n {l : List (Den tFact)} {i : Nat} (hi : i < l.length) : l.getD ((i : Int)).toNat (dft tFact) = l[i] := by
 rw [Int.toNat_natCast,List.getD_eq_getElem?_getD,List.getElem?_eq_getElem hi]; rfl
theorem foldF_up : ∀ (ds l : List (Den tFact)),(ds.foldl putF l).length ≤ l.length + ds.length
 | [],_ => Nat.le_refl _
 | d :: ds,l => by
  have h1 := foldF_up ds (putF l d)
  have h2 := putF_len l d
  simp only [List.foldl_cons,List.length_cons]; omega
theorem spec_L1 {N : Nat} (hN : Big N) {kx kr} (l : List (Den tFact)) (hl : l.length ≤ 1000) (c : Den tCred) (out : List (Den tFact)) (ho : out.length ≤ 100000) :
  iter (B_f25_L1 (Ω := List (Den tFact)) N kx kr) N (l,c,out,(0:Int)) = kx (((whoA c.2.2.2.1 0 l).flatMap (g1 l c)).foldl putF out) := by
 have hN' := n40f hN
 have key := iter_to (B := B_f25_L1 (Ω := List (Den tFact)) N kx kr) (A := List (Den tFact)) (fun i a => (l,c,a,(i : Int))) (fun i a q => a.length ≤ out.length + i → q = kx (((whoA c.2.2.2.1 i (l.drop i)).flatMap (g1 l c)).foldl putF a)) l.length
  (fun i a rec_ hi ih ha => by
   have hpl := putF_len a (c.2.1,(l[i]).2)
   show (bif _ then _ else _) = _
   rw [lt_rows l hi,le_rows i,getD_at l hi,w64_up (Nat.le_refl i) (by omega),drop_cons hi]
   simp only [Bool.and_self,cond_true]
   unfold whoA
   cases decide ((l[i]).1.1 = c.2.2.2.1.1) && decide ((l[i]).1.2 = c.2.2.2.1.2) with
   | false => exact ih a (by omega)
   | true =>
    simp only [cond_true]
    rw [List.flatMap_cons,List.foldl_append]
    rw [spec_has hN l (by omega),spec_put hN a (by omega)]
    simp only [Option.bind_some]
    have e : g1 l c (i : Int) = bif decide (c.1 = 2) || hasF l (c.2.2.2.2.1,(l[i]).2) then [(c.2.1,(l[i]).2)] else [] := by unfold g1; rw [getD_n hi]
    rw [e]
    cases decide (c.1 = 2) with
    | true => exact ih _ (by omega)
    | false =>
     simp only [Bool.false_or,cond_false]
     cases hasF l (c.2.2.2.2.1,(l[i]).2) with
     | false => exact ih a (by omega)
     | true => exact ih _ (by omega))
  (fun a rec_ ha => by
   show (bif _ then _ else _) = _
   rw [at_end l,List.drop_length]; rfl)
  N (by omega) out
 rw [List.drop_zero] at key
 exact key (by omega)
theorem spec_L5 {N : Nat} (hN : Big N) {kx kr} (l : List (Den tFact)) (hl : l.length ≤ 1000) (c : Den tCred) (out : List (Den tFact)) (ho : out.length ≤ 1000000) (s8 : Int) (r : Den tRole) :
  iter (B_f25_L5 (Ω := List (Den tFact)) N kx kr) N (l,c,out,s8,r,(0:Int)) = kx (l,c,((whoA r 0 l).map fun k => (c.2.1,(l.getD k.toNat (dft tFact)).2)).foldl putF out,s8) := by
 have hN' := n40f hN
 have key := iter_to (B := B_f25_L5 (Ω := List (Den tFact)) N kx kr) (A := List (Den tFact)) (fun i a => (l,c,a,s8,r,(i : Int))) (fun i a q => a.length ≤ out.length + i → q = kx (l,c,((whoA r i (l.drop i)).map fun k => (c.2.1,(l.getD k.toNat (dft tFact)).2)).foldl putF a,s8)) l.length
  (fun i a rec_ hi ih ha => by
   have hpl := putF_len a (c.2.1,(l[i]).2)
   show (bif _ then _ else _) = _
   rw [lt_rows l hi,le_rows i,getD_at l hi,w64_up (Nat.le_refl i) (by omega),drop_cons hi]
   simp only [Bool.and_self,cond_true]
   unfold whoA
   cases decide ((l[i]).1.1 = r.1) && decide ((l[i]).1.2 = r.2) with
   | false => exact ih a (by omega)
   | true =>
    simp only [cond_true]
    rw [List.map_cons,List.foldl_cons,getD_n hi,spec_put hN a (by omega)]
    simp only [Option.bind_some]
    exact ih _ (by omega))
  (fun a rec_ ha => by
   show (bif _ then _ else _) = _
   rw [at_end l,List.drop_length]; rfl)
  N (by omega) out
 rw [List.drop_zero] at key
 exact key (by omega)
theorem spec_L3 {N : Nat} (hN : Big N) {kx kr} (l : List (Den tFact)) (hl : l.length ≤ 144) (c : Den tCred) (out : List (Den tFact)) (ho : out.length ≤ 144) :
  iter (B_f25_L3 (Ω := List (Den tFact)) N kx kr) N (l,c,out,(0:Int)) = kx (((whoA c.2.2.2.1 0 l).flatMap (g3 l c)).foldl putF out) := by
 have hN' := n40f hN
 have key := iter_to (B := B_f25_L3 (Ω := List (Den tFact)) N kx kr) (A := List (Den tFact)) (fun i a => (l,c,a,(i : Int))) (fun i a q => a.length ≤ 144 + i * 144 → q = kx (((whoA c.2.2.2.1 i (l.drop i)).flatMap (g3 l c)).foldl putF a)) l.length
  (fun i a rec_ hi ih ha => by
   show (bif _ then _ else _) = _
   rw [lt_rows l hi,le_rows i,getD_at l hi,drop_cons hi]
   simp only [Bool.and_self,cond_true]
   unfold whoA
   cases decide ((l[i]).1.1 = c.2.2.2.1.1) && decide ((l[i]).1.2 = c.2.2.2.1.2) with
   | false =>
    simp only [Bool.not_false,cond_true,cond_false]
    rw [w64_up (Nat.le_refl i) (by omega)]
    exact ih a (by omega)
   | true =>
    simp only [Bool.not_true,cond_true,cond_false]
    rw [List.flatMap_cons,List.foldl_append,spec_L5 hN l (by omega) c a (by omega)]
    simp only
    rw [w64_up (Nat.le_refl i) (by omega)]
    have e : g3 l c (i : Int) = (whoA ((l[i]).2,c.2.2.2.2.1.2) 0 l).map fun k => (c.2.1,(l.getD k.toNat (dft tFact)).2) := by unfold g3; rw [getD_n hi]
    rw [e]
    refine ih _ ?_
    have h1 := foldF_up ((whoA ((l[i]).2,c.2.2.2.2.1.2) 0 l).map fun k => (c.2.1,(l.getD k.toNat (dft tFact)).2)) a
    have h2 := whoA_len ((l[i]).2,c.2.2.2.2.1.2) l 0
    rw [List.length_map] at h1
    omega)
  (fun a rec_ ha => by
   show (bif _ then _ else _) = _
   rw [at_end l,List.drop_length]; rfl)
  N (by omega) out
 rw [List.drop_zero] at key
 exact key (by omega)
theorem derI_map (l : List (Den tFact)) (c : Den tCred) : (derI l c).map (fun d => d.1) =
  bif decide (c.1 = 1) then [(c.2.1,c.2.2.1)] else bif decide (c.1 = 2) then (whoA c.2.2.2.1 0 l).flatMap (g1 l c) else bif decide (c.1 = 3) then (whoA c.2.2.2.1 0 l).flatMap (g3 l c) else bif decide (c.1 = 4) then (whoA c.2.2.2.1 0 l).flatMap (g1 l c) else [] := by
 unfold derI
 cases h1 : decide (c.1 = 1) with
 | true => rfl
 | false =>
  cases h2 : decide (c.1 = 2) with
  | true =>
   simp only [cond_false,cond_true]
   generalize whoA c.2.2.2.1 0 l = W
   induction W with
   | nil => rfl
   | cons w W ih =>
    rw [List.flatMap_cons,← ih]
    have : g1 l c w = [(c.2.1,(l.getD w.toNat (dft tFact)).2)] := by unfold g1; rw [h2]; rfl
    rw [this]; rfl
  | false =>
   cases h3 : decide (c.1 = 3) with
   | true =>
    simp only [cond_false,cond_true]
    generalize whoA c.2.2.2.1 0 l = W
    induction W with
    | nil => rfl
    | cons w W ih =>
     rw [List.flatMap_cons,List.flatMap_cons,← ih,List.map_append]
     congr 1
     unfold der3 g3
     rw [List.map_map]; rfl
   | false =>
    cases h4 : decide (c.1 = 4) with
    | true =>
     simp only [cond_false,cond_true]
     generalize whoA c.2.2.2.1 0 l = W
     induction W with
     | nil => rfl
     | cons w W ih =>
      rw [List.flatMap_cons,List.flatMap_cons,← ih,List.map_append]
      congr 1
      unfold der4 g1
      rw [h2,findI_any]
      unfold hasF
      cases l.any fun x => eqF x (c.2.2.2.2.1,(l.getD w.toNat (dft tFact)).2) <;> rfl
    | false => rfl
theorem spec_Follows {N : Nat} (hN : Big N) (l : List (Den tFact)) (hl : l.length ≤ 144) (c : Den tCred) : x_f25 N l c = some (stepF l c) := by
 unfold x_f25 stepF
 simp only [List.length_nil,List.nil_append]
 rw [dT (p := (0 + l.length) * 24 ≤ 140737488355328) (by omega),credOk_s,Option.bind_some,derI_map,spec_put hN l (by omega),Option.bind_some,spec_L1 hN l (by omega) c l (by omega),spec_L3 hN l hl c l hl]
 cases credOk c with
 | false => rfl
 | true =>
  cases h1 : decide (c.1 = 1) with
  | true => rfl
  | false =>
   cases h2 : decide (c.1 = 2) with
   | true => rfl
   | false =>
    cases h3 : decide (c.1 = 3) with
    | true =>
     have : decide (c.1 = 4) = false := by
      have h5 : (c.1 : Int) = 3 := of_decide_eq_true h3
      exact dF (fun e : (c.1 : Int) = 4 => by rw [h5] at e; exact absurd e (by decide))
     rw [this]; rfl
    | false =>
     cases decide (c.1 = 4) <;> rfl
theorem spec_F2 {N : Nat} (hN : Big N) {kx kr} (list : List (Den tCred)) (hl : list.length ≤ 1048576) (l : List (Den tFact)) (ho : OkL l) :
  iter (B_f24_L2 (Ω := List (Den tFact)) N kx kr) N (list,l,false,(0:Int)) = kx (list,list.foldl stepF l,decide (l.length < (list.foldl stepF l).length)) := by
 have hN' := n40f hN
 have key := iter_to (B := B_f24_L2 (Ω := List (Den tFact)) N kx kr) (A := List (Den tFact) × Bool) (fun i a => (list,a.1,a.2,(i : Int))) (fun i a q => OkL a.1 → q = kx (list,(list.drop i).foldl stepF a.1,a.2 || decide (a.1.length < ((list.drop i).foldl stepF a.1).length))) list.length
  (fun i a rec_ hi ih ha => by
   obtain ⟨l,fl⟩ := a
   have hll := ha.len
   simp only at hll
   have hok := stepF_ok ha list[i]
   have h1 := stepF_len l list[i]
   have h2 := passF_len (list.drop (i + 1)) (stepF l list[i])
   show (bif _ then _ else _) = _
   rw [lt_rows list hi,le_rows i,getD_at list hi,w64_up (Nat.le_refl i) (by omega),drop_cons hi,List.foldl_cons,spec_Follows hN l hll,Option.bind_some]
   simp only [Bool.and_self,cond_true]
   by_cases hg : l.length < (stepF l list[i]).length
   ·rw [dT (p := (l.length : Int) < ((stepF l list[i]).length : Int)) (by omega),dT (p := l.length < ((list.drop (i + 1)).foldl stepF (stepF l list[i])).length) (by omega),Bool.or_true]
    have := ih (stepF l list[i],true) hok
    rw [Bool.true_or] at this
    exact this
   ·rw [dF (p := (l.length : Int) < ((stepF l list[i]).length : Int)) (by omega)]
    have := ih (stepF l list[i],fl) hok
    have e : (stepF l list[i]).length = l.length := by omega
    simp only [e] at this
    exact this)
  (fun a rec_ ha => by
   show (bif _ then _ else _) = _
   rw [at_end list,List.drop_length]
   show kx (list,a.1,a.2) = kx (list,a.1,a.2 || decide (a.1.length < a.1.length))
   rw [dF (p := a.1.length < a.1.length) (Nat.lt_irrefl _),Bool.or_false])
  N (by omega) (l,false)
 have := key ho
 rw [List.drop_zero,Bool.false_or] at this
 exact this
theorem spec_F0 {N : Nat} (hN : Big N) {kx kr} (list : List (Den tCred)) (hl : list.length ≤ 1048576) : ∀ (n : Nat) (l : List (Den tFact)),OkL l → 145 ≤ l.length + n → ∀ M,n < M →
  iter (B_f24_L0 (Ω := List (Den tFact)) N kx kr) M (list,l,true) = kx (closeF list n l)
 | 0,l,ho,h145,_,_ => by have := ho.len; omega
 | n + 1,l,ho,h145,M,hM => by
  obtain ⟨M,rfl⟩ : ∃ m,M = m + 1 := ⟨M - 1,by omega⟩
  have hok := passF_ok list l ho
  have hlen := passF_len list l
  show iter (B_f24_L2 N (fun (x2,x3,x4) => iter (B_f24_L0 N kx kr) M (x2,x3,x4)) (fun ρ5 => kr (ρ5))) N (list,l,false,(0:Int)) = _
  rw [spec_F2 hN list hl l ho]
  unfold closeF
  simp only
  by_cases hg : l.length < (list.foldl stepF l).length
  ·rw [dT hg,cond_true]
   exact spec_F0 hN list hl n _ hok (by omega) M (by omega)
  ·rw [dF hg,cond_false]
   obtain ⟨M,rfl⟩ : ∃ m,M = m + 1 := ⟨M - 1,by omega⟩
   rfl
theorem spec_FactsOf {N : Nat} (hN : Big N) (list : List (Den tCred)) (hl : list.length ≤ 1048576) : x_f24 N list = some (closeF list 145 []) := by
 have hN' := n40f hN
 unfold x_f24
 exact spec_F0 hN list hl 145 [] ⟨List.nodup_nil,fun f h => by cases h⟩ (by simp) N (by omega)
theorem closeF_ok (list : List (Den tCred)) : ∀ (n : Nat) (l : List (Den tFact)),OkL l → OkL (closeF list n l)
 | 0,_,h => h
 | n + 1,l,h => by
  unfold closeF
  cases decide (l.length < (list.foldl stepF l).length)
  ·exact passF_ok list l h
  ·exact closeF_ok list n _ (passF_ok list l h)
end Go.Proofs.Ytfmlmdnaeonobaa.C
namespace Go.Proofs.Ytfmlmdnaeonobaa.C
open Go Go.Proofs.Ytfmlmdnaeonobaa.Nx Go.RowKit
set_option linter.unusedVariables false
set_option linter.unusedSimpArgs false
theorem neJ {a x y : Int} (h : a = x) (hne : x ≠ y) : ¬ a = y := fun e => hne (h.symm.trans e)
theorem kindI {c : Den tCred} (h : credOk c = true) : (c.1 : Int) = 1 ∨ (c.1 : Int) = 2 ∨ (c.1 : Int) = 3 ∨ (c.1 : Int) = 4 := credOk_kind h
def stepG (g : Int → Den tFact) (s : Den tStep) : Prop :=
 ((s.1.1 : Int) = 1 ∧ s.2.2 = [] ∧ s.2.1.2 = s.1.2.2.1) ∨
 ((s.1.1 : Int) = 2 ∧ ∃ x,s.2.2 = [x] ∧ g x = (s.1.2.2.2.1,s.2.1.2)) ∨
 ((s.1.1 : Int) = 3 ∧ ∃ x y,s.2.2 = [x,y] ∧ (g x).1 = s.1.2.2.2.1 ∧ g y = (((g x).2,s.1.2.2.2.2.1.2),s.2.1.2)) ∨
 ((s.1.1 : Int) = 4 ∧ ∃ x y,s.2.2 = [x,y] ∧ g x = (s.1.2.2.2.1,s.2.1.2) ∧ g y = (s.1.2.2.2.2.1,s.2.1.2))
theorem factEq_iff {a : Den tFact} {r1 r2 w : Int} : factEq a r1 r2 w = true ↔ a = ((r1,r2),w) := by
 obtain ⟨⟨p,q⟩,z⟩ := a
 unfold factEq
 simp only [Bool.and_eq_true,decide_eq_true_eq]
 constructor
 ·rintro ⟨rfl,rfl,rfl⟩; rfl
 ·intro h; cases h; exact ⟨rfl,rfl,rfl⟩
theorem roleEq_iff {a : Den tRole} {r1 r2 : Int} : (decide (a.1 = r1) && decide (a.2 = r2)) = true ↔ a = (r1,r2) := by
 obtain ⟨p,q⟩ := a
 simp only [Bool.and_eq_true,decide_eq_true_eq]
 constructor
 ·rintro ⟨rfl,rfl⟩; rfl
 ·intro h; cases h; exact ⟨rfl,rfl⟩
theorem follows_iff {L : List (Den tStep)} {s : Den tStep} (hc : credOk s.1 = true) : follows L s = true ↔ stepG (fun x => (L.getD x.toNat (dft tStep)).2.1) s := by
 have d : ∀ {a b : Int},a ≠ b → decide (a = b) = false := fun h => dF h
 unfold follows stepG
 rcases kindI hc with h | h | h | h
 ·rw [dT (p := (s.1.1 : Int) = 1) h]
  simp only [cond_true,Bool.and_eq_true,decide_eq_true_eq,List.length_eq_zero_iff]
  constructor
  ·rintro ⟨h1,h2⟩; exact .inl ⟨h,h1,h2⟩
  ·rintro (⟨_,h1,h2⟩ | ⟨h',_⟩ | ⟨h',_⟩ | ⟨h',_⟩)
   ·exact ⟨h1,h2⟩
   ·exact absurd h' (neJ h (by decide))
   ·exact absurd h' (neJ h (by decide))
   ·exact absurd h' (neJ h (by decide))
 ·rw [dF (p := (s.1.1 : Int) = 1) (neJ h (by decide)),dT (p := (s.1.1 : Int) = 2) h]
  simp only [cond_true,cond_false]
  constructor
  ·intro hm
   split at hm
   ·rename_i x e
    exact .inr (.inl ⟨h,x,e,factEq_iff.1 hm⟩)
   ·cases hm
  ·rintro (⟨h',_⟩ | ⟨_,x,e,h2⟩ | ⟨h',_⟩ | ⟨h',_⟩)
   ·exact absurd h' (neJ h (by decide))
   ·rw [e]; exact factEq_iff.2 h2
   ·exact absurd h' (neJ h (by decide))
   ·exact absurd h' (neJ h (by decide))
 ·rw [dF (p := (s.1.1 : Int) = 1) (neJ h (by decide)),dF (p := (s.1.1 : Int) = 2) (neJ h (by decide)),dT (p := (s.1.1 : Int) = 3) h]
  simp only [cond_true,cond_false]
  constructor
  ·intro hm
   split at hm
   ·rename_i x y e
    rw [Bool.and_eq_true] at hm
    exact .inr (.inr (.inl ⟨h,x,y,e,roleEq_iff.1 hm.1,factEq_iff.1 hm.2⟩))
   ·cases hm
  ·rintro (⟨h',_⟩ | ⟨h',_⟩ | ⟨_,x,y,e,h1,h2⟩ | ⟨h',_⟩)
   ·exact absurd h' (neJ h (by decide))
   ·exact absurd h' (neJ h (by decide))
   ·rw [e]
    exact Bool.and_eq_true_iff.2 ⟨roleEq_iff.2 h1,factEq_iff.2 h2⟩
   ·exact absurd h' (neJ h (by decide))
 ·rw [dF (p := (s.1.1 : Int) = 1) (neJ h (by decide)),dF (p := (s.1.1 : Int) = 2) (neJ h (by decide)),dF (p := (s.1.1 : Int) = 3) (neJ h (by decide))]
  simp only [cond_false]
  constructor
  ·intro hm
   split at hm
   ·rename_i x y e
    rw [Bool.and_eq_true] at hm
    exact .inr (.inr (.inr ⟨h,x,y,e,factEq_iff.1 hm.1,factEq_iff.1 hm.2⟩))
   ·cases hm
  ·rintro (⟨h',_⟩ | ⟨h',_⟩ | ⟨h',_⟩ | ⟨_,x,y,e,h1,h2⟩)
   ·exact absurd h' (neJ h (by decide))
   ·exact absurd h' (neJ h (by decide))
   ·exact absurd h' (neJ h (by decide))
   ·rw [e]
    exact Bool.and_eq_true_iff.2 ⟨factEq_iff.2 h1,factEq_iff.2 h2⟩
structure StepP (L : List (Den tStep)) (i : Nat) (s : Den tStep) : Prop where
 ok : credOk s.1 = true
 of : s.2.1.1 = s.1.2.1
 fr : ∀ x ∈ s.2.2,∃ k : Nat,x = (k : Int) ∧ k < i
 g : stepG (fun x => (L.getD x.toNat (dft tStep)).2.1) s
theorem stepP_iff {L : List (Den tStep)} {i : Nat} {s : Den tStep} : stepAt L i s = true ↔ StepP L i s := by
 unfold stepAt
 simp only [Bool.and_eq_true,allI_all,List.all_eq_true]
 constructor
 ·rintro ⟨h1,h2,h3,h4⟩
  exact ⟨h1,(roleEq_iff (a := s.2.1.1)).1 (Bool.and_eq_true_iff.2 h2),fun x hx => inR_nat (h3 x hx),(follows_iff h1).1 h4⟩
 ·rintro ⟨h1,h2,h3,h4⟩
  refine ⟨h1,Bool.and_eq_true_iff.1 ((roleEq_iff (a := s.2.1.1) (r1 := s.1.2.1.1) (r2 := s.1.2.1.2)).2 h2),fun x hx => ?_,(follows_iff h1).2 h4⟩
  obtain ⟨k,rfl,hk⟩ := h3 x hx
  unfold inR
  rw [dT (by omega),dT (by omega)]; rfl
theorem stepG_map {g g' : Int → Den tFact} {s : Den tStep} {m : Int → Int} (h : ∀ x ∈ s.2.2,g' (m x) = g x) (hg : stepG g s) : stepG g' (s.1,s.2.1,s.2.2.map m) := by
 rcases hg with ⟨k,e,w⟩ | ⟨k,x,e,w⟩ | ⟨k,x,y,e,w1,w2⟩ | ⟨k,x,y,e,w1,w2⟩
 ·exact .inl ⟨k,by show s.2.2.map m = []; rw [e]; rfl,w⟩
 ·refine .inr (.inl ⟨k,m x,by show s.2.2.map m = [m x]; rw [e]; rfl,?_⟩)
  rw [h x (by rw [e]; simp)]; exact w
 ·refine .inr (.inr (.inl ⟨k,m x,m y,by show s.2.2.map m = [m x,m y]; rw [e]; rfl,?_,?_⟩))
  ·rw [h x (by rw [e]; simp)]; exact w1
  ·rw [h x (by rw [e]; simp),h y (by rw [e]; simp)]; exact w2
 ·refine .inr (.inr (.inr ⟨k,m x,m y,by show s.2.2.map m = [m x,m y]; rw [e]; rfl,?_,?_⟩))
  ·rw [h x (by rw [e]; simp)]; exact w1
  ·rw [h y (by rw [e]; simp)]; exact w2
theorem stepG_two {g : Int → Den tFact} {s : Den tStep} (hg : stepG g s) : s.2.2.length ≤ 2 := by
 rcases hg with ⟨k,e,w⟩ | ⟨k,x,e,w⟩ | ⟨k,x,y,e,w1,w2⟩ | ⟨k,x,y,e,w1,w2⟩ <;> rw [e] <;> simp
theorem StepP.other {L L' : List (Den tStep)} {i j : Nat} {s : Den tStep} (h : StepP L i s) (hj : i ≤ j) (he : ∀ k,k < i → (L'.getD k (dft tStep)).2.1 = (L.getD k (dft tStep)).2.1) : StepP L' j s := by
 refine ⟨h.ok,h.of,fun x hx => ?_,?_⟩
 ·obtain ⟨k,e,hk⟩ := h.fr x hx
  exact ⟨k,e,by omega⟩
 ·have := stepG_map (g' := fun x => (L'.getD x.toNat (dft tStep)).2.1) (m := id) (fun x hx => by
   obtain ⟨k,e,hk⟩ := h.fr x hx
   subst e
   show (L'.getD ((k : Int)).toNat (dft tStep)).2.1 = (L.getD ((k : Int)).toNat (dft tStep)).2.1
   rw [Int.toNat_natCast]; exact he k hk) h.g
  rw [List.map_id] at this
  exact this
theorem whoA_has {r : Den tRole} : ∀ (l : List (Den tFact)) (j k : Nat) (hk : k < l.length),(l[k]).1 = r → ((j + k : Nat) : Int) ∈ whoA r j l
 | [],_,_,hk,_ => by cases hk
 | f :: fs,j,0,_,h => by
  unfold whoA
  have h : f.1 = r := h
  have : (decide (f.1.1 = r.1) && decide (f.1.2 = r.2)) = true := by rw [h]; simp
  rw [this]; simp
 | f :: fs,j,k + 1,hk,h => by
  unfold whoA
  have := whoA_has (r := r) fs (j + 1) k (by simpa using hk) (by simpa using h)
  rw [show j + 1 + k = j + (k + 1) from by omega] at this
  cases decide (f.1.1 = r.1) && decide (f.1.2 = r.2)
  ·exact this
  ·exact List.mem_cons_of_mem _ this
theorem der_mem {l : List (Den tFact)} {c : Den tCred} (hc : credOk c = true) {g : Int → Den tFact} {f : Den tFact} {fr : List Int} (hof : f.1 = c.2.1) (hfr : ∀ x ∈ fr,g x ∈ l) (h : stepG g (c,f,fr)) : f ∈ (derI l c).map fun d => d.1 := by
 rw [derI_map]
 have at_ : ∀ {p : Den tFact},p ∈ l → ∃ k : Nat,∃ hk : k < l.length,l[k] = p ∧ l.getD ((k : Int)).toNat (dft tFact) = p := fun {p} hp => by
  obtain ⟨k,hk,e⟩ := List.getElem_of_mem hp
  exact ⟨k,hk,e,by rw [getD_n hk]; exact e⟩
 have who : ∀ {k : Nat} (hk : k < l.length) {r : Den tRole},(l[k]).1 = r → ((k : Nat) : Int) ∈ whoA r 0 l := fun {k} hk {r} e => by
  have := whoA_has l 0 k hk e
  rwa [Nat.zero_add] at this
 rcases h with ⟨k,e,w⟩ | ⟨k,x,e,w⟩ | ⟨k,x,y,e,w1,w2⟩ | ⟨k,x,y,e,w1,w2⟩
 ·have k : (c.1 : Int) = 1 := k
  have w : f.2 = c.2.2.1 := w
  rw [dT (p := (c.1 : Int) = 1) k]
  have : f = (c.2.1,c.2.2.1) := by rw [← hof,← w]
  rw [this]; simp
 ·have k : (c.1 : Int) = 2 := k
  have e : fr = [x] := e
  have w : g x = (c.2.2.2.1,f.2) := w
  rw [dF (p := (c.1 : Int) = 1) (neJ k (by decide)),dT (p := (c.1 : Int) = 2) k]
  simp only [cond_true,cond_false]
  obtain ⟨a,ha,e1,e2⟩ := at_ (hfr x (by rw [e]; simp))
  refine List.mem_flatMap.2 ⟨(a : Int),who ha (by rw [e1,w]),?_⟩
  unfold g1
  rw [dT (p := (c.1 : Int) = 2) k,e2,w]
  show f ∈ [(c.2.1,f.2)]
  rw [← hof]; simp
 ·have k : (c.1 : Int) = 3 := k
  have e : fr = [x,y] := e
  have w1 : (g x).1 = c.2.2.2.1 := w1
  have w2 : g y = (((g x).2,c.2.2.2.2.1.2),f.2) := w2
  rw [dF (p := (c.1 : Int) = 1) (neJ k (by decide)),dF (p := (c.1 : Int) = 2) (neJ k (by decide)),dT (p := (c.1 : Int) = 3) k]
  simp only [cond_true,cond_false]
  obtain ⟨a,ha,e1,e2⟩ := at_ (hfr x (by rw [e]; simp))
  obtain ⟨b,hb,e3,e4⟩ := at_ (hfr y (by rw [e]; simp))
  refine List.mem_flatMap.2 ⟨(a : Int),who ha (by rw [e1,w1]),?_⟩
  unfold g3
  refine List.mem_map.2 ⟨(b : Int),who hb (by rw [e3,w2,e2]),?_⟩
  rw [e4,w2,← hof]
 ·have k : (c.1 : Int) = 4 := k
  have e : fr = [x,y] := e
  have w1 : g x = (c.2.2.2.1,f.2) := w1
  have w2 : g y = (c.2.2.2.2.1,f.2) := w2
  rw [dF (p := (c.1 : Int) = 1) (neJ k (by decide)),dF (p := (c.1 : Int) = 2) (neJ k (by decide)),dF (p := (c.1 : Int) = 3) (neJ k (by decide)),dT (p := (c.1 : Int) = 4) k]
  simp only [cond_true,cond_false]
  obtain ⟨a,ha,e1,e2⟩ := at_ (hfr x (by rw [e]; simp))
  have hy := hfr y (by rw [e]; simp)
  rw [w2] at hy
  refine List.mem_flatMap.2 ⟨(a : Int),who ha (by rw [e1,w1]),?_⟩
  unfold g1
  rw [e2,w1,hasF_iff.2 hy,Bool.or_true]
  show f ∈ [(c.2.1,f.2)]
  rw [← hof]; simp
theorem der_step {l : List (Den tFact)} {c : Den tCred} (hc : credOk c = true) {d : Den tDerived} (hd : d ∈ derI l c) : d.1.1 = c.2.1 ∧ (∀ x ∈ d.2,∃ k : Nat,x = (k : Int) ∧ k < l.length) ∧ stepG (fun x => l.getD x.toNat (dft tFact)) (c,d.1,d.2) := by
 have whoD : ∀ {r : Den tRole} {i : Int},i ∈ whoA r 0 l → ∃ k : Nat,∃ hk : k < l.length,i = (k : Int) ∧ (l.getD i.toNat (dft tFact)) = l[k] ∧ (l[k]).1 = r := fun {r i} hi => by
  obtain ⟨k,hk,e,h⟩ := whoA_mem r l 0 i hi
  rw [Nat.zero_add] at e
  subst e
  exact ⟨k,hk,rfl,getD_n hk,h⟩
 unfold derI at hd
 rcases kindI hc with k | k | k | k
 ·rw [dT (p := (c.1 : Int) = 1) k] at hd
  have hd := List.mem_singleton.1 hd
  subst hd
  exact ⟨rfl,fun x hx => (by cases hx),.inl ⟨k,rfl,rfl⟩⟩
 ·rw [dF (p := (c.1 : Int) = 1) (neJ k (by decide)),dT (p := (c.1 : Int) = 2) k] at hd
  obtain ⟨i,hi,rfl⟩ := List.mem_map.1 hd
  obtain ⟨a,ha,e1,e2,e3⟩ := whoD hi
  refine ⟨rfl,fun x hx => ⟨a,by rw [← e1]; exact List.mem_singleton.1 hx,ha⟩,.inr (.inl ⟨k,i,rfl,?_⟩)⟩
  show l.getD i.toNat (dft tFact) = (c.2.2.2.1,(l.getD i.toNat (dft tFact)).2)
  rw [e2,← e3]
 ·rw [dF (p := (c.1 : Int) = 1) (neJ k (by decide)),dF (p := (c.1 : Int) = 2) (neJ k (by decide)),dT (p := (c.1 : Int) = 3) k] at hd
  obtain ⟨i,hi,hd⟩ := List.mem_flatMap.1 hd
  obtain ⟨j,hj,rfl⟩ := List.mem_map.1 hd
  obtain ⟨a,ha,e1,e2,e3⟩ := whoD hi
  obtain ⟨b,hb,f1,f2,f3⟩ := whoD hj
  refine ⟨rfl,fun x hx => ?_,.inr (.inr (.inl ⟨k,i,j,rfl,?_,?_⟩))⟩
  ·rcases List.mem_cons.1 hx with rfl | hx
   ·exact ⟨a,e1,ha⟩
   ·exact ⟨b,by rw [List.mem_singleton.1 hx]; exact f1,hb⟩
  ·show (l.getD i.toNat (dft tFact)).1 = c.2.2.2.1
   rw [e2]; exact e3
  ·show l.getD j.toNat (dft tFact) = (((l.getD i.toNat (dft tFact)).2,c.2.2.2.2.1.2),(l.getD j.toNat (dft tFact)).2)
   rw [f2,← f3]
 ·rw [dF (p := (c.1 : Int) = 1) (neJ k (by decide)),dF (p := (c.1 : Int) = 2) (neJ k (by decide)),dF (p := (c.1 : Int) = 3) (neJ k (by decide)),dT (p := (c.1 : Int) = 4) k] at hd
  obtain ⟨i,hi,hd⟩ := List.mem_flatMap.1 hd
  obtain ⟨a,ha,e1,e2,e3⟩ := whoD hi
  unfold der4 at hd
  by_cases hf : 0 ≤ findI (fun x => eqF x (c.2.2.2.2.1,(l.getD i.toNat (dft tFact)).2)) 0 l
  ·rw [dT hf] at hd
   have hd := List.mem_singleton.1 hd
   subst hd
   have fa : ∀ (p : Den tFact → Bool) (l : List (Den tFact)) (j : Nat),0 ≤ findI p j l → ∃ k : Nat,∃ hk : k < l.length,findI p j l = ((j + k : Nat) : Int) ∧ p l[k] = true := by
    intro p l
    induction l with
    | nil => intro j h; unfold findI at h; omega
    | cons x xs ih =>
     intro j h
     unfold findI at h ⊢
     cases hp : p x with
     | true => exact ⟨0,by simp,rfl,hp⟩
     | false =>
      rw [hp] at h
      obtain ⟨k,hk,h1,h2⟩ := ih (j + 1) h
      exact ⟨k + 1,by simpa using hk,by rw [cond_false,h1]; congr 1; omega,by simpa using h2⟩
   obtain ⟨b,hb,g1,g2⟩ := fa _ l 0 hf
   rw [Nat.zero_add] at g1
   rw [eqF_iff] at g2
   refine ⟨rfl,fun x hx => ?_,.inr (.inr (.inr ⟨k,i,_,rfl,?_,?_⟩))⟩
   ·rcases List.mem_cons.1 hx with rfl | hx
    ·exact ⟨a,e1,ha⟩
    ·exact ⟨b,by rw [List.mem_singleton.1 hx]; exact g1,hb⟩
   ·show l.getD i.toNat (dft tFact) = (c.2.2.2.1,(l.getD i.toNat (dft tFact)).2)
    rw [e2,← e3]
   ·show l.getD (findI (fun x => eqF x (c.2.2.2.2.1,(l.getD i.toNat (dft tFact)).2)) 0 l).toNat (dft tFact) = (c.2.2.2.2.1,(l.getD i.toNat (dft tFact)).2)
    rw [g1,getD_n hb]; exact g2
  ·rw [dF hf] at hd; cases hd
end Go.Proofs.Ytfmlmdnaeonobaa.C
namespace Go.Proofs.Ytfmlmdnaeonobaa.C
open Go Go.Proofs.Ytfmlmdnaeonobaa.Nx Go.RowKit
set_option linter.unusedVariables false
set_option linter.unusedSimpArgs false
def stF (list : List (Den tCred)) (x : Den tFoundV) : Den tStep := (list.getD x.2.1.toNat (dft tCred),x.1,x.2.2)
def GoodO (list : List (Den tCred)) (out : List (Den tFoundV)) : Prop := ∀ i (hi : i < out.length),(∃ k : Nat,(out[i]).2.1 = (k : Int) ∧ k < list.length) ∧ StepP (out.map (stF list)) i (stF list out[i])
theorem fact_at (list : List (Den tCred)) (out : List (Den tFoundV)) {k : Nat} (hk : k < out.length) : ((out.map (stF list)).getD k (dft tStep)).2.1 = (out[k]).1 := by
 rw [List.getD_eq_getElem?_getD,List.getElem?_map,List.getElem?_eq_getElem hk]; rfl
theorem addO_good {list : List (Den tCred)} {k : Nat} {c : Den tCred} (hk : k < list.length) (hlc : list.getD k (dft tCred) = c) (hc : credOk c = true) {out0 e : List (Den tFoundV)} {d : Den tDerived} (hd : d ∈ derI (fc out0) c) (hg : GoodO list (out0 ++ e)) :
  GoodO list (addO (k : Int) (out0 ++ e) d) := by
 unfold addO
 cases hasF (fc (out0 ++ e)) d.1 with
 | true => exact hg
 | false =>
  simp only [cond_false]
  intro i hi
  have hlen : ((out0 ++ e) ++ [(d.1,((k : Int),d.2))]).length = (out0 ++ e).length + 1 := by simp only [List.length_append,List.length_cons,List.length_nil]
  have same : ∀ m,m < (out0 ++ e).length → ((((out0 ++ e) ++ [(d.1,((k : Int),d.2))]).map (stF list)).getD m (dft tStep)).2.1 = (((out0 ++ e).map (stF list)).getD m (dft tStep)).2.1 := fun m hm => by
   rw [fact_at list _ (by omega),fact_at list _ hm,List.getElem_append_left hm]
  by_cases hil : i < (out0 ++ e).length
  ·obtain ⟨h1,h2⟩ := hg i hil
   rw [List.getElem_append_left hil]
   exact ⟨h1,h2.other (Nat.le_refl i) fun m hm => same m (by omega)⟩
  ·have hie : i = (out0 ++ e).length := by omega
   subst hie
   obtain ⟨d1,d2,d3⟩ := der_step hc hd
   have e1 : ((out0 ++ e) ++ [(d.1,((k : Int),d.2))])[(out0 ++ e).length] = (d.1,((k : Int),d.2)) := by simp
   rw [e1]
   refine ⟨⟨k,rfl,hk⟩,?_⟩
   have e2 : stF list (d.1,((k : Int),d.2)) = (c,d.1,d.2) := by
    unfold stF
    show (list.getD ((k : Int)).toNat (dft tCred),d.1,d.2) = _
    rw [Int.toNat_natCast,hlc]
   rw [e2]
   have hfl : (fc out0).length = out0.length := fc_len out0
   have hol : out0.length ≤ (out0 ++ e).length := by rw [List.length_append]; omega
   refine ⟨hc,d1,fun x hx => ?_,?_⟩
   ·obtain ⟨m,em,hm⟩ := d2 x hx
    exact ⟨m,em,by omega⟩
   ·have := stepG_map (g' := fun x => ((((out0 ++ e) ++ [(d.1,((k : Int),d.2))]).map (stF list)).getD x.toNat (dft tStep)).2.1) (m := id) (fun x hx => by
     obtain ⟨m,em,hm⟩ := d2 x hx
     subst em
     have hm0 : m < out0.length := by omega
     show ((((out0 ++ e) ++ [(d.1,((k : Int),d.2))]).map (stF list)).getD ((m : Int)).toNat (dft tStep)).2.1 = (fc out0).getD ((m : Int)).toNat (dft tFact)
     rw [Int.toNat_natCast,same m (by omega),fact_at list _ (by omega),List.getElem_append_left hm0]
     rw [List.getD_eq_getElem?_getD,List.getElem?_map,List.getElem?_eq_getElem hm0]; rfl) d3
    rw [List.map_id] at this
    exact this
theorem addO_ext (k : Int) (out0 e : List (Den tFoundV)) (d : Den tDerived) : ∃ e',addO k (out0 ++ e) d = out0 ++ e' := by
 unfold addO
 cases hasF (fc (out0 ++ e)) d.1 with
 | true => exact ⟨e,rfl⟩
 | false => exact ⟨e ++ [(d.1,(k,d.2))],by rw [cond_false,List.append_assoc]⟩
theorem foldO_good {list : List (Den tCred)} {k : Nat} {c : Den tCred} (hk : k < list.length) (hlc : list.getD k (dft tCred) = c) (hc : credOk c = true) {out0 : List (Den tFoundV)} : ∀ (ds : List (Den tDerived)),(∀ d ∈ ds,d ∈ derI (fc out0) c) → ∀ e,GoodO list (out0 ++ e) → GoodO list (ds.foldl (addO (k : Int)) (out0 ++ e))
 | [],_,e,h => h
 | d :: ds,hd,e,h => by
  rw [List.foldl_cons]
  have h1 := addO_good hk hlc hc (hd d (by simp)) h
  obtain ⟨e',he⟩ := addO_ext (k : Int) out0 e d
  rw [he] at h1 ⊢
  exact foldO_good hk hlc hc ds (fun x hx => hd x (by simp [hx])) e' h1
theorem passO_good {list : List (Den tCred)} : ∀ (cs : List (Den tCred)) (k : Nat) (out : List (Den tFoundV)),(∀ j (hj : j < cs.length),k + j < list.length ∧ list.getD (k + j) (dft tCred) = cs[j]) → GoodO list out → GoodO list (passO k out cs)
 | [],_,_,_,h => h
 | c :: cs,k,out,hl,h => by
  unfold passO
  refine passO_good cs (k + 1) _ (fun j hj => ?_) ?_
  ·have := hl (j + 1) (by simpa using hj)
   rw [show k + 1 + j = k + (j + 1) from by omega]
   simpa using this
  ·unfold stepO
   cases hc : credOk c with
   | false => exact h
   | true =>
    have h0 := hl 0 (by simp)
    have := foldO_good (out0 := out) h0.1 h0.2 hc (derI (fc out) c) (fun d hd => hd) [] (by rw [List.append_nil]; exact h)
    rw [List.append_nil] at this
    exact this
theorem closeO_good (list : List (Den tCred)) : ∀ (n : Nat) (out : List (Den tFoundV)),GoodO list out → GoodO list (closeO list n out)
 | 0,_,h => h
 | n + 1,out,h => by
  have h1 : GoodO list (passO 0 out list) := passO_good list 0 out (fun j hj => ⟨by omega,by rw [Nat.zero_add,List.getD_eq_getElem?_getD,List.getElem?_eq_getElem hj]; rfl⟩) h
  unfold closeO
  cases decide (out.length < (passO 0 out list).length)
  ·exact h1
  ·exact closeO_good list n _ h1
theorem foldF_same : ∀ (ds l : List (Den tFact)),(ds.foldl putF l).length ≤ l.length → ds.foldl putF l = l ∧ ∀ f ∈ ds,f ∈ l
 | [],l,_ => ⟨rfl,fun f h => by cases h⟩
 | d :: ds,l,h => by
  rw [List.foldl_cons] at h ⊢
  have h1 := foldF_len ds (putF l d)
  cases hb : hasF l d with
  | true =>
   have e : putF l d = l := by unfold putF; rw [hb]; rfl
   rw [e] at h ⊢
   obtain ⟨a,b⟩ := foldF_same ds l h
   refine ⟨a,fun f hf => ?_⟩
   rcases List.mem_cons.1 hf with rfl | hf
   ·exact hasF_iff.1 hb
   ·exact b f hf
  | false =>
   have e : (putF l d).length = l.length + 1 := by unfold putF; rw [hb]; simp
   omega
def closedL (list : List (Den tCred)) (l : List (Den tFact)) : Prop := ∀ c ∈ list,credOk c = true → ∀ f ∈ (derI l c).map (fun d => d.1),f ∈ l
theorem stepF_same {l : List (Den tFact)} {c : Den tCred} (h : (stepF l c).length ≤ l.length) : stepF l c = l ∧ (credOk c = true → ∀ f ∈ (derI l c).map (fun d => d.1),f ∈ l) := by
 unfold stepF at h ⊢
 cases hc : credOk c with
 | false => exact ⟨rfl,fun e => by cases e⟩
 | true =>
  rw [hc] at h
  obtain ⟨a,b⟩ := foldF_same _ l h
  exact ⟨a,fun _ => b⟩
theorem passF_same : ∀ (list : List (Den tCred)) (l : List (Den tFact)),(list.foldl stepF l).length ≤ l.length → list.foldl stepF l = l ∧ closedL list l
 | [],l,_ => ⟨rfl,fun c h => by cases h⟩
 | c :: cs,l,h => by
  rw [List.foldl_cons] at h ⊢
  have h1 := passF_len cs (stepF l c)
  obtain ⟨e1,e2⟩ := stepF_same (l := l) (c := c) (by omega)
  rw [e1] at h ⊢
  obtain ⟨a,b⟩ := passF_same cs l h
  refine ⟨a,fun x hx => ?_⟩
  rcases List.mem_cons.1 hx with rfl | hx
  ·exact e2
  ·exact b x hx
theorem closeF_closed (list : List (Den tCred)) : ∀ (n : Nat) (l : List (Den tFact)),OkL l → 145 ≤ l.length + n → closedL list (closeF list n l)
 | 0,l,h,hn => by have := h.len; omega
 | n + 1,l,h,hn => by
  unfold closeF
  by_cases hg : l.length < (list.foldl stepF l).length
  ·rw [dT hg]
   exact closeF_closed list n _ (passF_ok list l h) (by omega)
  ·rw [dF hg]
   obtain ⟨a,b⟩ := passF_same list l (by omega)
   rw [a]; exact b
theorem proved_mem {K : List (Den tStep)} (hK : ∀ i (hi : i < K.length),StepP K i K[i]) {used : List (Den tCred)} (hu : ∀ i (hi : i < K.length),(K[i]).1 ∈ used) {l : List (Den tFact)} (hl : closedL used l) : ∀ i (hi : i < K.length),(K[i]).2.1 ∈ l := by
 intro i
 induction i using Nat.strongRecOn with
 | _ i ih =>
  intro hi
  have h := hK i hi
  refine hl _ (hu i hi) h.ok _ (der_mem (g := fun x => (K.getD x.toNat (dft tStep)).2.1) (fr := (K[i]).2.2) h.ok h.of (fun x hx => ?_) h.g)
  obtain ⟨k,e,hk⟩ := h.fr x hx
  subst e
  have hk2 : k < K.length := by omega
  have e2 : (K.getD ((k : Int)).toNat (dft tStep)) = K[k] := by rw [Int.toNat_natCast,List.getD_eq_getElem?_getD,List.getElem?_eq_getElem hk2]; rfl
  show (K.getD ((k : Int)).toNat (dft tStep)).2.1 ∈ l
  rw [e2]; exact ih k hk hk2
end Go.Proofs.Ytfmlmdnaeonobaa.C
namespace Go.Proofs.Ytfmlmdnaeonobaa.C
open Go Go.Proofs.Ytfmlmdnaeonobaa.Nx Go.RowKit
set_option linter.unusedVariables false
set_option linter.unusedSimpArgs false
def markA (F need : List Int) : List Int := F.foldl (fun a x => a.set x.toNat 1) need
theorem markA_len : ∀ (F need : List Int),(markA F need).length = need.length
 | [],_ => rfl
 | x :: F,need => by unfold markA; rw [List.foldl_cons]; exact (markA_len F _).trans (List.length_set ..)
theorem set_getD (l : List Int) (k m : Nat) (h : k < l.length) : (l.set k 1).getD m 0 = if k = m then 1 else l.getD m 0 := by
 rw [List.getD_eq_getElem?_getD,List.getD_eq_getElem?_getD,List.getElem?_set]
 split
 ·first | rfl | (rw [if_pos (by omega)]; rfl)
 ·rfl
theorem markA_keep : ∀ (F need : List Int) (m : Nat),(∀ x ∈ F,x.toNat < need.length) → need.getD m 0 ≠ 0 → (markA F need).getD m 0 ≠ 0
 | [],_,_,_,h => h
 | x :: F,need,m,hF,h => by
  unfold markA
  rw [List.foldl_cons]
  refine markA_keep F _ m (fun y hy => by rw [List.length_set]; exact hF y (by simp [hy])) ?_
  rw [set_getD _ _ _ (hF x (by simp))]
  split
  ·decide
  ·exact h
theorem markA_hit : ∀ (F need : List Int),(∀ x ∈ F,x.toNat < need.length) → ∀ x ∈ F,(markA F need).getD x.toNat 0 ≠ 0
 | y :: F,need,hF,x,hx => by
  unfold markA
  rw [List.foldl_cons]
  have hF' : ∀ z ∈ F,z.toNat < (need.set y.toNat 1).length := fun z hz => by rw [List.length_set]; exact hF z (by simp [hz])
  rcases List.mem_cons.1 hx with rfl | hx
  ·refine markA_keep F _ _ hF' ?_
   rw [set_getD _ _ _ (hF x (by simp)),if_pos rfl]; decide
  ·exact markA_hit F _ hF' x hx
theorem markA_out : ∀ (F need : List Int) (m : Nat),(∀ x ∈ F,x.toNat < need.length ∧ x.toNat ≠ m) → (markA F need).getD m 0 = need.getD m 0
 | [],_,_,_ => rfl
 | x :: F,need,m,hF => by
  unfold markA
  rw [List.foldl_cons]
  refine (markA_out F _ m (fun y hy => by rw [List.length_set]; exact hF y (by simp [hy]))).trans ?_
  rw [set_getD _ _ _ (hF x (by simp)).1,if_neg (hF x (by simp)).2]
theorem kept_L2 {N : Nat} (hN : Big N) {kx kr} (S : List (Den tStep)) (need : List Int) (s4 : Int) (F : List Int) (hF2 : F.length ≤ 1000) (hF : ∀ x ∈ F,∃ k : Nat,x = (k : Int) ∧ k < need.length) :
  iter (B_f12_L2 (Ω := List (Den tStep)) N kx kr) N (S,need,s4,F,(F.length : Int),(0:Int)) = kx (S,markA F need,s4) := by
 have hN' := n40f hN
 have key := iter_to (B := B_f12_L2 (Ω := List (Den tStep)) N kx kr) (A := List Int) (fun i a => (S,a,s4,F,(F.length : Int),(i : Int))) (fun i a q => a.length = need.length → q = kx (S,markA (F.drop i) a,s4)) F.length
  (fun i a rec_ hi ih ha => by
   obtain ⟨k,e,hk⟩ := hF _ (List.getElem_mem hi)
   show (bif _ then _ else _) = _
   rw [lt_rows F hi,le_rows i,getD_at F hi,w64_up (Nat.le_refl i) (by omega),drop_cons hi,e,le_rows k,lt_rows a (by omega : k < a.length)]
   simp only [Bool.and_self,cond_true]
   have := ih (a.set ((k : Int)).toNat 1) (by rw [List.length_set]; exact ha)
   exact this)
  (fun a rec_ ha => by
   show (bif _ then _ else _) = _
   rw [dF (Int.lt_irrefl _),List.drop_length]; rfl)
  N (by omega) need
 exact key rfl
def InvN (S : List (Den tStep)) (j : Nat) (need : List Int) : Prop := ∀ i (hi : i < S.length),j ≤ i → (i = S.length - 1 ∨ need.getD i 0 ≠ 0) → need.getD i 0 ≠ 0 ∧ ∀ x ∈ (S[i]).2.2,need.getD x.toNat 0 ≠ 0
theorem kept_L0 {N : Nat} (hN : Big N) {kx kr} (S : List (Den tStep)) (hS : ∀ i (hi : i < S.length),StepP S i S[i]) (hn : S.length ≤ 1000) : ∀ (j : Nat) (need : List Int),need.length = S.length → j ≤ S.length → InvN S j need → ∀ M,j < M →
  ∃ need',iter (B_f12_L0 (Ω := List (Den tStep)) N kx kr) M (S,need,(j : Int) - 1) = kx (S,need') ∧ need'.length = S.length ∧ InvN S 0 need'
 | 0,need,hl,hj,hI,M,hM => by
  obtain ⟨M,rfl⟩ : ∃ m,M = m + 1 := ⟨M - 1,by omega⟩
  exact ⟨need,rfl,hl,hI⟩
 | j + 1,need,hl,hj,hI,M,hM => by
  obtain ⟨M,rfl⟩ : ∃ m,M = m + 1 := ⟨M - 1,by omega⟩
  have hjs : j < S.length := by omega
  have hjn : j < need.length := by omega
  have e : ((j + 1 : Nat) : Int) - 1 = (j : Int) := by omega
  have hP := hS j hjs
  have hFr : ∀ x ∈ (S[j]).2.2,∃ k : Nat,x = (k : Int) ∧ k < (need.set j 1).length := fun x hx => by
   obtain ⟨k,e,hk⟩ := hP.fr x hx
   exact ⟨k,e,by rw [List.length_set]; omega⟩
  have h2 := stepG_two hP.g
  have go : ∃ need',iter (B_f12_L2 (Ω := List (Den tStep)) N (fun (x1,x2,x3) => iter (B_f12_L0 (Ω := List (Den tStep)) N kx kr) M (x1,x2,(wrap64 (x3 - (1:Int))))) (fun ρ4 => kr (ρ4))) N (S,need.set j 1,(j : Int),(S[j]).2.2,((S[j]).2.2.length : Int),(0:Int)) = kx (S,need') ∧ need'.length = S.length ∧ InvN S 0 need' := by
   rw [kept_L2 hN S (need.set j 1) (j : Int) (S[j]).2.2 (by omega) hFr]
   simp only
   rw [w64_sub1 (by omega : j ≤ 140737488355328)]
   have hlt : ∀ x ∈ (S[j]).2.2,x.toNat < (need.set j 1).length := fun x hx => by
    obtain ⟨k,e,hk⟩ := hFr x hx
    rw [e,Int.toNat_natCast]; exact hk
   refine kept_L0 hN S hS hn j _ (by rw [markA_len,List.length_set]; exact hl) (by omega) (fun i hi hji hd => ?_) M (by omega)
   by_cases hij : i = j
   ·subst hij
    refine ⟨markA_keep _ _ _ hlt ?_,fun x hx => markA_hit _ _ hlt x hx⟩
    rw [set_getD _ _ _ hjn,if_pos rfl]; decide
   ·have hsame : (markA (S[j]).2.2 (need.set j 1)).getD i 0 = need.getD i 0 := by
     rw [markA_out _ _ _ (fun x hx => ⟨hlt x hx,fun e2 => by
      obtain ⟨k,e3,hk⟩ := hP.fr x hx
      rw [e3,Int.toNat_natCast] at e2
      omega⟩),set_getD _ _ _ hjn,if_neg (by omega)]
    rw [hsame] at hd ⊢
    obtain ⟨a,b⟩ := hI i hi (by omega) hd
    refine ⟨a,fun x hx => markA_keep _ _ _ hlt ?_⟩
    rw [set_getD _ _ _ hjn]
    split
    ·decide
    ·exact b x hx
  show ∃ need',(bif _ then _ else _) = _ ∧ _
  rw [e,dT (p := (0:Int) ≤ (j : Int)) (by omega),w64_sub1 (by omega : S.length ≤ 140737488355328),lt_rows need hjn,getD_at need hjn,lt_rows S hjs,getD_at S hjs,w64_sub1 (by omega : j ≤ 140737488355328),Int.toNat_natCast]
  simp only [Bool.and_self,cond_true]
  by_cases hlast : (j : Int) < (S.length : Int) - 1
  ·rw [dT hlast]
   simp only [cond_true]
   by_cases h0 : need[j] = 0
   ·rw [dT (p := (need[j] : Int) = 0) h0]
    simp only [cond_true]
    refine kept_L0 hN S hS hn j need hl (by omega) (fun i hi hji hd => ?_) M (by omega)
    by_cases hij : i = j
    ·subst hij
     rcases hd with hd | hd
     ·omega
     ·rw [List.getD_eq_getElem?_getD,List.getElem?_eq_getElem hjn] at hd
      exact absurd h0 hd
    ·exact hI i hi (by omega) hd
   ·rw [dF (p := (need[j] : Int) = 0) h0]
    simp only [cond_false]
    exact go
  ·rw [dF hlast]
   simp only [cond_false]
   exact go
theorem kept_L6 {N : Nat} (hN : Big N) {kx kr} (need place : List Int) (out S : List (Den tStep)) (c : Den tCred) (f : Den tFact) (s58 s59 : Int) (F : List Int) (hF2 : F.length ≤ 1000) (hF : ∀ x ∈ F,∃ k : Nat,x = (k : Int) ∧ k < place.length) :
  iter (B_f12_L6 (Ω := List (Den tStep)) N kx kr) N (need,place,out,(c,f,[]),S,s58,s59,F,(F.length : Int),(0:Int)) = kx (need,place,out,(c,f,F.map fun k => place.getD k.toNat 0),S,s58,s59) := by
 have hN' := n40f hN
 have key := iter_to (B := B_f12_L6 (Ω := List (Den tStep)) N kx kr) (A := List Int) (fun i a => (need,place,out,(c,f,a),S,s58,s59,F,(F.length : Int),(i : Int))) (fun i a q => a.length ≤ i → q = kx (need,place,out,(c,f,a ++ (F.drop i).map fun k => place.getD k.toNat 0),S,s58,s59)) F.length
  (fun i a rec_ hi ih ha => by
   obtain ⟨k,e,hk⟩ := hF _ (List.getElem_mem hi)
   show (bif _ then _ else _) = _
   rw [lt_rows F hi,le_rows i,getD_at F hi,w64_up (Nat.le_refl i) (by omega),drop_cons hi,e,le_rows k,lt_rows place hk]
   simp only [Bool.and_self,cond_true,List.length_cons,List.length_nil]
   rw [dT (p := (a.length + (0 + 1)) * 8 ≤ 140737488355328) (by omega)]
   have := ih (a ++ [place.getD ((k : Int)).toNat 0]) (by simp only [List.length_append,List.length_cons,List.length_nil]; omega)
   rw [List.append_assoc] at this
   exact this)
  (fun a rec_ ha => by
   show (bif _ then _ else _) = _
   rw [dF (Int.lt_irrefl _),List.drop_length]; simp)
  N (by omega) []
 exact key (by simp)
structure Inv4 (S : List (Den tStep)) (need : List Int) (i : Nat) (place : List Int) (out : List (Den tStep)) : Prop where
 pl : place.length = S.length
 le : out.length ≤ i
 at_ : ∀ m,m < i → need.getD m 0 ≠ 0 → ∃ p : Nat,place.getD m 0 = (p : Int) ∧ p < out.length ∧ (out.getD p (dft tStep)).2.1 = (S.getD m (dft tStep)).2.1
 ok : ∀ q (hq : q < out.length),StepP out q out[q] ∧ ∃ m,m < S.length ∧ (out[q]).1 = (S.getD m (dft tStep)).1
 last : ∀ m,m + 1 = i → need.getD m 0 ≠ 0 → 0 < out.length ∧ (out.getD (out.length - 1) (dft tStep)).2.1 = (S.getD m (dft tStep)).2.1
theorem Inv4.skip {S : List (Den tStep)} {need place : List Int} {i : Nat} {out : List (Den tStep)} (h : Inv4 S need i place out) (h0 : need.getD i 0 = 0) : Inv4 S need (i + 1) place out := by
 refine ⟨h.pl,by have := h.le; omega,fun m hm hne => ?_,h.ok,fun m hm hne => ?_⟩
 ·by_cases e : m = i
  ·subst e; exact absurd h0 hne
  ·exact h.at_ m (by omega) hne
 ·have : m = i := by omega
  subst this; exact absurd h0 hne
theorem Inv4.add {S : List (Den tStep)} {need place : List Int} {i : Nat} {out : List (Den tStep)} (hi : i < S.length) (hP : StepP S i S[i]) (hnd : ∀ x ∈ (S[i]).2.2,need.getD x.toNat 0 ≠ 0) (h : Inv4 S need i place out) :
  Inv4 S need (i + 1) (place.set i (out.length : Int)) (out ++ [((S[i]).1,(S[i]).2.1,(S[i]).2.2.map fun k => (place.set i (out.length : Int)).getD k.toNat 0)]) := by
 have hSi : S.getD i (dft tStep) = S[i] := by rw [List.getD_eq_getElem?_getD,List.getElem?_eq_getElem hi]; rfl
 have pset : ∀ m,m ≠ i → (place.set i (out.length : Int)).getD m 0 = place.getD m 0 := fun m hm => by
  rw [List.getD_eq_getElem?_getD,List.getD_eq_getElem?_getD,List.getElem?_set_ne (fun e => hm e.symm)]
 have pself : (place.set i (out.length : Int)).getD i 0 = (out.length : Int) := by
  rw [List.getD_eq_getElem?_getD,List.getElem?_set_self (by rw [h.pl]; exact hi)]; rfl
 generalize hnx : ((S[i]).1,(S[i]).2.1,(S[i]).2.2.map fun k => (place.set i (out.length : Int)).getD k.toNat 0) = nx
 have oldD : ∀ p,p < out.length → (out ++ [nx]).getD p (dft tStep) = out.getD p (dft tStep) := fun p hp => by
  rw [List.getD_eq_getElem?_getD,List.getD_eq_getElem?_getD,List.getElem?_append_left hp]
 have newD : (out ++ [nx]).getD out.length (dft tStep) = nx := by
  rw [List.getD_eq_getElem?_getD,List.getElem?_append_right (Nat.le_refl _),Nat.sub_self]; rfl
 have hlen : (out ++ [nx]).length = out.length + 1 := by simp
 have nx1 : nx.1 = (S[i]).1 := by rw [← hnx]
 have nx2 : nx.2.1 = (S[i]).2.1 := by rw [← hnx]
 refine ⟨by rw [List.length_set]; exact h.pl,by rw [hlen]; have := h.le; omega,fun m hm hne => ?_,fun q hq => ?_,fun m hm hne => ?_⟩
 ·by_cases e : m = i
  ·subst e
   exact ⟨out.length,pself,by omega,by rw [newD,nx2,hSi]⟩
  ·obtain ⟨p,p1,p2,p3⟩ := h.at_ m (by omega) hne
   exact ⟨p,by rw [pset m e]; exact p1,by omega,by rw [oldD p p2]; exact p3⟩
 ·by_cases hql : q < out.length
  ·obtain ⟨a,b⟩ := h.ok q hql
   rw [List.getElem_append_left hql]
   exact ⟨a.other (Nat.le_refl q) fun k hk => by rw [oldD k (by omega)],b⟩
  ·have : q = out.length := by omega
   subst this
   have e1 : (out ++ [nx])[out.length] = nx := by simp
   rw [e1]
   refine ⟨⟨by rw [nx1]; exact hP.ok,by rw [nx1,nx2]; exact hP.of,fun x hx => ?_,?_⟩,i,hi,by rw [nx1,hSi]⟩
   ·have hx : x ∈ (S[i]).2.2.map fun k => (place.set i (out.length : Int)).getD k.toNat 0 := by rw [← hnx] at hx; exact hx
    obtain ⟨y,hy,rfl⟩ := List.mem_map.1 hx
    obtain ⟨k,ek,hk⟩ := hP.fr y hy
    subst ek
    obtain ⟨p,p1,p2,p3⟩ := h.at_ k hk (by have := hnd _ hy; rwa [Int.toNat_natCast] at this)
    exact ⟨p,by show (place.set i (out.length : Int)).getD ((k : Int)).toNat 0 = _; rw [Int.toNat_natCast,pset k (by omega)]; exact p1,p2⟩
   ·have := stepG_map (g' := fun x => ((out ++ [nx]).getD x.toNat (dft tStep)).2.1) (m := fun k => (place.set i (out.length : Int)).getD k.toNat 0) (fun y hy => by
     obtain ⟨k,ek,hk⟩ := hP.fr y hy
     subst ek
     obtain ⟨p,p1,p2,p3⟩ := h.at_ k hk (by have := hnd _ hy; rwa [Int.toNat_natCast] at this)
     show ((out ++ [nx]).getD ((place.set i (out.length : Int)).getD ((k : Int)).toNat 0).toNat (dft tStep)).2.1 = (S.getD ((k : Int)).toNat (dft tStep)).2.1
     rw [Int.toNat_natCast,pset k (by omega),p1,Int.toNat_natCast,oldD p p2]; exact p3) hP.g
    rw [hnx] at this
    exact this
 ·have : m = i := by omega
  subst this
  refine ⟨by omega,?_⟩
  rw [show (out ++ [nx]).length - 1 = out.length from by omega,newD,nx2,hSi]
theorem kept_ok {N : Nat} (hN : Big N) (S : List (Den tStep)) (hS : ∀ i (hi : i < S.length),StepP S i S[i]) (h1 : 1 ≤ S.length) (hn : S.length ≤ 1000) :
  ∃ K,x_f12 N S = some K ∧ K.length ≤ S.length ∧ 0 < K.length ∧ (K.getD (K.length - 1) (dft tStep)).2.1 = (S.getD (S.length - 1) (dft tStep)).2.1 ∧ ∀ q (hq : q < K.length),StepP K q K[q] ∧ ∃ m,m < S.length ∧ (K[q]).1 = (S.getD m (dft tStep)).1 := by
 have hN' := n40f hN
 unfold x_f12
 rw [dT (p := (S.length : Int) = (S.length : Int)) rfl,dT (p := (0:Int) ≤ (S.length : Int)) (by omega),dT (p := (S.length : Int) * (8 : Nat) ≤ 140737488355328) (by omega),dT (p := (S.length : Int) ≤ 9223372036854775807) (by omega)]
 simp only [Bool.and_self,cond_true]
 rw [w64_sub1 (by omega : S.length ≤ 140737488355328)]
 generalize hT : (fun (x : List (Den tStep) × List Int) => _) = T
 obtain ⟨need,e,hl,hI⟩ := kept_L0 (kx := T) (kr := fun ρ21 => some ρ21) hN S hS hn S.length (List.replicate (S.length : Int).toNat (0:Int)) (by simp) (Nat.le_refl _) (fun i hi hji _ => by omega) N (by omega)
 have e' : iter (B_f12_L0 N T (fun ρ21 => some ρ21)) N (S,List.replicate (S.length : Int).toNat (0:Int),(S.length : Int) - 1) = T (S,need) := e
 rw [e',← hT]
 simp only [decide_true,Bool.true_and]
 rw [dT (p := (0:Int) ≤ (S.length : Int)) (by omega),dT (p := (S.length : Int) * (8 : Nat) ≤ 140737488355328) (by omega),dT (p := (S.length : Int) ≤ 9223372036854775807) (by omega)]
 simp only [Bool.and_self,cond_true]
 have key := iter_to (B := B_f12_L4 N (fun x19 => some x19) (fun ρ20 => some (ρ20))) (A := List Int × List (Den tStep)) (fun i a => (need,a.1,a.2,S,(S.length : Int),(i : Int))) (fun i a r => Inv4 S need i a.1 a.2 → ∃ K place,r = some K ∧ Inv4 S need S.length place K) S.length
  (fun i a rec_ hi ih ha => by
   obtain ⟨place,out⟩ := a
   simp only at ha
   have hpl := ha.pl
   have hle := ha.le
   have hin : i < need.length := by omega
   have hip : i < place.length := by omega
   have hP := hS i hi
   have h2 := stepG_two hP.g
   have hgd : need.getD i 0 = need[i] := by rw [List.getD_eq_getElem?_getD,List.getElem?_eq_getElem hin]; rfl
   have eta : ∀ s : Den tStep,(((s.1.1,(s.1.2.1.1,s.1.2.1.2),s.1.2.2.1,(s.1.2.2.2.1.1,s.1.2.2.2.1.2),(s.1.2.2.2.2.1.1,s.1.2.2.2.2.1.2),s.1.2.2.2.2.2.1,s.1.2.2.2.2.2.2),((s.2.1.1.1,s.2.1.1.2),s.2.1.2),[]) : Den tStep) = (s.1,s.2.1,[]) := fun _ => rfl
   show ∃ K place,(bif _ then _ else _) = _ ∧ _
   rw [lt_rows S hi,le_rows i,lt_rows need hin,getD_at need hin,getD_at S hi,lt_rows place hip,Int.toNat_natCast]
   simp only [Bool.and_self,cond_true,eta]
   by_cases h0 : need[i] = 0
   ·rw [dT (p := (need[i] : Int) = 0) h0]
    simp only [cond_true]
    rw [w64_up (Nat.le_refl i) (by omega)]
    exact ih (place,out) (ha.skip (by rw [hgd]; exact h0))
   ·rw [dF (p := (need[i] : Int) = 0) h0]
    simp only [cond_false]
    have hnd := (hI i hi (Nat.zero_le _) (.inr (by rw [hgd]; exact h0))).2
    rw [kept_L6 hN need (place.set i (out.length : Int)) out S (S[i]).1 (S[i]).2.1 _ _ (S[i]).2.2 (by omega) (fun x hx => by
     obtain ⟨k,ek,hk⟩ := hP.fr x hx
     exact ⟨k,ek,by rw [List.length_set]; omega⟩)]
    simp only [List.length_cons,List.length_nil]
    rw [dT (p := (out.length + (0 + 1)) * 128 ≤ 140737488355328) (by omega),w64_up (Nat.le_refl i) (by omega)]
    exact ih (_,_) (ha.add hi hP hnd))
  (fun a rec_ ha => by
   show ∃ K place,(bif _ then _ else _) = _ ∧ _
   rw [dF (Int.lt_irrefl _)]
   exact ⟨a.2,a.1,rfl,ha⟩)
  N (by omega) (List.replicate (S.length : Int).toNat (0:Int),[])
 obtain ⟨K,place,e2,hK⟩ := key ⟨by simp,Nat.zero_le _,fun m hm => absurd hm (by omega),fun q hq => absurd hq (by simp),fun m hm => absurd hm (by omega)⟩
 have hlast := hI (S.length - 1) (by omega) (Nat.zero_le _) (.inl rfl)
 obtain ⟨a,b⟩ := hK.last (S.length - 1) (by omega) hlast.1
 exact ⟨K,e2,hK.le,a,b,hK.ok⟩
end Go.Proofs.Ytfmlmdnaeonobaa.C
namespace Go.Proofs.Ytfmlmdnaeonobaa.C
open Go Go.Proofs.Ytfmlmdnaeonobaa.Nx Go.RowKit
set_option linter.unusedVariables false
set_option linter.unusedSimpArgs false
theorem role_ok (N : Nat) (c : Den tL01Cur) (h : okC c) : ∃ r c',x_f34 N c = some (r,c') ∧ okC c' := by
 obtain ⟨a,c1,e1,_,_,h1⟩ := below_ok N c h 3 (by omega)
 obtain ⟨b,c2,e2,_,_,h2⟩ := below_ok N c1 h1 2 (by omega)
 unfold x_f34
 simp only [e1,e2,Option.bind_some]
 exact ⟨_,_,rfl,h2⟩
theorem cred_ok (N : Nat) (c : Den tL01Cur) (h : okC c) : ∃ r c',x_f33 N c = some (r,c') ∧ okC c' := by
 obtain ⟨k,c1,e1,_,h1⟩ := pick_ok N c h [(1:Int),(1:Int),(2:Int),(3:Int),(4:Int)] (by simp)
 obtain ⟨r,c2,e2,h2⟩ := role_ok N c1 h1
 obtain ⟨u,c3,e3,_,h3⟩ := pick_ok N c2 h2 [(5:Int),(50:Int),(9999:Int),(2:Int)] (by simp)
 obtain ⟨x,c4,e4,_,_,h4⟩ := below_ok N c3 h3 2 (by omega)
 obtain ⟨w,c5,e5,_,_,h5⟩ := below_ok N c4 h4 6 (by omega)
 obtain ⟨a,c6,e6,h6⟩ := role_ok N c4 h4
 obtain ⟨b,c7,e7,_,_,h7⟩ := below_ok N c6 h6 2 (by omega)
 obtain ⟨d,c8,e8,h8⟩ := role_ok N c6 h6
 unfold x_f33
 simp only [e1,e2,e3,e4,e5,e6,e7,e8,Option.bind_some]
 cases decide (k = 1) with
 | true => exact ⟨_,_,rfl,h5⟩
 | false =>
  cases decide (k = 2) with
  | true => exact ⟨_,_,rfl,h6⟩
  | false =>
   cases decide (k = 3) with
   | true => exact ⟨_,_,rfl,h7⟩
   | false =>
    cases decide (k = 4) with
    | true => exact ⟨_,_,rfl,h8⟩
    | false => exact ⟨_,_,rfl,h4⟩
theorem creds_loop (N : Nat) : ∀ (n i : Nat) (c : Den tL01Cur) (out : List (Den tCred)),okC c → 9 ≤ i + n → i ≤ 9 → out.length ≤ i → ∀ M,n < M →
  ∃ l c',iter (B_f35_L0 N (fun (x3,x4) => some (x4,x3)) (fun ρ5 => some (ρ5))) M (c,out,(i : Int)) = some (l,c') ∧ List.length (α := Den tCred) l ≤ 10 ∧ okC c'
 | n,i,c,out,hc,hn,hi,ho,M,hM => by
  obtain ⟨M,rfl⟩ : ∃ m,M = m + 1 := ⟨M - 1,by omega⟩
  obtain ⟨x,c1,e1,x0,x1,h1⟩ := below_ok N c hc 9 (by omega)
  obtain ⟨r,c2,e2,h2⟩ := cred_ok N c1 h1
  show ∃ l c',(Option.bind _ _) = _ ∧ _
  rw [e1,Option.bind_some]
  simp only [e2,Option.bind_some,List.length_cons,List.length_nil]
  rw [show wrap64 ((1:Int) + x) = 1 + x from w64 (by omega) (by omega),dT (p := (out.length + (0 + 1)) * 80 ≤ 140737488355328) (by omega),w64_up (Nat.le_refl i) (by omega)]
  by_cases hlt : (i : Int) < 1 + x
  ·rw [dT hlt]
   cases n with
   | zero => omega
   | succ n => exact creds_loop N n (i + 1) c2 (out ++ [r]) h2 (by omega) (by omega) (by simp only [List.length_append,List.length_cons,List.length_nil]; omega) M (by omega)
  ·rw [dF hlt]
   exact ⟨_,_,rfl,by omega,h1⟩
theorem words_ok {N : Nat} (hN : Big N) (code : List Int) (hL : code.length ≤ 1048576) : ∃ l,x_f23 N code = some l ∧ l.length ≤ 10 := by
 have hN' := n40f hN
 unfold x_f23 x_f35
 obtain ⟨c,e,hc⟩ := new_ok hN code hL
 rw [e,Option.bind_some]
 obtain ⟨l,c',e2,hl,_⟩ := creds_loop N 9 0 c [] hc (by omega) (by omega) (by simp) N (by omega)
 have e3 : iter (B_f35_L0 N (fun (x3,x4) => some (x4,x3)) (fun ρ5 => some (ρ5))) N (c,[],(0:Int)) = some (l,c') := e2
 rw [e3]
 exact ⟨_,rfl,hl⟩
theorem impl_ProofOf {N : Nat} (hN : Big N) (list : List (Den tCred)) (hl : list.length ≤ 1048576) (t : Nat) (ht : t < (closeO list 145 []).length) (hg : GoodO list (closeO list 145 [])) (hlen : (closeO list 145 []).length ≤ 144) (hnd : ∀ m (hm : m < (closeO list 145 []).length),m < t → ((closeO list 145 [])[m]).1 ≠ ((closeO list 145 [])[t]).1)
  (r : Den tRole) (w : Int) (hf : ((closeO list 145 [])[t]).1 = (r,w)) : x_f2 N list r w = (x_f12 N (((closeO list 145 []).take (t + 1)).map (stF list))).bind fun K => some (K,true) := by
 have hN' := n40f hN
 unfold x_f2
 rw [impl_findFacts hN list hl,Option.bind_some]
 generalize closeO list 145 [] = out at ht hg hlen hnd hf
 have key := iter_to (B := B_f2_L0 N (fun _ => some ([],false)) (fun ρ3 => some (ρ3))) (A := List (Den tStep)) (fun i a => (list,w,r,a,out,(out.length : Int),(i : Int))) (fun i a q => i ≤ t → a = (out.take i).map (stF list) → q = (x_f12 N ((out.take (t + 1)).map (stF list))).bind fun K => some (K,true)) out.length
  (fun i a rec_ hi ih hit ha => by
   obtain ⟨⟨k,ek,hk⟩,_⟩ := hg i hi
   have hal : a.length ≤ 144 := by rw [ha,List.length_map,List.length_take]; omega
   have eta : ∀ (c : Den tCred) (f : Den tFact) (fr : List Int),(((c.1,(c.2.1.1,c.2.1.2),c.2.2.1,(c.2.2.2.1.1,c.2.2.2.1.2),(c.2.2.2.2.1.1,c.2.2.2.2.1.2),c.2.2.2.2.2.1,c.2.2.2.2.2.2),((f.1.1,f.1.2),f.2),fr) : Den tStep) = (c,f,fr) := fun _ _ _ => rfl
   have hst : ((list.getD ((k : Int)).toNat (dft tCred),(out[i]).1,(out[i]).2.2) : Den tStep) = stF list out[i] := by unfold stF; rw [ek]
   have hnx : a ++ [stF list out[i]] = (out.take (i + 1)).map (stF list) := by
    rw [ha,List.take_add_one,List.getElem?_eq_getElem hi,List.map_append]; rfl
   show (bif _ then _ else _) = _
   rw [lt_rows out hi,le_rows i,getD_at out hi]
   simp only [Bool.and_self,cond_true,eta,ek,le_rows k,lt_rows list hk,List.length_cons,List.length_nil]
   rw [hst,hnx,dT (p := (a.length + (0 + 1)) * 128 ≤ 140737488355328) (by omega),w64_up (Nat.le_refl i) (by omega)]
   simp only [cond_true]
   change (bif eqF (out[i]).1 (r,w) then _ else _) = _
   by_cases hti : i = t
   ·subst hti
    rw [eqF_iff.2 hf]
    rfl
   ·have hne : eqF (out[i]).1 (r,w) = false := by
     cases hb : eqF (out[i]).1 (r,w) with
     | false => rfl
     | true => exact absurd ((eqF_iff.1 hb).trans hf.symm) (hnd i hi (by omega))
    rw [hne]
    exact ih _ (by omega) rfl)
  (fun a rec_ hit _ => by omega)
  N (by omega) []
 exact key (Nat.zero_le _) rfl
theorem proofOf_none {N : Nat} (hN : Big N) (list : List (Den tCred)) (hl : list.length ≤ 1048576) (h0 : (closeO list 145 []).length = 0) (r : Den tRole) (w : Int) : x_f2 N list r w = some ([],false) := by
 have hN' := n40f hN
 unfold x_f2
 rw [impl_findFacts hN list hl,Option.bind_some]
 have e : closeO list 145 [] = [] := List.length_eq_zero_iff.1 h0
 rw [e]
 obtain ⟨M,rfl⟩ : ∃ M,N = M + 1 := ⟨N - 1,by omega⟩
 rfl
theorem hasC_of {acc : List (Den tCred)} {c : Den tCred} (h : hasC acc c = true) : c ∈ acc := by
 unfold hasC at h
 rw [List.any_eq_true] at h
 obtain ⟨x,hx,he⟩ := h
 unfold credEq at he
 simp only [Bool.and_eq_true,decide_eq_true_eq] at he
 obtain ⟨a1,a2,a3,a4,a5,a6,a7,a8,a9,a10⟩ := he
 have : x = c := by
  obtain ⟨b1,⟨b2,b3⟩,b4,⟨b5,b6⟩,⟨b7,b8⟩,b9,b10⟩ := x
  obtain ⟨d1,⟨d2,d3⟩,d4,⟨d5,d6⟩,⟨d7,d8⟩,d9,d10⟩ := c
  simp only at a1 a2 a3 a4 a5 a6 a7 a8 a9 a10
  subst a1 a2 a3 a4 a5 a6 a7 a8 a9 a10
  rfl
 rw [← this]; exact hx
theorem hasC_mem {acc : List (Den tCred)} {c : Den tCred} (h : c ∈ acc) : hasC acc c = true := by
 unfold hasC
 rw [List.any_eq_true]
 exact ⟨c,h,by unfold credEq; simp⟩
theorem credsF_acc : ∀ (L : List (Den tStep)) (acc : List (Den tCred)),∀ c ∈ acc,c ∈ credsF acc L
 | [],acc,c,h => h
 | s :: ss,acc,c,h => by
  rw [credsF_cons]
  refine credsF_acc ss _ c ?_
  cases hasC acc s.1
  ·exact List.mem_append_left _ h
  ·exact h
theorem credsF_has : ∀ (L : List (Den tStep)) (acc : List (Den tCred)),∀ s ∈ L,s.1 ∈ credsF acc L
 | [],_,s,h => by cases h
 | x :: xs,acc,s,h => by
  rw [credsF_cons]
  rcases List.mem_cons.1 h with rfl | h
  ·refine credsF_acc xs _ _ ?_
   cases hb : hasC acc s.1
   ·simp
   ·exact hasC_of hb
  ·exact credsF_has xs _ s h
theorem credsF_from : ∀ (L : List (Den tStep)) (acc : List (Den tCred)),∀ c ∈ credsF acc L,c ∈ acc ∨ ∃ s ∈ L,s.1 = c
 | [],acc,c,h => .inl h
 | x :: xs,acc,c,h => by
  rw [credsF_cons] at h
  rcases credsF_from xs _ c h with h | ⟨s,hs,e⟩
  ·cases hb : hasC acc x.1 with
   | true => rw [hb] at h; exact .inl h
   | false =>
    rw [hb] at h
    rcases List.mem_append.1 h with h | h
    ·exact .inl h
    ·exact .inr ⟨x,by simp,(List.mem_singleton.1 h).symm⟩
  ·exact .inr ⟨s,by simp [hs],e⟩
theorem laws_L2 {N : Nat} (hN : Big N) {kx kr} (list : List (Den tCred)) (hl : list.length ≤ 1048576) (F : List (Den tFact)) (f : Den tFact) (K : List (Den tStep)) (ok : Bool) (used : List (Den tCred)) (i : Nat) (hi : i < used.length) :
  iter (B_laws_FnProofs_L2 (Ω := Bool) N kx kr) N (list,F,f,K,ok,used,(i : Int),false,(0:Int)) = kx (list,F,f,K,ok,used,(i : Int),hasC list used[i]) := by
 have hN' := n40f hN
 have key := iter_to (B := B_laws_FnProofs_L2 (Ω := Bool) N kx kr) (A := Bool) (fun k b => (list,F,f,K,ok,used,(i : Int),b,(k : Int))) (fun k b q => q = kx (list,F,f,K,ok,used,(i : Int),b || hasC (list.drop k) used[i])) list.length
  (fun k b rec_ hk ih => by
   show (bif _ then _ else _) = _
   rw [lt_rows list hk,le_rows k,getD_at list hk,le_rows i,lt_rows used hi,getD_at used hi,w64_up (Nat.le_refl k) (by omega),drop_cons hk]
   have e : hasC (list[k] :: list.drop (k + 1)) used[i] = (credEq list[k] used[i] || hasC (list.drop (k + 1)) used[i]) := rfl
   rw [e]
   simp only [Bool.and_self,cond_true]
   cases b with
   | true =>
    have := ih true
    rw [Bool.true_or] at this ⊢
    exact this
   | false =>
    rw [Bool.false_or]
    exact ih (credEq list[k] used[i]))
  (fun b rec_ => by
   show (bif _ then _ else _) = _
   rw [at_end list,List.drop_length]
   show kx _ = kx (list,F,f,K,ok,used,(i : Int),b || false)
   rw [Bool.or_false])
  N (by omega) false
 rw [List.drop_zero,Bool.false_or] at key
 exact key
theorem laws_L0 {N : Nat} (hN : Big N) {kx kr} (list : List (Den tCred)) (hl : list.length ≤ 1048576) (F : List (Den tFact)) (f : Den tFact) (K : List (Den tStep)) (ok : Bool) (used : List (Den tCred)) (hul : used.length ≤ 1048576) (hu : ∀ c ∈ used,c ∈ list) :
  iter (B_laws_FnProofs_L0 (Ω := Bool) N kx kr) N (list,F,f,K,ok,used,(0:Int)) = kx (F,f,K,ok,used) := by
 have hN' := n40f hN
 exact iter_to (B := B_laws_FnProofs_L0 (Ω := Bool) N kx kr) (A := Unit) (fun i _ => (list,F,f,K,ok,used,(i : Int))) (fun i _ q => q = kx (F,f,K,ok,used)) used.length
  (fun i _ rec_ hi ih => by
   show (bif _ then _ else _) = _
   rw [lt_rows used hi]
   simp only [cond_true]
   rw [laws_L2 hN list hl F f K ok used i hi]
   simp only
   rw [hasC_mem (hu _ (List.getElem_mem hi)),w64_up (Nat.le_refl i) (by omega)]
   exact ih ())
  (fun _ rec_ => by
   show (bif _ then _ else _) = _
   rw [at_end used]; rfl)
  N (by omega) ()
theorem laws_L4 {N : Nat} (hN : Big N) {kx kr} (F : List (Den tFact)) (f : Den tFact) (K : List (Den tStep)) (hK : okz (.sl tStep) K) (ok : Bool) (used : List (Den tCred)) (hs : ∀ q (hq : q < K.length),StepP K q K[q]) :
  iter (B_laws_FnProofs_L4 (Ω := Bool) N kx kr) N (F,f,K,ok,used,(0:Int)) = kx (F,f,K,ok,used) := by
 have hN' := n40f hN
 have hl : K.length ≤ 1048576 := hK.1
 exact iter_to (B := B_laws_FnProofs_L4 (Ω := Bool) N kx kr) (A := Unit) (fun i _ => (F,f,K,ok,used,(i : Int))) (fun i _ q => q = kx (F,f,K,ok,used)) K.length
  (fun i _ rec_ hi ih => by
   show (bif _ then _ else _) = _
   rw [lt_rows K hi]
   simp only [cond_true]
   rw [impl_StepOk hN K hK,Option.bind_some,stepOk_in K hi,stepP_iff.2 (hs i hi),w64_up (Nat.le_refl i) (by omega)]
   exact ih ())
  (fun _ rec_ => by
   show (bif _ then _ else _) = _
   rw [at_end K]; rfl)
  N (by omega) ()
theorem allI_ofP {α : Type} (p : Nat → α → Bool) : ∀ (l : List α) (j : Nat),(∀ i (hi : i < l.length),p (j + i) l[i] = true) → allI p j l = true
 | [],_,_ => rfl
 | x :: xs,j,h => by
  rw [allI_cons,Bool.and_eq_true]
  refine ⟨h 0 (by simp),allI_ofP p xs (j + 1) fun i hi => ?_⟩
  have := h (i + 1) (by simpa using hi)
  rw [show j + (i + 1) = j + 1 + i from by omega] at this
  simpa using this
theorem pure_FnProofs (a0 : Den (.sl (.i .u8))) (g0 : good (.sl (.i .u8)) a0) : ∃ N,x_laws_FnProofs N a0 = some true := by
 refine ⟨1099511627776,?_⟩
 have hN : Big 1099511627776 := Nat.le_refl _
 generalize 1099511627776 = N at hN
 unfold x_laws_FnProofs x_f15
 by_cases hL : List.length (α := Int) a0 ≤ 1048576
 ·rw [dF (by omega),Option.bind_some,cond_false]
  obtain ⟨list,e1,hl10⟩ := words_ok hN a0 hL
  obtain ⟨p,e2,hp,hp'⟩ := places_ok hN a0 hL
  have hl : list.length ≤ 1048576 := by omega
  have hok := closeF_ok list 145 [] ⟨List.nodup_nil,fun f h => by cases h⟩
  have hfc : fc (closeO list 145 []) = closeF list 145 [] := closeO_fc list 145 []
  have hgood := closeO_good list 145 [] (fun i hi => absurd hi (by simp))
  have hfl := fc_len (closeO list 145 [])
  have hln := hok.len
  simp only [e1,e2,Option.bind_some,spec_FactsOf hN list hl]
  rw [hfc] at hfl
  by_cases h0 : (closeF list 145 []).length = 0
  ·rw [dT (p := ((closeF list 145 []).length : Int) = 0) (by omega)]
   simp only [cond_true]
   rw [proofOf_none hN list hl (by omega)]; rfl
  ·rw [dF (p := ((closeF list 145 []).length : Int) = 0) (by omega)]
   have q0 : 0 ≤ p.getD 0 0 ∧ p.getD 0 0 < 10000 := by rw [List.getD_eq_getElem?_getD,List.getElem?_eq_getElem (by omega)]; exact hp' _ (List.getElem_mem _)
   have t0 : (0:Int).toNat = 0 := rfl
   have m0 := Int.tmod_nonneg ((closeF list 145 []).length : Int) q0.1
   have n0 := Int.tmod_lt_of_pos (p.getD 0 0) (b := ((closeF list 145 []).length : Int)) (by omega)
   simp only [t0]
   generalize (p.getD 0 0).tmod ((closeF list 145 []).length : Int) = jj at m0 n0
   obtain ⟨j,rfl⟩ : ∃ k : Nat,jj = (k : Int) := ⟨jj.toNat,by omega⟩
   have hj : j < (closeF list 145 []).length := by omega
   have hjo : j < (closeO list 145 []).length := by omega
   rw [dT (p := (0:Int) ≤ 0) (by omega),dT (p := (0:Int) < (p.length : Int)) (by omega),le_rows j,lt_rows _ hj]
   simp only [Bool.and_self,Bool.not_false,cond_true,cond_false,getD_at _ hj]
   have hfj : (closeF list 145 [])[j] = ((closeO list 145 [])[j]).1 := by
    have : (closeF list 145 [])[j]? = (fc (closeO list 145 []))[j]? := by rw [hfc]
    rw [List.getElem?_eq_getElem hj,List.getElem?_map,List.getElem?_eq_getElem hjo] at this
    exact Option.some.inj this
   have hnd : ∀ m (hm : m < (closeO list 145 []).length),m < j → ((closeO list 145 [])[m]).1 ≠ ((closeO list 145 [])[j]).1 := fun m hm hmj => by
    have := hok.1
    rw [← hfc,List.nodup_iff_pairwise_ne,List.pairwise_map,List.pairwise_iff_getElem] at this
    exact this m j hm hjo hmj
   have hPO := impl_ProofOf hN list hl j hjo hgood (by omega) hnd (((closeF list 145 [])[j]).1.1,((closeF list 145 [])[j]).1.2) ((closeF list 145 [])[j]).2 (by rw [← hfj])
   rw [hPO]
   have hS : ∀ i (hi : i < (((closeO list 145 []).take (j + 1)).map (stF list)).length),StepP (((closeO list 145 []).take (j + 1)).map (stF list)) i (((closeO list 145 []).take (j + 1)).map (stF list))[i] := fun i hi => by
    have hi1 : i < j + 1 := by rw [List.length_map,List.length_take] at hi; omega
    have hio : i < (closeO list 145 []).length := by omega
    have e : (((closeO list 145 []).take (j + 1)).map (stF list))[i] = stF list (closeO list 145 [])[i] := by rw [List.getElem_map,List.getElem_take]
    rw [e]
    refine (hgood i hio).2.other (Nat.le_refl i) fun k hk => ?_
    rw [List.getD_eq_getElem?_getD,List.getD_eq_getElem?_getD,List.getElem?_map,List.getElem?_map,List.getElem?_take,if_pos (by omega)]
   have hSl : (((closeO list 145 []).take (j + 1)).map (stF list)).length = j + 1 := by rw [List.length_map,List.length_take]; omega
   obtain ⟨K,eK,k1,k2,k3,k4⟩ := kept_ok hN _ hS (by omega) (by omega)
   have hScred : ∀ m,m < j + 1 → ((((closeO list 145 []).take (j + 1)).map (stF list)).getD m (dft tStep)).1 ∈ list := fun m hm => by
    have hmo : m < (closeO list 145 []).length := by omega
    obtain ⟨⟨k,ek,hk⟩,_⟩ := hgood m hmo
    have e : (((closeO list 145 []).take (j + 1)).map (stF list)).getD m (dft tStep) = stF list (closeO list 145 [])[m] := by
     rw [List.getD_eq_getElem?_getD,List.getElem?_map,List.getElem?_take,if_pos hm,List.getElem?_eq_getElem hmo]; rfl
    rw [e]
    unfold stF
    show list.getD ((closeO list 145 [])[m]).2.1.toNat (dft tCred) ∈ list
    rw [ek,Int.toNat_natCast,List.getD_eq_getElem?_getD,List.getElem?_eq_getElem hk]
    exact List.getElem_mem hk
   have hlast : ((((closeO list 145 []).take (j + 1)).map (stF list)).getD ((((closeO list 145 []).take (j + 1)).map (stF list)).length - 1) (dft tStep)).2.1 = (closeF list 145 [])[j] := by
    rw [hSl,show j + 1 - 1 = j from by omega,List.getD_eq_getElem?_getD,List.getElem?_map,List.getElem?_take,if_pos (by omega),List.getElem?_eq_getElem hjo,hfj]; rfl
   rw [hlast] at k3
   rw [hSl] at k1 k4
   rw [eK]
   simp only [Option.bind_some]
   have hKz : okz (.sl tStep) K := ⟨by omega,fun s hs => by
    obtain ⟨q,hq,rfl⟩ := List.getElem_of_mem hs
    have := stepG_two (k4 q hq).1.g
    refine ⟨by simp [okz],by simp [okz],?_⟩
    exact ⟨by omega,fun _ _ => trivial⟩⟩
   have hul := credsF_len K []
   simp only [List.length_nil] at hul
   have hu : ∀ c ∈ credsF [] K,c ∈ list := fun c hc => by
    rcases credsF_from K [] c hc with h | ⟨s,hs,e⟩
    ·cases h
    ·obtain ⟨q,hq,rfl⟩ := List.getElem_of_mem hs
     obtain ⟨m,hm,e2⟩ := (k4 q hq).2
     rw [← e,e2]; exact hScred m hm
   have hu2 : ∀ i (hi : i < K.length),(K[i]).1 ∈ credsF [] K := fun i hi => credsF_has K [] _ (List.getElem_mem hi)
   have hcl := closeF_closed (credsF [] K) 145 [] ⟨List.nodup_nil,fun f h => by cases h⟩ (by simp)
   have hok2 := closeF_ok (credsF [] K) 145 [] ⟨List.nodup_nil,fun f h => by cases h⟩
   have hln2 := hok2.len
   have hmem := proved_mem (fun i hi => (k4 i hi).1) hu2 hcl (K.length - 1) (by omega)
   have hKl : (K.getD (K.length - 1) (dft tStep)) = K[K.length - 1] := by rw [List.getD_eq_getElem?_getD,List.getElem?_eq_getElem (by omega)]; rfl
   rw [hKl] at k3
   rw [k3] at hmem
   have hproof : proofOk K (((closeF list 145 [])[j]).1.1,((closeF list 145 [])[j]).1.2) ((closeF list 145 [])[j]).2 = true := by
    unfold proofOk
    rw [Bool.and_eq_true,Bool.and_eq_true]
    refine ⟨?_,?_,allI_ofP _ _ _ fun i hi => ?_⟩
    ·unfold inR; rw [dT (by omega),dT (by omega)]; rfl
    ·rw [hKl,k3]; exact factEq_iff.2 rfl
    ·rw [Nat.zero_add,stepOk_in K hi]; exact stepP_iff.2 (k4 i hi).1
   rw [impl_CredsIn hN K (by omega),Option.bind_some,laws_L0 hN list hl _ _ K true _ (by omega) hu]
   simp only
   rw [laws_L4 hN _ _ K hKz true _ (fun q hq => (k4 q hq).1)]
   simp only [cond_true]
   rw [impl_ProofOk hN K hKz,Option.bind_some,hproof]
   simp only [cond_true]
   unfold x_f26
   rw [spec_FactsOf hN _ (by omega),Option.bind_some,spec_has hN _ (by omega),Option.bind_some,hasF_iff.2 hmem]
   simp only [Option.bind_some,cond_true]
   rw [dT (p := (K.length : Int) ≤ ((closeF list 145 []).length : Int)) (by omega)]
 ·rw [dT (by omega)]; rfl
end Go.Proofs.Ytfmlmdnaeonobaa.C
