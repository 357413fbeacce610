/- The data that the two functions compute are alike, for all arguments that memory can hold. -/
import Derived.Test.YtfmlmdnaeonobaaHFnProofsTold
set_option linter.unusedVariables false
set_option linter.unusedSimpArgs false
namespace Go.Proofs.Ytfmlmdnaeonobaa.C
open Go Go.Proofs.Ytfmlmdnaeonobaa.Nx Go.RowKit
end Go.Proofs.Ytfmlmdnaeonobaa.C
namespace Go.Proofs.Ytfmlmdnaeonobaa.C
open Go Go.Proofs.Ytfmlmdnaeonobaa.Nx Go.RowKit
set_option linter.unusedVariables false
set_option linter.unusedSimpArgs false
theorem peta {α β : Type} (p : α × β) : (p.1,p.2) = p := rfl
def inR (n a b : Int) : Bool := decide (a ≤ n) && decide (n ≤ b)
theorem in_eq (N : Nat) (n a b : Int) : x_f10 N n a b = some (inR n a b) := by
 unfold x_f10 inR
 cases decide (a ≤ n) <;> rfl
theorem l01In_eq (N : Nat) (n a b : Int) : x_f40 N n a b = some (inR n a b) := by
 unfold x_f40 inR
 cases decide (a ≤ n) <;> rfl
end Go.Proofs.Ytfmlmdnaeonobaa.C
namespace Go.Proofs.Ytfmlmdnaeonobaa.C
open Go Go.Proofs.Ytfmlmdnaeonobaa.Nx Go.RowKit
set_option linter.unusedVariables false
set_option linter.unusedSimpArgs false
def roleOk (r : Den tRole) : Bool := inR r.1 0 5 && inR r.2 0 3
theorem roleOk_i (N : Nat) (r : Den tRole) : x_f4 N r = some (roleOk r) := by
 unfold x_f4 roleOk
 simp only [in_eq,Option.bind_some]
 cases inR r.1 0 5 <;> rfl
theorem roleOk_s (N : Nat) (r : Den tRole) : x_f36 N r = some (roleOk r) := by
 unfold x_f36 roleOk
 simp only [l01In_eq,Option.bind_some]
 cases inR r.1 0 5 <;> rfl
theorem isPerson_i (N : Nat) (n : Int) : x_f11 N n = some (inR n 0 5) := by
 unfold x_f11
 simp only [in_eq,Option.bind_some]
def credOk (c : Den tCred) : Bool :=
 roleOk c.2.1 && (inR c.2.2.2.2.2.1 1 9999 && (inR c.2.2.2.2.2.2 0 99 &&
 (bif decide (c.1 = 1) then inR c.2.2.1 0 5 && ((decide (c.2.2.2.1.1 = 0) && decide (c.2.2.2.1.2 = 0)) && (decide (c.2.2.2.2.1.1 = 0) && decide (c.2.2.2.2.1.2 = 0)))
  else bif decide (c.1 = 2) then decide (c.2.2.1 = 0) && (roleOk c.2.2.2.1 && (decide (c.2.2.2.2.1.1 = 0) && decide (c.2.2.2.2.1.2 = 0)))
  else bif decide (c.1 = 3) then decide (c.2.2.1 = 0) && (roleOk c.2.2.2.1 && (roleOk c.2.2.2.2.1 && decide (c.2.2.2.2.1.1 = 0)))
  else bif decide (c.1 = 4) then decide (c.2.2.1 = 0) && (roleOk c.2.2.2.1 && roleOk c.2.2.2.2.1)
  else false)))
theorem credOk_i (N : Nat) (c : Den tCred) : x_f0 N c = some (credOk c) := by
 unfold x_f0 credOk
 simp only [in_eq,roleOk_i,isPerson_i,Option.bind_some]
 generalize roleOk c.2.1 = a1
 generalize inR c.2.2.2.2.2.1 1 9999 = a2
 generalize inR c.2.2.2.2.2.2 0 99 = a3
 generalize inR c.2.2.1 0 5 = a4
 generalize decide (c.1 = 1) = b1
 generalize decide (c.1 = 2) = b2
 generalize decide (c.1 = 3) = b3
 generalize decide (c.1 = 4) = b4
 generalize decide (c.2.2.1 = 0) = d1
 generalize roleOk c.2.2.2.1 = r1
 generalize roleOk c.2.2.2.2.1 = r2
 generalize (decide (c.2.2.2.1.1 = 0) && decide (c.2.2.2.1.2 = 0)) = z1
 generalize (decide (c.2.2.2.2.1.1 = 0) && decide (c.2.2.2.2.1.2 = 0)) = z2
 cases a1 <;> cases a2 <;> cases a3 <;> try rfl
 cases b1 <;> cases b2 <;> cases b3 <;> cases b4 <;> cases d1 <;> cases r1 <;> cases r2 <;> cases a4 <;> cases z1 <;> rfl
theorem credOk_s (N : Nat) (c : Den tCred) : x_f24 N c = some (credOk c) := by
 rw [← credOk_i N c]
 unfold x_f24 x_f0
 simp only [in_eq,l01In_eq,roleOk_i,roleOk_s,isPerson_i,Option.bind_some]
end Go.Proofs.Ytfmlmdnaeonobaa.C
namespace Go.Proofs.Ytfmlmdnaeonobaa.C
open Go Go.Proofs.Ytfmlmdnaeonobaa.Nx Go.RowKit
set_option linter.unusedVariables false
set_option linter.unusedSimpArgs false
theorem iter_2 {σ R : Type} {B : (σ → Option R) → σ → Option R} {N : Nat} (hN : Big N) : ∃ M,∀ s,iter B N s = B (fun s => B (iter B M) s) s := by
 have hN' : 1099511627776 ≤ N := hN
 obtain ⟨M,rfl⟩ : ∃ M,N = M + 2 := ⟨N - 2,by omega⟩
 exact ⟨M,fun s => rfl⟩
def factEq (a : Den tFact) (r1 r2 w : Int) : Bool := decide (a.1.1 = r1) && (decide (a.1.2 = r2) && decide (a.2 = w))
def follows (L : List (Den tStep)) (s : Den tStep) : Bool :=
 let g := fun (x : Int) => (L.getD x.toNat (dft tStep)).2.1
 bif decide (s.1.1 = 1) then decide (s.2.2.length = 0) && decide (s.2.1.2 = s.1.2.2.1)
 else bif decide (s.1.1 = 2) then (match s.2.2 with
  | [x] => factEq (g x) s.1.2.2.2.1.1 s.1.2.2.2.1.2 s.2.1.2
  | _ => false)
 else bif decide (s.1.1 = 3) then (match s.2.2 with
  | [x,y] => (decide ((g x).1.1 = s.1.2.2.2.1.1) && decide ((g x).1.2 = s.1.2.2.2.1.2)) && factEq (g y) (g x).2 s.1.2.2.2.2.1.2 s.2.1.2
  | _ => false)
 else (match s.2.2 with
  | [x,y] => factEq (g x) s.1.2.2.2.1.1 s.1.2.2.2.1.2 s.2.1.2 && factEq (g y) s.1.2.2.2.2.1.1 s.1.2.2.2.2.1.2 s.2.1.2
  | _ => false)
def stepAt (L : List (Den tStep)) (i : Nat) (s : Den tStep) : Bool :=
 credOk s.1 && ((decide (s.2.1.1.1 = s.1.2.1.1) && decide (s.2.1.1.2 = s.1.2.1.2)) && (allI (fun _ x => inR x 0 ((i : Int) - 1)) 0 s.2.2 && follows L s))
def stepOk (L : List (Den tStep)) (n : Int) : Bool :=
 bif inR n 0 ((L.length : Int) - 1) then stepAt L n.toNat (L.getD n.toNat (dft tStep)) else false
theorem inR_nat {x : Int} {n : Nat} (h : inR x 0 ((n : Int) - 1) = true) : ∃ k : Nat,x = (k : Int) ∧ k < n := by
 unfold inR at h
 rw [Bool.and_eq_true,decide_eq_true_eq,decide_eq_true_eq] at h
 exact ⟨x.toNat,by omega,by omega⟩
theorem credOk_kind {c : Den tCred} (h : credOk c = true) : c.1 = 1 ∨ c.1 = 2 ∨ c.1 = 3 ∨ c.1 = 4 := by
 unfold credOk at h
 by_cases h1 : c.1 = 1
 ·exact .inl h1
 by_cases h2 : c.1 = 2
 ·exact .inr (.inl h2)
 by_cases h3 : c.1 = 3
 ·exact .inr (.inr (.inl h3))
 by_cases h4 : c.1 = 4
 ·exact .inr (.inr (.inr h4))
 rw [dF h1,dF h2,dF h3,dF h4] at h
 simp at h
theorem w64_sub1 {i : Nat} (h : i ≤ 140737488355328) : wrap64 ((i : Int) - 1) = (i : Int) - 1 := w64 (by omega) (by omega)
theorem shown_one {N : Nat} (hN : Big N) (L : List (Den tStep)) (hL : okz (.sl tStep) L) {i : Nat} (hi : i < L.length) {x : Int} (hF : L[i].2.2 = [x]) (hx : inR x 0 ((i : Int) - 1) = true) (f : Den tFact) :
  x_f57 N L (i : Int) f = some (factEq (L.getD x.toNat (dft tStep)).2.1 f.1.1 f.1.2 f.2) := by
 have hl := hL.1
 obtain ⟨k,rfl,hk⟩ := inR_nat hx
 have hk' : k < L.length := by omega
 obtain ⟨M,e⟩ := iter_2 (B := B_f57_L0 N (fun _ => some false) (fun ρ2 => some (ρ2))) hN
 unfold x_f57
 rw [e]
 show (bif _ then _ else _) = _
 simp only [lt_rows L hi,le_rows i,Bool.and_self,cond_true,getD_at L hi,hF,w64_sub1 (by omega : i ≤ 140737488355328)]
 simp only [show (decide ((0:Int) < (([(k : Int)] : List Int).length : Int))) = true from rfl,show decide ((0:Int) ≤ 0) = true from rfl,Bool.and_self,cond_true,show ([(k : Int)] : List Int).getD (0:Int).toNat 0 = (k : Int) from rfl,l01In_eq,hx,Option.bind_some,lt_rows L hk',le_rows k,getD_at L hk']
 unfold factEq
 cases (decide (L[k].2.1.1.1 = f.1.1) && (decide (L[k].2.1.1.2 = f.1.2) && decide (L[k].2.1.2 = f.2)))
 ·simp only [cond_false]
  show (bif _ then _ else _) = _
  simp only [lt_rows L hi,le_rows i,Bool.and_self,cond_true,getD_at L hi,hF]
  rw [show decide (wrap64 ((0:Int) + 1) < (([(k : Int)] : List Int).length : Int)) = false from by rw [show wrap64 ((0:Int) + 1) = 1 from w64_up (Nat.le_refl 0) (by omega)]; rfl]
  rfl
 ·rfl
theorem getD_map {α β : Type} (f : α → β) (l : List α) (k : Nat) (h : k < l.length) (d : β) : (l.map f).getD k d = f l[k] := by
 simp [List.getD,h]
theorem stepOk_out (L : List (Den tStep)) {n : Int} (hn : inR n 0 ((L.length : Int) - 1) = false) : stepOk L n = false := by
 unfold stepOk; rw [hn]; rfl
theorem stepOk_in (L : List (Den tStep)) {i : Nat} (hi : i < L.length) : stepOk L (i : Int) = stepAt L i L[i] := by
 unfold stepOk
 have : inR (i : Int) 0 ((L.length : Int) - 1) = true := by
  unfold inR; rw [dT (by omega),dT (by omega)]; rfl
 rw [this,getD_at L hi]; rfl
theorem spec_StepOk {N : Nat} (hN : Big N) (L : List (Den tStep)) (hL : okz (.sl tStep) L) (n : Int) : x_f37 N L n = some (stepOk L n) := by
 have hN' : 1099511627776 ≤ N := hN
 have hl := hL.1
 unfold x_f37
 rw [w64_sub1 (by omega : L.length ≤ 140737488355328),l01In_eq,Option.bind_some]
 cases hn : inR n 0 ((L.length : Int) - 1)
 ·rw [stepOk_out L hn]; rfl
 obtain ⟨i,rfl,hi⟩ := inR_nat hn
 have hs : okz tStep L[i] := hL.2 _ (List.getElem_mem hi)
 rw [stepOk_in L hi]
 simp only [Bool.not_true,cond_false,cond_true,lt_rows L hi,le_rows i,Bool.and_self,getD_at L hi,peta]
 unfold stepAt
 rw [credOk_s,Option.bind_some]
 cases hc : credOk L[i].1
 ·rfl
 cases (decide (L[i].2.1.1.1 = L[i].1.2.1.1) && decide (L[i].2.1.1.2 = L[i].1.2.1.2))
 ·rfl
 simp only [Bool.not_true,cond_false,Bool.true_and]
 have h0 := hs.2.2.1
 generalize hT : (fun (x : List (Den tStep) × Int × Den tStep × Den tCred) => _) = T
 refine Eq.trans (iter_all (B := B_f37_L0 N T (fun ρ9 => some ρ9)) L[i].2.2 (fun j => (L,(i : Int),L[i],L[i].1,(j : Int))) (fun _ x => inR x 0 ((i : Int) - 1)) (T (L,(i : Int),L[i],L[i].1)) (some false)
  (fun j hj rec_ => by
   show (bif _ then _ else _) = _
   simp only [lt_rows L[i].2.2 hj,le_rows j,Bool.and_self,cond_true,getD_at L[i].2.2 hj,w64_up (Nat.le_refl j) (by omega : j ≤ 140737488355328),l01In_eq,Option.bind_some,w64_sub1 (by omega : i ≤ 140737488355328)]
   cases inR L[i].2.2[j] 0 ((i : Int) - 1) <;> rfl)
  (fun rec_ => by
   show (bif _ then _ else _) = _
   rw [dF (Int.lt_irrefl _)]; rfl) (N := N) (by omega)) ?_
 cases ha : allI (fun _ x => inR x 0 ((i : Int) - 1)) 0 L[i].2.2
 ·rfl
 rw [← hT]
 simp only [cond_true,Bool.true_and]
 have el : ∀ k : Nat,decide ((List.length L[i].2.2 : Int) = (k : Int)) = decide (List.length L[i].2.2 = k) := fun k => decide_eq_decide.2 (by omega)
 unfold follows
 rcases credOk_kind hc with h | h | h | h
 ·simp only [dT h,cond_true,show ((0:Int)) = ((0 : Nat) : Int) from rfl,el]
  cases decide (L[i].2.1.2 = L[i].1.2.2.1) <;> cases decide (List.length L[i].2.2 = 0) <;> rfl
 ·simp only [dT h,dF (show ¬ L[i].1.1 = 1 by rw [h]; decide),cond_true,cond_false]
  rcases hF : L[i].2.2 with _ | ⟨x,_ | ⟨y,zs⟩⟩
  ·rfl
  ·rw [hF] at ha
   have hx : inR x 0 ((i : Int) - 1) = true := by simpa [allI] using ha
   rw [shown_one hN L hL hi hF hx]
   rfl
  ·simp only [List.length_cons]
   rw [dF (by omega)]; rfl
 ·simp only [dT h,dF (show ¬ L[i].1.1 = 1 by rw [h]; decide),dF (show ¬ L[i].1.1 = 2 by rw [h]; decide),dF (show ¬ L[i].1.1 = 4 by rw [h]; decide),cond_true,cond_false]
  rcases hF : L[i].2.2 with _ | ⟨x,_ | ⟨y,_ | ⟨z,zs⟩⟩⟩
  ·rfl
  ·rfl
  ·rw [hF] at ha
   have hxy : inR x 0 ((i : Int) - 1) = true ∧ inR y 0 ((i : Int) - 1) = true := by simpa [allI] using ha
   obtain ⟨kx,rfl,hkx⟩ := inR_nat hxy.1
   obtain ⟨ky,rfl,hky⟩ := inR_nat hxy.2
   have hkx' : kx < L.length := by omega
   have hky' : ky < L.length := by omega
   simp only [show ([(kx : Int),(ky : Int)] : List Int).getD (0:Int).toNat 0 = (kx : Int) from rfl,show ([(kx : Int),(ky : Int)] : List Int).getD (1:Int).toNat 0 = (ky : Int) from rfl,lt_rows L hkx',le_rows kx,lt_rows L hky',le_rows ky,getD_at L hkx',getD_at L hky']
   unfold factEq
   cases (decide (L[kx].2.1.1.1 = L[i].1.2.2.2.1.1) && decide (L[kx].2.1.1.2 = L[i].1.2.2.2.1.2)) <;> rfl
  ·simp only [List.length_cons]
   rw [dF (by omega)]; rfl
 ·simp only [dT h,dF (show ¬ L[i].1.1 = 1 by rw [h]; decide),dF (show ¬ L[i].1.1 = 2 by rw [h]; decide),dF (show ¬ L[i].1.1 = 3 by rw [h]; decide),cond_true,cond_false]
  rcases hF : L[i].2.2 with _ | ⟨x,_ | ⟨y,_ | ⟨z,zs⟩⟩⟩
  ·rfl
  ·rfl
  ·rw [hF] at ha
   have hxy : inR x 0 ((i : Int) - 1) = true ∧ inR y 0 ((i : Int) - 1) = true := by simpa [allI] using ha
   obtain ⟨kx,rfl,hkx⟩ := inR_nat hxy.1
   obtain ⟨ky,rfl,hky⟩ := inR_nat hxy.2
   have hkx' : kx < L.length := by omega
   have hky' : ky < L.length := by omega
   simp only [show ([(kx : Int),(ky : Int)] : List Int).getD (0:Int).toNat 0 = (kx : Int) from rfl,show ([(kx : Int),(ky : Int)] : List Int).getD (1:Int).toNat 0 = (ky : Int) from rfl,lt_rows L hkx',le_rows kx,lt_rows L hky',le_rows ky,getD_at L hkx',getD_at L hky']
   unfold factEq
   cases (decide (L[kx].2.1.1.1 = L[i].1.2.2.2.1.1) && (decide (L[kx].2.1.1.2 = L[i].1.2.2.2.1.2) && decide (L[kx].2.1.2 = L[i].2.1.2))) <;> rfl
  ·simp only [List.length_cons]
   rw [dF (by omega)]; rfl
theorem impl_StepOk {N : Nat} (hN : Big N) (L : List (Den tStep)) (hL : okz (.sl tStep) L) (n : Int) : x_f5 N L n = some (stepOk L n) := by
 have hN' : 1099511627776 ≤ N := hN
 have hl := hL.1
 unfold x_f5
 rw [w64_sub1 (by omega : L.length ≤ 140737488355328),in_eq,Option.bind_some]
 cases hn : inR n 0 ((L.length : Int) - 1)
 ·rw [stepOk_out L hn]; rfl
 obtain ⟨i,rfl,hi⟩ := inR_nat hn
 have hs : okz tStep L[i] := hL.2 _ (List.getElem_mem hi)
 rw [stepOk_in L hi]
 simp only [Bool.not_true,cond_false,cond_true,lt_rows L hi,le_rows i,Bool.and_self,getD_at L hi,peta]
 unfold stepAt
 rw [credOk_i,Option.bind_some]
 cases hc : credOk L[i].1
 ·rfl
 cases (decide (L[i].2.1.1.1 = L[i].1.2.1.1) && decide (L[i].2.1.1.2 = L[i].1.2.1.2))
 ·rfl
 simp only [Bool.not_true,cond_false,Bool.true_and]
 have h0 := hs.2.2.1
 generalize hT : (fun (x : Den tStep × List (Den tFact)) => _) = T
 obtain ⟨g,hg⟩ : ∃ g : Int → Den tFact,g = fun (x : Int) => (L.getD x.toNat (dft tStep)).2.1 := ⟨_,rfl⟩
 have st0 : ([] : List (Den tFact)) = (L[i].2.2.take 0).map g := by simp
 rw [st0]
 refine Eq.trans (iter_all (B := B_f5_L0 N T (fun ρ6 => some ρ6)) L[i].2.2 (fun j => (L,(i : Int),L[i],(L[i].2.2.take j).map g,L[i].2.2,(List.length L[i].2.2 : Int),(j : Int))) (fun _ x => inR x 0 ((i : Int) - 1)) (T (L[i],L[i].2.2.map g)) (some false)
  (fun j hj rec_ => by
   show (bif _ then _ else _) = _
   simp only [lt_rows L[i].2.2 hj,le_rows j,Bool.and_self,cond_true,getD_at L[i].2.2 hj,w64_up (Nat.le_refl j) (by omega : j ≤ 140737488355328)]
   unfold x_f13
   simp only [in_eq,Option.bind_some,w64_sub1 (by omega : i ≤ 140737488355328)]
   cases hx : inR L[i].2.2[j] 0 ((i : Int) - 1)
   ·rfl
   obtain ⟨k,hk1,hk2⟩ := inR_nat hx
   have hk3 : k < L.length := by omega
   simp only [hk1,Bool.not_true,cond_false,lt_rows L hk3,le_rows k,Bool.and_self,cond_true,Option.bind_some,peta]
   rw [dT (by simp; omega)]
   have e : (L[i].2.2.take j).map g ++ [(L.getD ((k : Int)).toNat (dft tStep)).2.1] = (L[i].2.2.take (j + 1)).map g := by
    rw [List.take_succ_eq_append_getElem hj,List.map_append,hg,← hk1]; rfl
   rw [e]; rfl)
  (fun rec_ => by
   show (bif _ then _ else _) = _
   rw [dF (Int.lt_irrefl _),List.take_length]; rfl) (N := N) (by omega)) ?_
 cases ha : allI (fun _ x => inR x 0 ((i : Int) - 1)) 0 L[i].2.2
 ·rfl
 rw [← hT]
 simp only [cond_true,Bool.true_and,List.length_map]
 have el : ∀ k : Nat,decide ((List.length L[i].2.2 : Int) = (k : Int)) = decide (List.length L[i].2.2 = k) := fun k => decide_eq_decide.2 (by omega)
 unfold follows
 rcases credOk_kind hc with h | h | h | h
 ·simp only [dT h,cond_true,show ((0:Int)) = ((0 : Nat) : Int) from rfl,el]
  cases decide (L[i].2.1.2 = L[i].1.2.2.1) <;> cases decide (List.length L[i].2.2 = 0) <;> rfl
 ·simp only [dT h,dF (show ¬ L[i].1.1 = 1 by rw [h]; decide),cond_true,cond_false]
  rcases hF : L[i].2.2 with _ | ⟨x,_ | ⟨y,zs⟩⟩
  ·rfl
  ·rw [hg]; rfl
  ·simp only [List.length_cons]
   rw [dF (by omega)]; rfl
 ·simp only [dT h,dF (show ¬ L[i].1.1 = 1 by rw [h]; decide),dF (show ¬ L[i].1.1 = 2 by rw [h]; decide),cond_true,cond_false]
  rcases hF : L[i].2.2 with _ | ⟨x,_ | ⟨y,_ | ⟨z,zs⟩⟩⟩
  ·rfl
  ·rfl
  ·simp only [hg,List.map_cons,List.map_nil,show ∀ a b : Den tFact,[a,b].getD (0:Int).toNat (dft tFact) = a from fun _ _ => rfl,show ∀ a b : Den tFact,[a,b].getD (1:Int).toNat (dft tFact) = b from fun _ _ => rfl]
   unfold factEq
   cases (decide ((L.getD x.toNat (dft tStep)).2.1.1.1 = L[i].1.2.2.2.1.1) && decide ((L.getD x.toNat (dft tStep)).2.1.1.2 = L[i].1.2.2.2.1.2)) <;> rfl
  ·simp only [List.length_cons]
   rw [dF (by omega)]; rfl
 ·simp only [dT h,dF (show ¬ L[i].1.1 = 1 by rw [h]; decide),dF (show ¬ L[i].1.1 = 2 by rw [h]; decide),dF (show ¬ L[i].1.1 = 3 by rw [h]; decide),cond_true,cond_false]
  rcases hF : L[i].2.2 with _ | ⟨x,_ | ⟨y,_ | ⟨z,zs⟩⟩⟩
  ·rfl
  ·rfl
  ·simp only [hg,List.map_cons,List.map_nil,show ∀ a b : Den tFact,[a,b].getD (0:Int).toNat (dft tFact) = a from fun _ _ => rfl,show ∀ a b : Den tFact,[a,b].getD (1:Int).toNat (dft tFact) = b from fun _ _ => rfl]
   unfold factEq
   cases (decide ((L.getD x.toNat (dft tStep)).2.1.1.1 = L[i].1.2.2.2.1.1) && (decide ((L.getD x.toNat (dft tStep)).2.1.1.2 = L[i].1.2.2.2.1.2) && decide ((L.getD x.toNat (dft tStep)).2.1.2 = L[i].2.1.2))) <;> rfl
  ·simp only [List.length_cons]
   rw [dF (by omega)]; rfl
end Go.Proofs.Ytfmlmdnaeonobaa.C
namespace Go.Proofs.Ytfmlmdnaeonobaa.C
open Go Go.Proofs.Ytfmlmdnaeonobaa.Nx Go.RowKit
set_option linter.unusedVariables false
set_option linter.unusedSimpArgs false
def proofOk (L : List (Den tStep)) (r : Den tRole) (w : Int) : Bool :=
 inR (L.length : Int) 1 200 && (factEq (L.getD (L.length - 1) (dft tStep)).2.1 r.1 r.2 w && allI (fun i _ => stepOk L (i : Int)) 0 L)
theorem inR_pos {x a b : Int} (h : inR x a b = true) : a ≤ x ∧ x ≤ b := by
 unfold inR at h
 rwa [Bool.and_eq_true,decide_eq_true_eq,decide_eq_true_eq] at h
theorem spec_ProofOk {N : Nat} (hN : Big N) (L : List (Den tStep)) (hL : okz (.sl tStep) L) (r : Den tRole) (w : Int) : x_f35 N L r w = some (proofOk L r w) := by
 have hN' : 1099511627776 ≤ N := hN
 have hl := hL.1
 unfold x_f35 proofOk
 rw [l01In_eq,Option.bind_some]
 cases hn : inR (L.length : Int) 1 200
 ·rfl
 have h1 := (inR_pos hn).1
 have hi : L.length - 1 < L.length := by omega
 have hm : wrap64 ((L.length : Int) - 1) = ((L.length - 1 : Nat) : Int) := by rw [w64 (by omega) (by omega)]; omega
 simp only [hm,lt_rows L hi,le_rows,Bool.and_self,Bool.not_true,cond_true,cond_false,Int.toNat_natCast,Bool.true_and]
 have e := iter_all (B := B_f35_L0 N (fun _ => some true) (fun ρ3 => some (ρ3))) L (fun i => (L,(L.length : Int),(i : Int))) (fun i _ => stepOk L (i : Int)) (some true) (some false)
  (fun i hi rec_ => by
   show (bif _ then _ else _) = _
   simp only [lt_rows L hi,cond_true,spec_StepOk hN L hL,Option.bind_some,w64_up (Nat.le_refl i) (by omega : i ≤ 140737488355328)]
   cases stepOk L (i : Int) <;> rfl)
  (fun rec_ => by
   show (bif _ then _ else _) = _
   rw [dF (Int.lt_irrefl _)]; rfl) (N := N) (by omega)
 unfold factEq
 generalize (decide ((L.getD (L.length - 1) (dft tStep)).2.1.1.1 = r.1) && _) = b
 cases b
 ·rfl
 ·refine Eq.trans e ?_
  cases allI (fun i _ => stepOk L (i : Int)) 0 L <;> rfl
theorem impl_ProofOk {N : Nat} (hN : Big N) (L : List (Den tStep)) (hL : okz (.sl tStep) L) (r : Den tRole) (w : Int) : x_f3 N L r w = some (proofOk L r w) := by
 have hN' : 1099511627776 ≤ N := hN
 have hl := hL.1
 unfold x_f3 proofOk
 rw [in_eq,Option.bind_some]
 cases hn : inR (L.length : Int) 1 200
 ·rfl
 have h1 := (inR_pos hn).1
 have hi : L.length - 1 < L.length := by omega
 have hm : wrap64 ((L.length : Int) - 1) = ((L.length - 1 : Nat) : Int) := by rw [w64 (by omega) (by omega)]; omega
 simp only [Bool.not_true,cond_false,Bool.true_and]
 generalize hT : (fun (x : List (Den tStep) × Int × Den tRole) => _) = T
 refine Eq.trans (iter_all (B := B_f3_L0 N T (fun ρ6 => some (ρ6))) L (fun i => (L,w,r,(L.length : Int),(i : Int))) (fun i _ => stepOk L (i : Int)) (T (L,w,r)) (some false)
  (fun i hi rec_ => by
   show (bif _ then _ else _) = _
   simp only [lt_rows L hi,cond_true,impl_StepOk hN L hL,Option.bind_some,w64_up (Nat.le_refl i) (by omega : i ≤ 140737488355328)]
   cases stepOk L (i : Int) <;> rfl)
  (fun rec_ => by
   show (bif _ then _ else _) = _
   rw [dF (Int.lt_irrefl _)]; rfl) (N := N) (by omega)) ?_
 rw [← hT]
 simp only [hm,lt_rows L hi,le_rows,Bool.and_self,cond_true,Int.toNat_natCast]
 unfold factEq
 generalize (decide ((L.getD (L.length - 1) (dft tStep)).2.1.1.1 = r.1) && _) = b
 cases allI (fun i _ => stepOk L (i : Int)) 0 L <;> cases b <;> rfl
end Go.Proofs.Ytfmlmdnaeonobaa.C
namespace Go.Proofs.Ytfmlmdnaeonobaa.C
open Go Go.Proofs.Ytfmlmdnaeonobaa.Nx Go.RowKit
set_option linter.unusedVariables false
set_option linter.unusedSimpArgs false
def credEq (x c : Den tCred) : Bool :=
 decide (x.1 = c.1) && (decide (x.2.1.1 = c.2.1.1) && (decide (x.2.1.2 = c.2.1.2) && (decide (x.2.2.1 = c.2.2.1) && (decide (x.2.2.2.1.1 = c.2.2.2.1.1) && (decide (x.2.2.2.1.2 = c.2.2.2.1.2) && (decide (x.2.2.2.2.1.1 = c.2.2.2.2.1.1) && (decide (x.2.2.2.2.1.2 = c.2.2.2.2.1.2) && (decide (x.2.2.2.2.2.1 = c.2.2.2.2.2.1) && decide (x.2.2.2.2.2.2 = c.2.2.2.2.2.2)))))))))
def hasC (acc : List (Den tCred)) (c : Den tCred) : Bool := acc.any fun x => credEq x c
def credsF : List (Den tCred) → List (Den tStep) → List (Den tCred)
 | acc,[] => acc
 | acc,s :: ss => credsF (bif hasC acc s.1 then acc else acc ++ [s.1]) ss
theorem credsF_nil (acc : List (Den tCred)) : credsF acc [] = acc := rfl
theorem credsF_cons (acc : List (Den tCred)) (s : Den tStep) (ss : List (Den tStep)) : credsF acc (s :: ss) = credsF (bif hasC acc s.1 then acc else acc ++ [s.1]) ss := rfl
theorem credsF_len : ∀ (l : List (Den tStep)) (acc : List (Den tCred)),(credsF acc l).length ≤ acc.length + l.length
 | [],acc => by rw [credsF_nil]; simp
 | s :: ss,acc => by
  rw [credsF_cons]
  have h1 := credsF_len ss (bif hasC acc s.1 then acc else acc ++ [s.1])
  have h2 : (bif hasC acc s.1 then acc else acc ++ [s.1]).length ≤ acc.length + 1 := by
   cases hasC acc s.1 <;> simp
  simp only [List.length_cons]
  omega
theorem dcomm (a b : Int) : decide (a = b) = decide (b = a) := decide_eq_decide.2 ⟨Eq.symm,Eq.symm⟩
theorem spec_CredsIn {N : Nat} (hN : Big N) (L : List (Den tStep)) (hL : L.length ≤ 1048576) : x_f25 N L = some (credsF [] L) := by
 have hN' : 1099511627776 ≤ N := hN
 unfold x_f25
 refine iter_to (B := B_f25_L0 N (fun x6 => some x6) (fun ρ7 => some (ρ7))) (A := List (Den tCred)) (fun i acc => (L,acc,(i : Int))) (fun i acc r => acc.length ≤ i → r = some (credsF acc (L.drop i))) L.length
  (fun i acc rec_ hi h hacc => ?_) (fun acc rec_ hacc => ?_) N (by omega) [] (Nat.zero_le _)
 ·have inner : ∀ (kx : List (Den tStep) × List (Den tCred) × Int × Bool → Option (List (Den tCred))),iter (B_f25_L2 N kx (fun ρ5 => some ρ5)) N (L,acc,(i : Int),false,(0:Int)) = kx (L,acc,(i : Int),hasC acc L[i].1) := by
   intro kx
   have := iter_rowA (B := B_f25_L2 N kx (fun ρ5 => some ρ5)) acc (fun j (b : Bool) => (L,acc,(i : Int),b,(j : Int))) (fun j b l => kx (L,acc,(i : Int),b || l.any fun x => credEq x L[i].1))
    (fun j hj b rec_ h => by
     show (bif _ then _ else _) = _
     simp only [lt_rows acc hj,le_rows j,Bool.and_self,cond_true,getD_at acc hj,lt_rows L hi,le_rows i,getD_at L hi,w64_up (Nat.le_refl j) (by omega : j ≤ 140737488355328),h,List.any_cons]
     cases b
     ·rw [cond_false,Bool.false_or]; rfl
     ·rw [cond_true,Bool.true_or,Bool.true_or])
    (fun b rec_ => by
     show (bif _ then _ else _) = _
     rw [dF (Int.lt_irrefl _),List.any_nil,Bool.or_false]; rfl) (N := N) (by omega) false
   rw [Bool.false_or] at this
   exact this
  rw [drop_cons hi,credsF_cons]
  show (bif _ then _ else _) = _
  simp only [lt_rows L hi,cond_true]
  rw [inner]
  simp only [lt_rows L hi,le_rows i,Bool.and_self,cond_true,getD_at L hi,w64_up (Nat.le_refl i) (by omega : i ≤ 140737488355328)]
  cases hasC acc L[i].1
  ·rw [dT (by simp; omega)]
   exact h (acc ++ [L[i].1]) (by simp; omega)
  ·exact h acc (by omega)
 ·show (bif _ then _ else _) = _
  rw [dF (Int.lt_irrefl _),List.drop_length,credsF_nil]; rfl
theorem containsC {N : Nat} (hN : Big N) (acc : List (Den tCred)) (ha : acc.length ≤ 1048576) (c : Den tCred) : x_f20 N acc c = some (hasC acc c) := by
 unfold x_f20 x_f22
 have := index_func (d := dft tCred) (L := acc) (by omega) c (f := fun x => some (credEq x c)) (fun x => credEq x c) (fun x _ => rfl) hN (B := B_f22_L0 N (fun _ => some (-1:Int)) (fun ρ1 => some (ρ1)))
  (fun rec_ s0 s7 s8 => by
   show (bif _ then (bif _ then (bif _ then _ else _) else _) else _) = _
   generalize s0.getD s8.toNat (dft tCred) = x
   rw [dcomm c.1 x.1,dcomm c.2.1.1 x.2.1.1,dcomm c.2.1.2 x.2.1.2,dcomm c.2.2.1 x.2.2.1,dcomm c.2.2.2.1.1 x.2.2.2.1.1,dcomm c.2.2.2.1.2 x.2.2.2.1.2,dcomm c.2.2.2.2.1.1 x.2.2.2.2.1.1,dcomm c.2.2.2.2.1.2 x.2.2.2.2.1.2,dcomm c.2.2.2.2.2.1 x.2.2.2.2.2.1,dcomm c.2.2.2.2.2.2 x.2.2.2.2.2.2]
   rfl)
 rw [this,Option.bind_some,findI_any]
 rfl
theorem impl_CredsIn {N : Nat} (hN : Big N) (L : List (Den tStep)) (hL : L.length ≤ 1048576) : x_f1 N L = some (credsF [] L) := by
 have hN' : 1099511627776 ≤ N := hN
 unfold x_f1
 refine iter_to (B := B_f1_L0 N (fun x2 => some x2) (fun ρ3 => some (ρ3))) (A := List (Den tCred)) (fun i acc => (acc,L,(L.length : Int),(i : Int))) (fun i acc r => acc.length ≤ i → r = some (credsF acc (L.drop i))) L.length
  (fun i acc rec_ hi h hacc => ?_) (fun acc rec_ hacc => ?_) N (by omega) [] (Nat.zero_le _)
 ·rw [drop_cons hi,credsF_cons]
  show (bif _ then _ else _) = _
  simp only [lt_rows L hi,le_rows i,Bool.and_self,cond_true,getD_at L hi,peta,containsC hN acc (by omega),Option.bind_some,w64_up (Nat.le_refl i) (by omega : i ≤ 140737488355328)]
  cases hasC acc L[i].1
  ·rw [dT (by simp; omega)]
   exact h (acc ++ [L[i].1]) (by simp; omega)
  ·exact h acc (by omega)
 ·show (bif _ then _ else _) = _
  rw [dF (Int.lt_irrefl _),List.drop_length,credsF_nil]; rfl
end Go.Proofs.Ytfmlmdnaeonobaa.C
namespace Go.Proofs.Ytfmlmdnaeonobaa.C
open Go Go.Proofs.Ytfmlmdnaeonobaa.Nx Go.RowKit
set_option linter.unusedVariables false
set_option linter.unusedSimpArgs false
theorem and255 (a : Int) : 0 ≤ andI .i64 a 255 ∧ andI .i64 a 255 ≤ 255 := by
 unfold andI
 rw [pin_eq]
 have h : (BitVec.ofInt 64 a &&& BitVec.ofInt 64 255).toNat ≤ 255 := by
  rw [BitVec.toNat_and]
  exact Nat.and_le_right
 show 0 ≤ IntKind.i64.wrap ((BitVec.ofInt 64 a &&& BitVec.ofInt 64 255).toNat : Int) ∧ IntKind.i64.wrap ((BitVec.ofInt 64 a &&& BitVec.ofInt 64 255).toNat : Int) ≤ 255
 generalize (BitVec.ofInt 64 a &&& BitVec.ofInt 64 255).toNat = x at h
 rw [IntWalk.i64_left,w64 (by omega) (by omega)]
 omega
def okC (c : Den tL01Cur) : Prop := 0 ≤ c.2.1 ∧ c.1.length ≤ 1048576
theorem byte_ok (N : Nat) (c : Den tL01Cur) (h : okC c) : ∃ x c',x_f39 N c = some (x,c') ∧ 0 ≤ x ∧ x ≤ 255 ∧ okC c' := by
 obtain ⟨b,i,s⟩ : List Int × Int × Int := c
 have h0 : 0 ≤ i := h.1
 have hb : b.length ≤ 1048576 := h.2
 unfold x_f39
 simp only
 cases hd : decide (i < (b.length : Int)) with
 | true =>
  have hd' : i < (b.length : Int) := of_decide_eq_true hd
  rw [dT h0]
  simp only [cond_true,Bool.and_self,Option.bind_some]
  refine ⟨_,_,rfl,(and255 _).1,(and255 _).2,?_,hb⟩
  show (0:Int) ≤ wrap64 (i + 1)
  rw [w64 (by omega) (by omega)]; omega
 | false =>
  simp only [cond_false,cond_true,Option.bind_some]
  exact ⟨_,_,rfl,(and255 _).1,(and255 _).2,h0,hb⟩
theorem below_ok (N : Nat) (c : Den tL01Cur) (h : okC c) (n : Int) (hn : 0 < n) : ∃ x c',x_f38 N c n = some (x,c',()) ∧ 0 ≤ x ∧ x < n ∧ okC c' := by
 unfold x_f38
 rw [dF (p := n ≤ 0) (by omega),dF (p := n = 0) (by omega)]
 simp only [cond_false,Bool.not_false,cond_true]
 cases hd : decide (n ≤ 256) with
 | true =>
  obtain ⟨x,c',e,h0,h1,hc⟩ := byte_ok N c h
  rw [e]
  exact ⟨x.tmod n,c',rfl,Int.tmod_nonneg _ h0,Int.tmod_lt_of_pos _ hn,hc⟩
 | false =>
  obtain ⟨x,c1,e1,a0,a1,hc1⟩ := byte_ok N c h
  obtain ⟨y,c2,e2,b0,b1,hc2⟩ := byte_ok N c1 hc1
  obtain ⟨z,c3,e3,d0,d1,hc3⟩ := byte_ok N c2 hc2
  obtain ⟨u,c4,e4,f0,f1,hc4⟩ := byte_ok N c3 hc3
  simp only [e1,e2,e3,e4,Option.bind_some,cond_false]
  have hw : 0 ≤ wrap64 ((wrap64 ((wrap64 ((wrap64 (x * (16777216:Int))) + (wrap64 (y * (65536:Int))))) + (wrap64 (z * (256:Int))))) + u) := by
   rw [w64 (x := x * 16777216) (by omega) (by omega),w64 (x := y * 65536) (by omega) (by omega),w64 (x := z * 256) (by omega) (by omega),w64 (x := x * 16777216 + y * 65536) (by omega) (by omega),w64 (x := x * 16777216 + y * 65536 + z * 256) (by omega) (by omega),w64 (by omega) (by omega)]
   omega
  exact ⟨_,c4,rfl,Int.tmod_nonneg _ hw,Int.tmod_lt_of_pos _ hn,hc4⟩
theorem new_ok {N : Nat} (hN : Big N) (L : List Int) (hL : L.length ≤ 1048576) : ∃ c,x_f41 N L = some (c,()) ∧ okC c := by
 have hN' : 1099511627776 ≤ N := hN
 unfold x_f41
 have key := iter_to (B := B_f41_L0 N (fun (x1,x2) => some ((x1,(0:Int),x2),())) (fun ρ3 => some (ρ3))) (A := Int) (fun i a => (L,a,(i : Int))) (fun i a r => ∃ s : Int,r = some ((L,(0:Int),s),())) L.length
  (fun i a rec_ hi h => by
   show ∃ s : Int,(bif _ then _ else _) = _
   rw [lt_rows _ hi,le_rows i,w64_up (Nat.le_refl i) (by omega)]
   simp only [cond_true,Bool.and_self]
   cases decide ((i : Int) < 4000)
   ·exact ⟨a,rfl⟩
   ·exact h _)
  (fun a rec_ => by
   show ∃ s : Int,(bif _ then _ else _) = _
   rw [at_end]
   exact ⟨a,rfl⟩)
  N (by omega) (wrap64 ((95501:Int) + (L.length : Int)))
 obtain ⟨s,e⟩ := key
 have e' : iter (B_f41_L0 N (fun (x1,x2) => some ((x1,(0:Int),x2),())) (fun ρ3 => some (ρ3))) N (L,wrap64 ((95501:Int) + (L.length : Int)),(0:Int)) = some ((L,(0:Int),s),()) := e
 rw [e']
 exact ⟨_,rfl,Int.le_refl _,hL⟩
theorem pick_ok (N : Nat) (c : Den tL01Cur) (h : okC c) (l : List Int) (hl : 0 < l.length) : ∃ x c',x_f43 N c l = some (x,c',()) ∧ x ∈ l ∧ okC c' := by
 obtain ⟨x,c',e,h0,h1,hc⟩ := below_ok N c h (l.length : Int) (by omega)
 unfold x_f43
 rw [e]
 simp only [Option.bind_some]
 rw [dT h0,dT h1]
 refine ⟨_,c',rfl,?_,hc⟩
 rw [List.getD_eq_getElem?_getD,List.getElem?_eq_getElem (by omega)]
 exact List.getElem_mem _
end Go.Proofs.Ytfmlmdnaeonobaa.C
namespace Go.Proofs.Ytfmlmdnaeonobaa.C
open Go Go.Proofs.Ytfmlmdnaeonobaa.Nx Go.RowKit
set_option linter.unusedVariables false
set_option linter.unusedSimpArgs false
theorem n40f {N : Nat} (hN : Big N) : 1099511627776 ≤ N := hN
def eqF (x f : Den tFact) : Bool := decide (x.1.1 = f.1.1) && (decide (x.1.2 = f.1.2) && decide (x.2 = f.2))
theorem eqF_iff {x f : Den tFact} : eqF x f = true ↔ x = f := by
 obtain ⟨⟨a,b⟩,c⟩ := x
 obtain ⟨⟨d,e⟩,g⟩ := f
 unfold eqF
 simp only [Bool.and_eq_true,decide_eq_true_eq]
 constructor
 ·rintro ⟨rfl,rfl,rfl⟩; rfl
 ·intro h; cases h; exact ⟨rfl,rfl,rfl⟩
def hasF (l : List (Den tFact)) (f : Den tFact) : Bool := l.any fun x => eqF x f
theorem hasF_iff {l : List (Den tFact)} {f : Den tFact} : hasF l f = true ↔ f ∈ l := by
 unfold hasF
 rw [List.any_eq_true]
 constructor
 ·rintro ⟨x,h1,h2⟩; rw [eqF_iff] at h2; rw [← h2]; exact h1
 ·intro h; exact ⟨f,h,eqF_iff.2 rfl⟩
def putF (l : List (Den tFact)) (f : Den tFact) : List (Den tFact) := bif hasF l f then l else l ++ [f]
theorem putF_len (l : List (Den tFact)) (f : Den tFact) : (putF l f).length ≤ l.length + 1 := by
 unfold putF
 cases hasF l f
 ·simp only [cond_false,List.length_append,List.length_cons,List.length_nil]; omega
 ·simp only [cond_true]; omega
theorem spec_has {N : Nat} (hN : Big N) (l : List (Den tFact)) (hl : l.length ≤ 1048576) (f : Den tFact) : x_f50 N l f = some (hasF l f) := by
 have hN' := n40f hN
 unfold x_f50 hasF
 exact iter_row (B := B_f50_L0 N (fun _ => some false) (fun ρ1 => some (ρ1))) l (fun i => (l,f,(i : Int))) (fun i l => some (l.any fun x => eqF x f))
  (fun i hi rec_ h => by
   show (bif _ then _ else _) = _
   rw [lt_rows l hi,le_rows i,getD_at l hi,w64_up (Nat.le_refl i) (by omega),h,List.any_cons]
   simp only [Bool.and_self,cond_true]
   change (bif eqF l[i] f then _ else _) = _
   cases eqF l[i] f <;> rfl)
  (fun rec_ => by
   show (bif _ then _ else _) = _
   rw [at_end l]; rfl) (by omega)
theorem spec_put {N : Nat} (hN : Big N) (l : List (Den tFact)) (hl : l.length ≤ 1048576) (f : Den tFact) : x_f51 N l f = some (putF l f,(),()) := by
 unfold x_f51 putF
 rw [spec_has hN l hl,Option.bind_some,dT (p := (l.length + [f].length) * 24 ≤ 140737488355328) (by simp only [List.length_cons,List.length_nil]; omega)]
 cases hasF l f <;> rfl
theorem dcomF (x f : Den tFact) : (decide (f.1.1 = x.1.1) && (decide (f.1.2 = x.1.2) && decide (f.2 = x.2))) = eqF x f := by
 unfold eqF
 rw [decide_eq_decide.2 (eq_comm (a := f.1.1) (b := x.1.1)),decide_eq_decide.2 (eq_comm (a := f.1.2) (b := x.1.2)),decide_eq_decide.2 (eq_comm (a := f.2) (b := x.2))]
theorem indexF {N : Nat} (hN : Big N) (l : List (Den tFact)) (hl : l.length ≤ 1048576) (f : Den tFact) : x_f23 N l f = some (findI (fun x => eqF x f) 0 l) := by
 unfold x_f23
 exact index_func (d := dft tFact) (L := l) (by omega) f (f := fun x => some (eqF x f)) (fun x => eqF x f) (fun x _ => rfl) hN (B := B_f23_L0 N (fun _ => some (-1:Int)) (fun ρ1 => some (ρ1)))
  (fun rec_ s0 s7 s8 => by
   show (bif _ then (bif _ then (bif _ then _ else _) else _) else _) = _
   generalize s0.getD s8.toNat (dft tFact) = x
   rw [dcomF]
   rfl)
theorem containsF {N : Nat} (hN : Big N) (l : List (Den tFact)) (hl : l.length ≤ 1048576) (f : Den tFact) : x_f21 N l f = some (hasF l f) := by
 unfold x_f21
 rw [indexF hN l hl,Option.bind_some,findI_any]; rfl
theorem cloneF (N : Nat) (L : List (Den tFact)) (hL : L.length ≤ 1048576) : x_f19 N L = some L := by
 unfold x_f19
 simp only [List.length_nil,List.nil_append]
 rw [dT (p := (0 + L.length) * 24 ≤ 140737488355328) (by omega)]
 by_cases h : L.length = 0
 ·obtain rfl : L = [] := List.length_eq_zero_iff.1 h
  rw [dT h]
  exact agree_self _
 ·rw [dF h]; rfl
def whoA (r : Den tRole) : Nat → List (Den tFact) → List Int
 | _,[] => []
 | i,f :: fs => bif decide (f.1.1 = r.1) && decide (f.1.2 = r.2) then (i : Int) :: whoA r (i + 1) fs else whoA r (i + 1) fs
theorem whoA_len (r : Den tRole) : ∀ (l : List (Den tFact)) (i : Nat),(whoA r i l).length ≤ l.length
 | [],i => Nat.le_refl _
 | f :: fs,i => by
  unfold whoA
  have := whoA_len r fs (i + 1)
  cases decide (f.1.1 = r.1) && decide (f.1.2 = r.2)
  ·simp only [cond_false,List.length_cons]; omega
  ·simp only [cond_true,List.length_cons]; omega
theorem whoA_mem (r : Den tRole) : ∀ (l : List (Den tFact)) (i : Nat),∀ x ∈ whoA r i l,∃ k : Nat,∃ hk : k < l.length,x = ((i + k : Nat) : Int) ∧ (l[k]).1 = r
 | [],i,x,h => by cases h
 | f :: fs,i,x,h => by
  unfold whoA at h
  have rest : x ∈ whoA r (i + 1) fs → ∃ k : Nat,∃ hk : k < (f :: fs).length,x = ((i + k : Nat) : Int) ∧ ((f :: fs)[k]).1 = r := fun h => by
   obtain ⟨k,hk,e,h2⟩ := whoA_mem r fs (i + 1) x h
   exact ⟨k + 1,by simpa using hk,by rw [e]; congr 1; omega,by simpa using h2⟩
  cases hb : decide (f.1.1 = r.1) && decide (f.1.2 = r.2) with
  | false => rw [hb] at h; exact rest h
  | true =>
   rw [hb,cond_true] at h
   simp only [Bool.and_eq_true,decide_eq_true_eq] at hb
   rcases List.mem_cons.1 h with rfl | h
   ·refine ⟨0,by simp,by simp,?_⟩
    obtain ⟨⟨a,b⟩,c⟩ := f
    obtain ⟨d,e⟩ := r
    simp only at hb
    rw [List.getElem_cons_zero]
    simp only
    rw [hb.1,hb.2]
   ·exact rest h
def okF (f : Den tFact) : Prop := roleOk f.1 = true ∧ inR f.2 0 5 = true
theorem factOk_i (N : Nat) (f : Den tFact) : x_f8 N f = some (roleOk f.1 && inR f.2 0 5) := by
 unfold x_f8
 rw [roleOk_i,Option.bind_some,isPerson_i]
 cases roleOk f.1 <;> rfl
theorem impl_whoOf {N : Nat} (hN : Big N) (l : List (Den tFact)) (hl : l.length ≤ 1048576) (ho : ∀ f ∈ l,okF f) (r : Den tRole) : x_f14 N l r = some (whoA r 0 l) := by
 have hN' := n40f hN
 unfold x_f14
 have key := iter_to (B := B_f14_L0 N (fun x2 => some x2) (fun ρ3 => some (ρ3))) (A := List Int) (fun i a => (r,a,l,(l.length : Int),(i : Int))) (fun i a q => a.length ≤ i → q = some (a ++ whoA r i (l.drop i))) l.length
  (fun i a rec_ hi ih ha => by
   obtain ⟨h1,h2⟩ := ho _ (List.getElem_mem hi)
   show (bif _ then _ else _) = _
   rw [lt_rows l hi,le_rows i,getD_at l hi,w64_up (Nat.le_refl i) (by omega),drop_cons hi]
   simp only [Bool.and_self,cond_true]
   unfold whoA
   cases decide ((l[i]).1.1 = r.1) && decide ((l[i]).1.2 = r.2) with
   | false => exact ih a (by omega)
   | true =>
    have e : x_f8 N (((l[i]).1.1,(l[i]).1.2),(l[i]).2) = some true := by
     rw [factOk_i]
     show some (roleOk (l[i]).1 && inR (l[i]).2 0 5) = _
     rw [h1,h2]; rfl
    simp only [cond_true]
    rw [e,Option.bind_some,dT (p := (a.length + [(i : Int)].length) * 8 ≤ 140737488355328) (by simp only [List.length_cons,List.length_nil]; omega)]
    have := ih (a ++ [(i : Int)]) (by simp only [List.length_append,List.length_cons,List.length_nil]; omega)
    rw [List.append_assoc] at this
    exact this)
  (fun a rec_ ha => by
   show (bif _ then _ else _) = _
   rw [dF (Int.lt_irrefl _),List.drop_length]
   simp [whoA])
  N (by omega) []
 exact key (by simp)
def der2 (l : List (Den tFact)) (c : Den tCred) (i : Int) : Den tDerived := ((c.2.1,(l.getD i.toNat (dft tFact)).2),[i])
def der3 (l : List (Den tFact)) (c : Den tCred) (i : Int) : List (Den tDerived) :=
 (whoA ((l.getD i.toNat (dft tFact)).2,c.2.2.2.2.1.2) 0 l).map fun k => ((c.2.1,(l.getD k.toNat (dft tFact)).2),[i,k])
def der4 (l : List (Den tFact)) (c : Den tCred) (i : Int) : List (Den tDerived) :=
 bif decide (0 ≤ findI (fun x => eqF x (c.2.2.2.2.1,(l.getD i.toNat (dft tFact)).2)) 0 l) then [((c.2.1,(l.getD i.toNat (dft tFact)).2),[i,findI (fun x => eqF x (c.2.2.2.2.1,(l.getD i.toNat (dft tFact)).2)) 0 l])] else []
def derI (l : List (Den tFact)) (c : Den tCred) : List (Den tDerived) :=
 bif decide (c.1 = 1) then [((c.2.1,c.2.2.1),[])] else
 bif decide (c.1 = 2) then (whoA c.2.2.2.1 0 l).map (der2 l c) else
 bif decide (c.1 = 3) then (whoA c.2.2.2.1 0 l).flatMap (der3 l c) else
 bif decide (c.1 = 4) then (whoA c.2.2.2.1 0 l).flatMap (der4 l c) else []
theorem derive1 (N : Nat) (w : Int) (fr : List Int) (out : List (Den tDerived)) (hl : out.length ≤ 2000000) (c : Den tCred) : x_f7 N w fr out c = some ((),(),(),out ++ [((c.2.1,w),fr)],()) := by
 unfold x_f7
 rw [dT (p := (out.length + [((c.2.1,w),fr)].length) * 48 ≤ 140737488355328) (by simp only [List.length_cons,List.length_nil]; omega)]
 rfl
theorem who_at {l : List (Den tFact)} {r : Den tRole} {i : Nat} (hi : i < (whoA r 0 l).length) : decide (0 ≤ (whoA r 0 l)[i]) = true ∧ decide ((whoA r 0 l)[i] < (l.length : Int)) = true := by
 obtain ⟨k,hk,e,_⟩ := whoA_mem r l 0 _ (List.getElem_mem hi)
 rw [e]
 exact ⟨decide_eq_true (by omega),decide_eq_true (by omega)⟩
theorem der3_len (l : List (Den tFact)) (c : Den tCred) (i : Int) : (der3 l c i).length ≤ l.length := by
 unfold der3; rw [List.length_map]; exact whoA_len _ _ _
theorem der4_len (l : List (Den tFact)) (c : Den tCred) (i : Int) : (der4 l c i).length ≤ 1 := by
 unfold der4
 cases decide (0 ≤ findI (fun x => eqF x (c.2.2.2.2.1,(l.getD i.toNat (dft tFact)).2)) 0 l) <;> simp
theorem impl_derive {N : Nat} (hN : Big N) (l : List (Den tFact)) (hl : l.length ≤ 1000) (ho : ∀ f ∈ l,okF f) (c : Den tCred) : x_f6 N l c = some (derI l c) := by
 have hN' := n40f hN
 have hw := whoA_len c.2.2.2.1 l 0
 unfold x_f6 derI
 rw [derive1 N _ _ _ (by simp),impl_whoOf hN l (by omega) ho,Option.bind_some,Option.bind_some,Option.bind_some,Option.bind_some]
 cases decide (c.1 = 1) with
 | true => rfl
 | false =>
  simp only [cond_false]
  have L1 : iter (B_f6_L1 N (fun x4 => some x4) (fun ρ5 => some (ρ5))) N (l,c,[],(),whoA c.2.2.2.1 0 l,((whoA c.2.2.2.1 0 l).length : Int),(0:Int)) = some ((whoA c.2.2.2.1 0 l).map (der2 l c)) := by
   have key := iter_to (B := B_f6_L1 N (fun x4 => some x4) (fun ρ5 => some (ρ5))) (A := List (Den tDerived)) (fun i a => (l,c,a,(),whoA c.2.2.2.1 0 l,((whoA c.2.2.2.1 0 l).length : Int),(i : Int))) (fun i a q => a.length ≤ i → q = some (a ++ ((whoA c.2.2.2.1 0 l).drop i).map (der2 l c))) (whoA c.2.2.2.1 0 l).length
    (fun i a rec_ hi ih ha => by
     obtain ⟨w1,w2⟩ := who_at hi
     show (bif _ then _ else _) = _
     rw [lt_rows _ hi,le_rows i,getD_at _ hi,w64_up (Nat.le_refl i) (by omega),drop_cons hi,w1,w2,derive1 N _ _ _ (by omega)]
     have := ih (a ++ [der2 l c (whoA c.2.2.2.1 0 l)[i]]) (by simp only [List.length_append,List.length_cons,List.length_nil]; omega)
     rw [List.append_assoc] at this
     exact this)
    (fun a rec_ ha => by
     show (bif _ then _ else _) = _
     rw [dF (Int.lt_irrefl _),List.drop_length]; simp)
    N (by omega) []
   exact key (by simp)
  have L3 : iter (B_f6_L3 N (fun x17 => some x17) (fun ρ18 => some (ρ18))) N (l,c,[],(),whoA c.2.2.2.1 0 l,((whoA c.2.2.2.1 0 l).length : Int),(0:Int)) = some ((whoA c.2.2.2.1 0 l).flatMap (der3 l c)) := by
   have key := iter_to (B := B_f6_L3 N (fun x17 => some x17) (fun ρ18 => some (ρ18))) (A := List (Den tDerived)) (fun i a => (l,c,a,(),whoA c.2.2.2.1 0 l,((whoA c.2.2.2.1 0 l).length : Int),(i : Int))) (fun i a q => a.length ≤ i * 1000 → q = some (a ++ ((whoA c.2.2.2.1 0 l).drop i).flatMap (der3 l c))) (whoA c.2.2.2.1 0 l).length
    (fun i a rec_ hi ih ha => by
     obtain ⟨w1,w2⟩ := who_at hi
     show (bif _ then _ else _) = _
     rw [lt_rows _ hi,le_rows i,getD_at _ hi,drop_cons hi,w1,w2,impl_whoOf hN l (by omega) ho,Option.bind_some]
     generalize hx : (whoA c.2.2.2.1 0 l)[i] = x
     have hq := whoA_len ((l.getD x.toNat (dft tFact)).2,c.2.2.2.2.1.2) l 0
     have hd : der3 l c x = (whoA ((l.getD x.toNat (dft tFact)).2,c.2.2.2.2.1.2) 0 l).map fun k => ((c.2.1,(l.getD k.toNat (dft tFact)).2),[x,k]) := rfl
     have hwa : ∀ {k : Nat} (hk : k < (whoA ((l.getD x.toNat (dft tFact)).2,c.2.2.2.2.1.2) 0 l).length),_ := fun {k} hk => who_at hk
     rw [List.flatMap_cons,hd]
     generalize whoA ((l.getD x.toNat (dft tFact)).2,c.2.2.2.2.1.2) 0 l = Q at hq hwa
     have inner := iter_to (B := B_f6_L5 N (fun (x9,x10,x11,x12,x13,x14,x15) => rec_ (x9,x10,x11,(),x13,x14,(wrap64 (x15 + (1:Int))))) (fun ρ16 => some (ρ16))) (A := List (Den tDerived)) (fun k b => (l,c,b,(),x,whoA c.2.2.2.1 0 l,((whoA c.2.2.2.1 0 l).length : Int),(i : Int),Q,(Q.length : Int),(k : Int)))
      (fun k b q => b.length ≤ a.length + k → b ++ (Q.drop k).map (fun k => ((c.2.1,(l.getD k.toNat (dft tFact)).2),[x,k])) = a ++ Q.map (fun k => ((c.2.1,(l.getD k.toNat (dft tFact)).2),[x,k])) → q = some (a ++ (Q.map (fun k => ((c.2.1,(l.getD k.toNat (dft tFact)).2),[x,k])) ++ ((whoA c.2.2.2.1 0 l).drop (i + 1)).flatMap (der3 l c)))) Q.length
      (fun k b rec2 hk ih2 hb he => by
       obtain ⟨w3,w4⟩ := hwa hk
       show (bif _ then _ else _) = _
       rw [lt_rows Q hk,le_rows k,getD_at Q hk,w64_up (Nat.le_refl k) (by omega),w3,w4,derive1 N _ _ _ (by omega)]
       refine ih2 (b ++ [((c.2.1,(l.getD (Q[k]).toNat (dft tFact)).2),[x,Q[k]])]) (by simp only [List.length_append,List.length_cons,List.length_nil]; omega) ?_
       rw [← he,drop_cons hk,List.map_cons,List.append_assoc]; rfl)
      (fun b rec2 hb he => by
       show (bif _ then _ else _) = _
       rw [dF (Int.lt_irrefl _)]
       rw [List.drop_length,List.map_nil,List.append_nil] at he
       simp only [cond_false]
       rw [w64_up (Nat.le_refl i) (by omega),he]
       have := ih (a ++ Q.map (fun k => ((c.2.1,(l.getD k.toNat (dft tFact)).2),[x,k]))) (by rw [List.length_append,List.length_map]; omega)
       rw [List.append_assoc] at this
       exact this)
      N (by omega) a
     exact inner (by omega) (by rw [List.drop_zero]))
    (fun a rec_ ha => by
     show (bif _ then _ else _) = _
     rw [dF (Int.lt_irrefl _),List.drop_length]; simp)
    N (by omega) []
   exact key (by simp)
  have L7 : iter (B_f6_L7 N (fun x22 => some x22) (fun ρ23 => some (ρ23))) N (l,c,[],(),whoA c.2.2.2.1 0 l,((whoA c.2.2.2.1 0 l).length : Int),(0:Int)) = some ((whoA c.2.2.2.1 0 l).flatMap (der4 l c)) := by
   have key := iter_to (B := B_f6_L7 N (fun x22 => some x22) (fun ρ23 => some (ρ23))) (A := List (Den tDerived)) (fun i a => (l,c,a,(),whoA c.2.2.2.1 0 l,((whoA c.2.2.2.1 0 l).length : Int),(i : Int))) (fun i a q => a.length ≤ i → q = some (a ++ ((whoA c.2.2.2.1 0 l).drop i).flatMap (der4 l c))) (whoA c.2.2.2.1 0 l).length
    (fun i a rec_ hi ih ha => by
     obtain ⟨w1,w2⟩ := who_at hi
     show (bif _ then _ else _) = _
     rw [lt_rows _ hi,le_rows i,getD_at _ hi,w64_up (Nat.le_refl i) (by omega),drop_cons hi,w1,w2,indexF hN l (by omega),Option.bind_some,derive1 N _ _ _ (by omega),List.flatMap_cons]
     generalize (whoA c.2.2.2.1 0 l)[i] = x
     have hd := der4_len l c x
     unfold der4 at hd ⊢
     simp only [Bool.and_self,cond_true]
     cases decide (0 ≤ findI (fun y => eqF y (c.2.2.2.2.1,(l.getD x.toNat (dft tFact)).2)) 0 l) with
     | false => exact ih a (by omega)
     | true =>
      have := ih (a ++ [((c.2.1,(l.getD x.toNat (dft tFact)).2),[x,findI (fun y => eqF y (c.2.2.2.2.1,(l.getD x.toNat (dft tFact)).2)) 0 l])]) (by simp only [List.length_append,List.length_cons,List.length_nil]; omega)
      rw [List.append_assoc] at this
      exact this)
    (fun a rec_ ha => by
     show (bif _ then _ else _) = _
     rw [dF (Int.lt_irrefl _),List.drop_length]; simp)
    N (by omega) []
   exact key (by simp)
  rw [L1,L3,L7]
  cases decide (c.1 = 2) <;> cases decide (c.1 = 3) <;> cases decide (c.1 = 4) <;> rfl
end Go.Proofs.Ytfmlmdnaeonobaa.C
namespace Go.Proofs.Ytfmlmdnaeonobaa.C
open Go Go.Proofs.Ytfmlmdnaeonobaa.Nx Go.RowKit
set_option linter.unusedVariables false
set_option linter.unusedSimpArgs false
abbrev fc (out : List (Den tFoundV)) : List (Den tFact) := out.map fun x => x.1
def addO (k : Int) (out : List (Den tFoundV)) (d : Den tDerived) : List (Den tFoundV) := bif hasF (fc out) d.1 then out else out ++ [(d.1,(k,d.2))]
def stepO (out : List (Den tFoundV)) (k : Int) (c : Den tCred) : List (Den tFoundV) := bif credOk c then (derI (fc out) c).foldl (addO k) out else out
def passO : Nat → List (Den tFoundV) → List (Den tCred) → List (Den tFoundV)
 | _,out,[] => out
 | k,out,c :: cs => passO (k + 1) (stepO out (k : Int) c) cs
def closeO (list : List (Den tCred)) : Nat → List (Den tFoundV) → List (Den tFoundV)
 | 0,out => out
 | n + 1,out => bif decide (out.length < (passO 0 out list).length) then closeO list n (passO 0 out list) else passO 0 out list
def stepF (l : List (Den tFact)) (c : Den tCred) : List (Den tFact) := bif credOk c then ((derI l c).map fun d => d.1).foldl putF l else l
def closeF (list : List (Den tCred)) : Nat → List (Den tFact) → List (Den tFact)
 | 0,l => l
 | n + 1,l => bif decide (l.length < (list.foldl stepF l).length) then closeF list n (list.foldl stepF l) else list.foldl stepF l
theorem addO_fc (k : Int) (out : List (Den tFoundV)) (d : Den tDerived) : fc (addO k out d) = putF (fc out) d.1 := by
 unfold addO putF
 cases hasF (fc out) d.1
 ·simp [fc]
 ·rfl
theorem foldO_fc (k : Int) : ∀ (ds : List (Den tDerived)) (out : List (Den tFoundV)),fc (ds.foldl (addO k) out) = (ds.map fun d => d.1).foldl putF (fc out)
 | [],out => rfl
 | d :: ds,out => by rw [List.foldl_cons,foldO_fc k ds,addO_fc,List.map_cons,List.foldl_cons]
theorem stepO_fc (out : List (Den tFoundV)) (k : Int) (c : Den tCred) : fc (stepO out k c) = stepF (fc out) c := by
 unfold stepO stepF
 cases credOk c
 ·rfl
 ·exact foldO_fc k _ out
theorem passO_fc : ∀ (list : List (Den tCred)) (k : Nat) (out : List (Den tFoundV)),fc (passO k out list) = list.foldl stepF (fc out)
 | [],_,_ => rfl
 | c :: cs,k,out => by unfold passO; rw [passO_fc cs,stepO_fc,List.foldl_cons]
theorem fc_len (out : List (Den tFoundV)) : (fc out).length = out.length := List.length_map _
theorem closeO_fc (list : List (Den tCred)) : ∀ (n : Nat) (out : List (Den tFoundV)),fc (closeO list n out) = closeF list n (fc out)
 | 0,_ => rfl
 | n + 1,out => by
  unfold closeO closeF
  rw [← passO_fc list 0 out,fc_len,fc_len]
  cases decide (out.length < (passO 0 out list).length)
  ·rfl
  ·exact closeO_fc list n _
def OkL (l : List (Den tFact)) : Prop := l.Nodup ∧ ∀ f ∈ l,okF f
theorem nodup_lt : ∀ (n : Nat) (l : List Nat),l.Nodup → (∀ x ∈ l,x < n) → l.length ≤ n
 | 0,l,_,h => by
  cases l with
  | nil => simp
  | cons x xs => exact absurd (h x (by simp)) (by omega)
 | n + 1,l,hn,h => by
  have h1 := nodup_lt n (l.erase n) (hn.erase n) (fun x hx => by
   have := (List.Nodup.mem_erase_iff hn).1 hx
   have := h x this.2
   omega)
  have := List.length_erase (a := n) (l := l)
  split at this <;> omega
def codI (a b c : Int) : Nat := ((a * 4 + b) * 6 + c).toNat
theorem codI_inj {a b c d e g : Int} (h1 : (0 ≤ a ∧ a ≤ 5) ∧ (0 ≤ b ∧ b ≤ 3) ∧ (0 ≤ c ∧ c ≤ 5)) (h2 : (0 ≤ d ∧ d ≤ 5) ∧ (0 ≤ e ∧ e ≤ 3) ∧ (0 ≤ g ∧ g ≤ 5)) (h : codI a b c = codI d e g) : a = d ∧ b = e ∧ c = g := by
 unfold codI at h; omega
theorem codI_lt {a b c : Int} (h1 : (0 ≤ a ∧ a ≤ 5) ∧ (0 ≤ b ∧ b ≤ 3) ∧ (0 ≤ c ∧ c ≤ 5)) : codI a b c < 144 := by unfold codI; omega
def codeF (f : Den tFact) : Nat := codI f.1.1 f.1.2 f.2
theorem inR_ok {x a b : Int} (h : inR x a b = true) : a ≤ x ∧ x ≤ b := by
 unfold inR at h
 rw [Bool.and_eq_true,decide_eq_true_eq,decide_eq_true_eq] at h
 exact h
theorem okF_r {f : Den tFact} (h : okF f) : ((0:Int) ≤ f.1.1 ∧ @LE.le Int _ f.1.1 5) ∧ ((0:Int) ≤ f.1.2 ∧ @LE.le Int _ f.1.2 3) ∧ ((0:Int) ≤ f.2 ∧ @LE.le Int _ f.2 5) := by
 obtain ⟨h1,h2⟩ := h
 unfold roleOk at h1
 rw [Bool.and_eq_true] at h1
 exact ⟨inR_ok h1.1,inR_ok h1.2,inR_ok h2⟩
theorem OkL.len {l : List (Den tFact)} (h : OkL l) : l.length ≤ 144 := by
 have h1 : (l.map codeF).Nodup := by
  rw [List.nodup_iff_pairwise_ne,List.pairwise_map]
  have := h.1
  rw [List.nodup_iff_pairwise_ne] at this
  refine List.Pairwise.imp_of_mem (fun {a b} ha hb hne he => hne ?_) this
  obtain ⟨e1,e2,e3⟩ := codI_inj (okF_r (h.2 a ha)) (okF_r (h.2 b hb)) he
  exact eqF_iff.1 (by unfold eqF; rw [decide_eq_true e1,decide_eq_true e2,decide_eq_true e3]; rfl)
 have := nodup_lt 144 _ h1 (fun x hx => by
  obtain ⟨f,hf,rfl⟩ := List.mem_map.1 hx
  exact codI_lt (okF_r (h.2 f hf)))
 rwa [List.length_map] at this
theorem putF_ok {l : List (Den tFact)} (h : OkL l) {f : Den tFact} (hf : okF f) : OkL (putF l f) := by
 unfold putF
 cases hb : hasF l f with
 | true => exact h
 | false =>
  have hm : f ∉ l := fun hm => by rw [hasF_iff.2 hm] at hb; cases hb
  refine ⟨List.nodup_append.2 ⟨h.1,by simp,fun x hx y hy e => ?_⟩,fun x hx => ?_⟩
  ·rw [List.mem_singleton.1 hy] at e
   exact hm (e ▸ hx)
  ·rcases List.mem_append.1 hx with hx | hx
   ·exact h.2 x hx
   ·rw [List.mem_singleton.1 hx]; exact hf
theorem foldF_ok : ∀ (ds l : List (Den tFact)),OkL l → (∀ f ∈ ds,okF f) → OkL (ds.foldl putF l)
 | [],_,h,_ => h
 | d :: ds,l,h,hd => foldF_ok ds _ (putF_ok h (hd d (by simp))) fun f hf => hd f (by simp [hf])
theorem foldF_len : ∀ (ds l : List (Den tFact)),l.length ≤ (ds.foldl putF l).length
 | [],_ => Nat.le_refl _
 | d :: ds,l => by
  refine Nat.le_trans ?_ (foldF_len ds _)
  unfold putF
  cases hasF l d
  ·simp only [cond_false,List.length_append,List.length_cons,List.length_nil]; omega
  ·exact Nat.le_refl _
theorem who_ok {l : List (Den tFact)} (h : ∀ f ∈ l,okF f) {r : Den tRole} {i : Int} (hi : i ∈ whoA r 0 l) : inR (l.getD i.toNat (dft tFact)).2 0 5 = true := by
 obtain ⟨k,hk,e,_⟩ := whoA_mem r l 0 i hi
 subst e
 have : l.getD ((0 + k : Nat) : Int).toNat (dft tFact) = l[k] := by
  rw [Nat.zero_add,Int.toNat_natCast,List.getD_eq_getElem?_getD,List.getElem?_eq_getElem hk]; rfl
 rw [this]
 exact (h _ (List.getElem_mem hk)).2
theorem derI_ok {l : List (Den tFact)} (h : ∀ f ∈ l,okF f) {c : Den tCred} (hc : credOk c = true) : ∀ d ∈ derI l c,okF d.1 := by
 have hr : roleOk c.2.1 = true := by unfold credOk at hc; rw [Bool.and_eq_true] at hc; exact hc.1
 intro d hd
 unfold derI at hd
 cases h1 : decide (c.1 = 1) with
 | true =>
  rw [h1] at hd
  have : d = ((c.2.1,c.2.2.1),[]) := by simpa using hd
  subst this
  refine ⟨hr,?_⟩
  unfold credOk at hc
  rw [h1] at hc
  simp only [Bool.and_eq_true,cond_true] at hc
  exact hc.2.2.2.1
 | false =>
  rw [h1] at hd
  cases h2 : decide (c.1 = 2) with
  | true =>
   rw [h2] at hd
   simp only [cond_false,cond_true] at hd
   obtain ⟨i,hi,rfl⟩ := List.mem_map.1 hd
   exact ⟨hr,who_ok h hi⟩
  | false =>
   rw [h2] at hd
   cases h3 : decide (c.1 = 3) with
   | true =>
    rw [h3] at hd
    simp only [cond_false,cond_true] at hd
    obtain ⟨i,hi,hd⟩ := List.mem_flatMap.1 hd
    obtain ⟨k,hk,rfl⟩ := List.mem_map.1 hd
    exact ⟨hr,who_ok h hk⟩
   | false =>
    rw [h3] at hd
    cases h4 : decide (c.1 = 4) with
    | true =>
     rw [h4] at hd
     simp only [cond_false,cond_true] at hd
     obtain ⟨i,hi,hd⟩ := List.mem_flatMap.1 hd
     unfold der4 at hd
     revert hd
     cases decide (0 ≤ findI (fun x => eqF x (c.2.2.2.2.1,(l.getD i.toNat (dft tFact)).2)) 0 l) with
     | false => intro hd; cases hd
     | true =>
      intro hd
      have hd := List.mem_singleton.1 hd
      rw [hd]
      exact ⟨hr,who_ok h hi⟩
    | false => rw [h4] at hd; cases hd
theorem stepF_ok {l : List (Den tFact)} (h : OkL l) (c : Den tCred) : OkL (stepF l c) := by
 unfold stepF
 cases hc : credOk c with
 | false => exact h
 | true =>
  refine foldF_ok _ _ h fun f hf => ?_
  obtain ⟨d,hd,rfl⟩ := List.mem_map.1 hf
  exact derI_ok h.2 hc d hd
theorem stepF_len (l : List (Den tFact)) (c : Den tCred) : l.length ≤ (stepF l c).length := by
 unfold stepF
 cases credOk c
 ·exact Nat.le_refl _
 ·exact foldF_len _ _
theorem passF_ok : ∀ (list : List (Den tCred)) (l : List (Den tFact)),OkL l → OkL (list.foldl stepF l)
 | [],_,h => h
 | c :: cs,l,h => passF_ok cs _ (stepF_ok h c)
theorem passF_len : ∀ (list : List (Den tCred)) (l : List (Den tFact)),l.length ≤ (list.foldl stepF l).length
 | [],_ => Nat.le_refl _
 | c :: cs,l => Nat.le_trans (stepF_len l c) (passF_len cs _)
theorem flat_le {α β : Type} (g : α → List β) (m : Nat) (hg : ∀ x,(g x).length ≤ m) : ∀ L : List α,(L.flatMap g).length ≤ L.length * m
 | [] => by simp
 | x :: xs => by
  rw [List.flatMap_cons,List.length_append,List.length_cons,Nat.succ_mul]
  have := flat_le g m hg xs
  have := hg x
  omega
theorem derI_len {l : List (Den tFact)} (hl : l.length ≤ 144) (c : Den tCred) : (derI l c).length ≤ 30000 := by
 have hw := whoA_len c.2.2.2.1 l 0
 have f3 := flat_le (der3 l c) 144 (fun i => by have := der3_len l c i; omega) (whoA c.2.2.2.1 0 l)
 have f4 := flat_le (der4 l c) 1 (der4_len l c) (whoA c.2.2.2.1 0 l)
 have : (whoA c.2.2.2.1 0 l).length * 144 ≤ 144 * 144 := Nat.mul_le_mul_right _ (by omega)
 unfold derI
 cases decide (c.1 = 1)
 ·cases decide (c.1 = 2)
  ·cases decide (c.1 = 3)
   ·cases decide (c.1 = 4)
    ·simp
    ·simp only [cond_false,cond_true]; omega
   ·simp only [cond_false,cond_true]; omega
  ·simp only [cond_false,cond_true,List.length_map]; omega
 ·simp
theorem find_L4 {N : Nat} (hN : Big N) {kx kr} (s0 s18 : Den (.sl tCred)) (s5 k s19 s20 : Int) (D : List (Den tDerived)) (out : List (Den tFoundV)) (hb : out.length + D.length ≤ 100000) :
  iter (B_f9_L4 (Ω := (List (Den tFoundV)) × DenW (.d 0 (.sl tCred))) N kx kr) N (s0,fc out,out,s5,k,s18,s19,s20,D,(D.length : Int),(0:Int)) = kx (s0,fc (D.foldl (addO k) out),D.foldl (addO k) out,s5,s18,s19,s20) := by
 have hN' := n40f hN
 have key := iter_to (B := B_f9_L4 (Ω := (List (Den tFoundV)) × DenW (.d 0 (.sl tCred))) N kx kr) (A := List (Den tFoundV)) (fun i a => (s0,fc a,a,s5,k,s18,s19,s20,D,(D.length : Int),(i : Int))) (fun i a q => a.length ≤ out.length + i → q = kx (s0,fc ((D.drop i).foldl (addO k) a),(D.drop i).foldl (addO k) a,s5,s18,s19,s20)) D.length
  (fun i a rec_ hi ih ha => by
   have hfl := fc_len a
   have hcf := containsF hN (fc a) (by omega) (D[i]).1
   show (bif _ then _ else _) = _
   rw [lt_rows D hi,le_rows i,getD_at D hi,w64_up (Nat.le_refl i) (by omega),drop_cons hi,List.foldl_cons]
   simp only [Bool.and_self,cond_true]
   have e : x_f21 N (fc a) (((D[i]).1.1.1,(D[i]).1.1.2),(D[i]).1.2) = some (hasF (fc a) (D[i]).1) := hcf
   rw [e,Option.bind_some]
   have hadd : addO k a D[i] = bif hasF (fc a) (D[i]).1 then a else a ++ [((D[i]).1,(k,(D[i]).2))] := rfl
   have hal := ih (addO k a D[i])
   revert hal
   rw [hadd]
   cases hasF (fc a) (D[i]).1 with
   | true => intro hal; exact hal (by simp only [cond_true]; omega)
   | false =>
    intro hal
    simp only [Bool.not_false,cond_true,List.length_cons,List.length_nil]
    rw [dT (p := ((fc a).length + (0 + 1)) * 24 ≤ 140737488355328) (by omega),dT (p := (a.length + (0 + 1)) * 56 ≤ 140737488355328) (by omega)]
    have := hal (by simp only [cond_false,List.length_append,List.length_cons,List.length_nil]; omega)
    simp only [cond_false] at this ⊢
    rw [show fc (a ++ [((D[i]).1,(k,(D[i]).2))]) = fc a ++ [(D[i]).1] from by simp [fc]] at this
    exact this)
  (fun a rec_ ha => by
   show (bif _ then _ else _) = _
   rw [dF (Int.lt_irrefl _),List.drop_length]; rfl)
  N (by omega) out
 exact key (by omega)
theorem find_L2 {N : Nat} (hN : Big N) {kx kr} (list : List (Den tCred)) (hl : list.length ≤ 1048576) (s5 : Int) (out : List (Den tFoundV)) (ho : OkL (fc out)) :
  iter (B_f9_L2 (Ω := (List (Den tFoundV)) × DenW (.d 0 (.sl tCred))) N kx kr) N (list,fc out,out,s5,list,(list.length : Int),(0:Int)) = kx (list,fc (passO 0 out list),passO 0 out list,s5) := by
 have hN' := n40f hN
 have key := iter_to (B := B_f9_L2 (Ω := (List (Den tFoundV)) × DenW (.d 0 (.sl tCred))) N kx kr) (A := List (Den tFoundV)) (fun i a => (list,fc a,a,s5,list,(list.length : Int),(i : Int))) (fun i a q => OkL (fc a) → q = kx (list,fc (passO i a (list.drop i)),passO i a (list.drop i),s5)) list.length
  (fun i a rec_ hi ih ha => by
   have hal := ha.len
   have hfl := fc_len a
   have hd := derI_len hal (list[i])
   have eta : ∀ c : Den tCred,((c.1,(c.2.1.1,c.2.1.2),c.2.2.1,(c.2.2.2.1.1,c.2.2.2.1.2),(c.2.2.2.2.1.1,c.2.2.2.2.1.2),c.2.2.2.2.2.1,c.2.2.2.2.2.2) : Den tCred) = c := fun _ => rfl
   have hstep := ih (stepO a (i : Int) list[i]) (by rw [stepO_fc]; exact stepF_ok ha _)
   show (bif _ then _ else _) = _
   rw [lt_rows list hi,le_rows i,getD_at list hi,drop_cons hi]
   simp only [Bool.and_self,cond_true,eta]
   rw [credOk_i,Option.bind_some,cloneF N (fc a) (by omega),Option.bind_some,impl_derive hN (fc a) (by omega) ha.2,Option.bind_some]
   unfold passO
   revert hstep
   unfold stepO
   cases credOk list[i] with
   | false =>
    intro hstep
    simp only [Bool.not_false,cond_true,cond_false]
    rw [w64_up (Nat.le_refl i) (by omega)]
    exact hstep
   | true =>
    intro hstep
    simp only [Bool.not_true,cond_true,cond_false]
    rw [find_L4 hN _ _ _ _ _ _ _ _ (by omega)]
    simp only
    rw [w64_up (Nat.le_refl i) (by omega)]
    exact hstep)
  (fun a rec_ ha => by
   show (bif _ then _ else _) = _
   rw [dF (Int.lt_irrefl _),List.drop_length]; rfl)
  N (by omega) out
 exact key ho
theorem find_L0 {N : Nat} (hN : Big N) {kx kr} (list : List (Den tCred)) (hl : list.length ≤ 1048576) : ∀ (n : Nat) (out : List (Den tFoundV)) (b : Int),OkL (fc out) → 145 ≤ out.length + n → b < out.length → ∀ M,n < M →
  iter (B_f9_L0 (Ω := (List (Den tFoundV)) × DenW (.d 0 (.sl tCred))) N kx kr) M (list,fc out,out,b) = kx (closeO list n out)
 | 0,out,b,ho,h145,_,_,_ => by have := ho.len; rw [fc_len] at this; omega
 | n + 1,out,b,ho,h145,hb,M,hM => by
  obtain ⟨M,rfl⟩ : ∃ m,M = m + 1 := ⟨M - 1,by omega⟩
  have hfl := fc_len out
  have hpl := fc_len (passO 0 out list)
  have hlen := passF_len list (fc out)
  rw [← passO_fc list 0 out] at hlen
  have hok := passF_ok list (fc out) ho
  rw [← passO_fc list 0 out] at hok
  show (bif _ then _ else _) = _
  rw [dT (p := b < ((fc out).length : Int)) (by omega)]
  simp only [cond_true]
  rw [find_L2 hN list hl _ out ho]
  unfold closeO
  show iter (B_f9_L0 (Ω := (List (Den tFoundV)) × DenW (.d 0 (.sl tCred))) N kx kr) M (list,fc (passO 0 out list),passO 0 out list,((fc out).length : Int)) = _
  by_cases hg : out.length < (passO 0 out list).length
  ·rw [dT hg,cond_true]
   exact find_L0 hN list hl n _ _ hok (by omega) (by omega) M (by omega)
  ·rw [dF hg,cond_false]
   obtain ⟨M,rfl⟩ : ∃ m,M = m + 1 := ⟨M - 1,by omega⟩
   show (bif _ then _ else _) = _
   rw [dF (p := ((fc out).length : Int) < ((fc (passO 0 out list)).length : Int)) (by omega)]; rfl
theorem impl_findFacts {N : Nat} (hN : Big N) (list : List (Den tCred)) (hl : list.length ≤ 1048576) : x_f9 N list = some (closeO list 145 [],()) := by
 have hN' := n40f hN
 unfold x_f9
 have := find_L0 (kx := fun x18 => some (x18,())) (kr := fun ρ19 => some ρ19) hN list hl 145 [] (-1) ⟨List.nodup_nil,fun f h => by cases h⟩ (by simp) (by simp) N (by omega)
 refine (congrArg (fun o => Option.bind o _) this).trans ?_
 rfl
end Go.Proofs.Ytfmlmdnaeonobaa.C
namespace Go.Proofs.Ytfmlmdnaeonobaa.C
open Go Go.Proofs.Ytfmlmdnaeonobaa.Nx Go.RowKit
set_option linter.unusedVariables false
set_option linter.unusedSimpArgs false
def g1 (l : List (Den tFact)) (c : Den tCred) (i : Int) : List (Den tFact) :=
 bif decide (c.1 = 2) || hasF l (c.2.2.2.2.1,(l.getD i.toNat (dft tFact)).2) then [(c.2.1,(l.getD i.toNat (dft tFact)).2)] else []
def g3 (l : List (Den tFact)) (c : Den tCred) (i : Int) : List (Den tFact) :=
 (whoA ((l.getD i.toNat (dft tFact)).2,c.2.2.2.2.1.2) 0 l).map fun k => (c.2.1,(l.getD k.toNat (dft tFact)).2)
theorem getD_n {l : List (Den tFact)} {i : Nat} (hi : i < l.length) : l.getD ((i : Int)).toNat (dft tFact) = l[i] := by
 rw [Int.toNat_natCast,List.getD_eq_getElem?_getD,List.getElem?_eq_getElem hi]; rfl
theorem foldF_up : ∀ (ds l : List (Den tFact)),(ds.foldl putF l).length ≤ l.length + ds.length
 | [],_ => Nat.le_refl _
 | d :: ds,l => by
  have h1 := foldF_up ds (putF l d)
  have h2 := putF_len l d
  simp only [List.foldl_cons,List.length_cons]; omega
theorem spec_L1 {N : Nat} (hN : Big N) {kx kr} (l : List (Den tFact)) (hl : l.length ≤ 1000) (c : Den tCred) (out : List (Den tFact)) (ho : out.length ≤ 100000) :
  iter (B_f32_L1 (Ω := List (Den tFact)) N kx kr) N (l,c,out,(0:Int)) = kx (((whoA c.2.2.2.1 0 l).flatMap (g1 l c)).foldl putF out) := by
 have hN' := n40f hN
 have key := iter_to (B := B_f32_L1 (Ω := List (Den tFact)) N kx kr) (A := List (Den tFact)) (fun i a => (l,c,a,(i : Int))) (fun i a q => a.length ≤ out.length + i → q = kx (((whoA c.2.2.2.1 i (l.drop i)).flatMap (g1 l c)).foldl putF a)) l.length
  (fun i a rec_ hi ih ha => by
   have hpl := putF_len a (c.2.1,(l[i]).2)
   show (bif _ then _ else _) = _
   rw [lt_rows l hi,le_rows i,getD_at l hi,w64_up (Nat.le_refl i) (by omega),drop_cons hi]
   simp only [Bool.and_self,cond_true]
   unfold whoA
   cases decide ((l[i]).1.1 = c.2.2.2.1.1) && decide ((l[i]).1.2 = c.2.2.2.1.2) with
   | false => exact ih a (by omega)
   | true =>
    simp only [cond_true]
    rw [List.flatMap_cons,List.foldl_append]
    rw [spec_has hN l (by omega),spec_put hN a (by omega)]
    simp only [Option.bind_some]
    have e : g1 l c (i : Int) = bif decide (c.1 = 2) || hasF l (c.2.2.2.2.1,(l[i]).2) then [(c.2.1,(l[i]).2)] else [] := by unfold g1; rw [getD_n hi]
    rw [e]
    cases decide (c.1 = 2) with
    | true => exact ih _ (by omega)
    | false =>
     simp only [Bool.false_or,cond_false]
     cases hasF l (c.2.2.2.2.1,(l[i]).2) with
     | false => exact ih a (by omega)
     | true => exact ih _ (by omega))
  (fun a rec_ ha => by
   show (bif _ then _ else _) = _
   rw [at_end l,List.drop_length]; rfl)
  N (by omega) out
 rw [List.drop_zero] at key
 exact key (by omega)
theorem spec_L5 {N : Nat} (hN : Big N) {kx kr} (l : List (Den tFact)) (hl : l.length ≤ 1000) (c : Den tCred) (out : List (Den tFact)) (ho : out.length ≤ 1000000) (s8 : Int) (r : Den tRole) :
  iter (B_f32_L5 (Ω := List (Den tFact)) N kx kr) N (l,c,out,s8,r,(0:Int)) = kx (l,c,((whoA r 0 l).map fun k => (c.2.1,(l.getD k.toNat (dft tFact)).2)).foldl putF out,s8) := by
 have hN' := n40f hN
 have key := iter_to (B := B_f32_L5 (Ω := List (Den tFact)) N kx kr) (A := List (Den tFact)) (fun i a => (l,c,a,s8,r,(i : Int))) (fun i a q => a.length ≤ out.length + i → q = kx (l,c,((whoA r i (l.drop i)).map fun k => (c.2.1,(l.getD k.toNat (dft tFact)).2)).foldl putF a,s8)) l.length
  (fun i a rec_ hi ih ha => by
   have hpl := putF_len a (c.2.1,(l[i]).2)
   show (bif _ then _ else _) = _
   rw [lt_rows l hi,le_rows i,getD_at l hi,w64_up (Nat.le_refl i) (by omega),drop_cons hi]
   simp only [Bool.and_self,cond_true]
   unfold whoA
   cases decide ((l[i]).1.1 = r.1) && decide ((l[i]).1.2 = r.2) with
   | false => exact ih a (by omega)
   | true =>
    simp only [cond_true]
    rw [List.map_cons,List.foldl_cons,getD_n hi,spec_put hN a (by omega)]
    simp only [Option.bind_some]
    exact ih _ (by omega))
  (fun a rec_ ha => by
   show (bif _ then _ else _) = _
   rw [at_end l,List.drop_length]; rfl)
  N (by omega) out
 rw [List.drop_zero] at key
 exact key (by omega)
theorem spec_L3 {N : Nat} (hN : Big N) {kx kr} (l : List (Den tFact)) (hl : l.length ≤ 144) (c : Den tCred) (out : List (Den tFact)) (ho : out.length ≤ 144) :
  iter (B_f32_L3 (Ω := List (Den tFact)) N kx kr) N (l,c,out,(0:Int)) = kx (((whoA c.2.2.2.1 0 l).flatMap (g3 l c)).foldl putF out) := by
 have hN' := n40f hN
 have key := iter_to (B := B_f32_L3 (Ω := List (Den tFact)) N kx kr) (A := List (Den tFact)) (fun i a => (l,c,a,(i : Int))) (fun i a q => a.length ≤ 144 + i * 144 → q = kx (((whoA c.2.2.2.1 i (l.drop i)).flatMap (g3 l c)).foldl putF a)) l.length
  (fun i a rec_ hi ih ha => by
   show (bif _ then _ else _) = _
   rw [lt_rows l hi,le_rows i,getD_at l hi,drop_cons hi]
   simp only [Bool.and_self,cond_true]
   unfold whoA
   cases decide ((l[i]).1.1 = c.2.2.2.1.1) && decide ((l[i]).1.2 = c.2.2.2.1.2) with
   | false =>
    simp only [Bool.not_false,cond_true,cond_false]
    rw [w64_up (Nat.le_refl i) (by omega)]
    exact ih a (by omega)
   | true =>
    simp only [Bool.not_true,cond_true,cond_false]
    rw [List.flatMap_cons,List.foldl_append,spec_L5 hN l (by omega) c a (by omega)]
    simp only
    rw [w64_up (Nat.le_refl i) (by omega)]
    have e : g3 l c (i : Int) = (whoA ((l[i]).2,c.2.2.2.2.1.2) 0 l).map fun k => (c.2.1,(l.getD k.toNat (dft tFact)).2) := by unfold g3; rw [getD_n hi]
    rw [e]
    refine ih _ ?_
    have h1 := foldF_up ((whoA ((l[i]).2,c.2.2.2.2.1.2) 0 l).map fun k => (c.2.1,(l.getD k.toNat (dft tFact)).2)) a
    have h2 := whoA_len ((l[i]).2,c.2.2.2.2.1.2) l 0
    rw [List.length_map] at h1
    omega)
  (fun a rec_ ha => by
   show (bif _ then _ else _) = _
   rw [at_end l,List.drop_length]; rfl)
  N (by omega) out
 rw [List.drop_zero] at key
 exact key (by omega)
theorem derI_map (l : List (Den tFact)) (c : Den tCred) : (derI l c).map (fun d => d.1) =
  bif decide (c.1 = 1) then [(c.2.1,c.2.2.1)] else bif decide (c.1 = 2) then (whoA c.2.2.2.1 0 l).flatMap (g1 l c) else bif decide (c.1 = 3) then (whoA c.2.2.2.1 0 l).flatMap (g3 l c) else bif decide (c.1 = 4) then (whoA c.2.2.2.1 0 l).flatMap (g1 l c) else [] := by
 unfold derI
 cases h1 : decide (c.1 = 1) with
 | true => rfl
 | false =>
  cases h2 : decide (c.1 = 2) with
  | true =>
   simp only [cond_false,cond_true]
   generalize whoA c.2.2.2.1 0 l = W
   induction W with
   | nil => rfl
   | cons w W ih =>
    rw [List.flatMap_cons,← ih]
    have : g1 l c w = [(c.2.1,(l.getD w.toNat (dft tFact)).2)] := by unfold g1; rw [h2]; rfl
    rw [this]; rfl
  | false =>
   cases h3 : decide (c.1 = 3) with
   | true =>
    simp only [cond_false,cond_true]
    generalize whoA c.2.2.2.1 0 l = W
    induction W with
    | nil => rfl
    | cons w W ih =>
     rw [List.flatMap_cons,List.flatMap_cons,← ih,List.map_append]
     congr 1
     unfold der3 g3
     rw [List.map_map]; rfl
   | false =>
    cases h4 : decide (c.1 = 4) with
    | true =>
     simp only [cond_false,cond_true]
     generalize whoA c.2.2.2.1 0 l = W
     induction W with
     | nil => rfl
     | cons w W ih =>
      rw [List.flatMap_cons,List.flatMap_cons,← ih,List.map_append]
      congr 1
      unfold der4 g1
      rw [h2,findI_any]
      unfold hasF
      cases l.any fun x => eqF x (c.2.2.2.2.1,(l.getD w.toNat (dft tFact)).2) <;> rfl
    | false => rfl
theorem spec_Follows {N : Nat} (hN : Big N) (l : List (Den tFact)) (hl : l.length ≤ 144) (c : Den tCred) : x_f32 N l c = some (stepF l c) := by
 unfold x_f32 stepF
 simp only [List.length_nil,List.nil_append]
 rw [dT (p := (0 + l.length) * 24 ≤ 140737488355328) (by omega),credOk_s,Option.bind_some,derI_map,spec_put hN l (by omega),Option.bind_some,spec_L1 hN l (by omega) c l (by omega),spec_L3 hN l hl c l hl]
 cases credOk c with
 | false => rfl
 | true =>
  cases h1 : decide (c.1 = 1) with
  | true => rfl
  | false =>
   cases h2 : decide (c.1 = 2) with
   | true => rfl
   | false =>
    cases h3 : decide (c.1 = 3) with
    | true =>
     have : decide (c.1 = 4) = false := by
      have h5 : (c.1 : Int) = 3 := of_decide_eq_true h3
      exact dF (fun e : (c.1 : Int) = 4 => by rw [h5] at e; exact absurd e (by decide))
     rw [this]; rfl
    | false =>
     cases decide (c.1 = 4) <;> rfl
theorem spec_F2 {N : Nat} (hN : Big N) {kx kr} (list : List (Den tCred)) (hl : list.length ≤ 1048576) (l : List (Den tFact)) (ho : OkL l) :
  iter (B_f31_L2 (Ω := List (Den tFact)) N kx kr) N (list,l,false,(0:Int)) = kx (list,list.foldl stepF l,decide (l.length < (list.foldl stepF l).length)) := by
 have hN' := n40f hN
 have key := iter_to (B := B_f31_L2 (Ω := List (Den tFact)) N kx kr) (A := List (Den tFact) × Bool) (fun i a => (list,a.1,a.2,(i : Int))) (fun i a q => OkL a.1 → q = kx (list,(list.drop i).foldl stepF a.1,a.2 || decide (a.1.length < ((list.drop i).foldl stepF a.1).length))) list.length
  (fun i a rec_ hi ih ha => by
   obtain ⟨l,fl⟩ := a
   have hll := ha.len
   simp only at hll
   have hok := stepF_ok ha list[i]
   have h1 := stepF_len l list[i]
   have h2 := passF_len (list.drop (i + 1)) (stepF l list[i])
   show (bif _ then _ else _) = _
   rw [lt_rows list hi,le_rows i,getD_at list hi,w64_up (Nat.le_refl i) (by omega),drop_cons hi,List.foldl_cons,spec_Follows hN l hll,Option.bind_some]
   simp only [Bool.and_self,cond_true]
   by_cases hg : l.length < (stepF l list[i]).length
   ·rw [dT (p := (l.length : Int) < ((stepF l list[i]).length : Int)) (by omega),dT (p := l.length < ((list.drop (i + 1)).foldl stepF (stepF l list[i])).length) (by omega),Bool.or_true]
    have := ih (stepF l list[i],true) hok
    rw [Bool.true_or] at this
    exact this
   ·rw [dF (p := (l.length : Int) < ((stepF l list[i]).length : Int)) (by omega)]
    have := ih (stepF l list[i],fl) hok
    have e : (stepF l list[i]).length = l.length := by omega
    simp only [e] at this
    exact this)
  (fun a rec_ ha => by
   show (bif _ then _ else _) = _
   rw [at_end list,List.drop_length]
   show kx (list,a.1,a.2) = kx (list,a.1,a.2 || decide (a.1.length < a.1.length))
   rw [dF (p := a.1.length < a.1.length) (Nat.lt_irrefl _),Bool.or_false])
  N (by omega) (l,false)
 have := key ho
 rw [List.drop_zero,Bool.false_or] at this
 exact this
theorem spec_F0 {N : Nat} (hN : Big N) {kx kr} (list : List (Den tCred)) (hl : list.length ≤ 1048576) : ∀ (n : Nat) (l : List (Den tFact)),OkL l → 145 ≤ l.length + n → ∀ M,n < M →
  iter (B_f31_L0 (Ω := List (Den tFact)) N kx kr) M (list,l,true) = kx (closeF list n l)
 | 0,l,ho,h145,_,_ => by have := ho.len; omega
 | n + 1,l,ho,h145,M,hM => by
  obtain ⟨M,rfl⟩ : ∃ m,M = m + 1 := ⟨M - 1,by omega⟩
  have hok := passF_ok list l ho
  have hlen := passF_len list l
  show iter (B_f31_L2 N (fun (x2,x3,x4) => iter (B_f31_L0 N kx kr) M (x2,x3,x4)) (fun ρ5 => kr (ρ5))) N (list,l,false,(0:Int)) = _
  rw [spec_F2 hN list hl l ho]
  unfold closeF
  simp only
  by_cases hg : l.length < (list.foldl stepF l).length
  ·rw [dT hg,cond_true]
   exact spec_F0 hN list hl n _ hok (by omega) M (by omega)
  ·rw [dF hg,cond_false]
   obtain ⟨M,rfl⟩ : ∃ m,M = m + 1 := ⟨M - 1,by omega⟩
   rfl
theorem spec_FactsOf {N : Nat} (hN : Big N) (list : List (Den tCred)) (hl : list.length ≤ 1048576) : x_f31 N list = some (closeF list 145 []) := by
 have hN' := n40f hN
 unfold x_f31
 exact spec_F0 hN list hl 145 [] ⟨List.nodup_nil,fun f h => by cases h⟩ (by simp) N (by omega)
theorem closeF_ok (list : List (Den tCred)) : ∀ (n : Nat) (l : List (Den tFact)),OkL l → OkL (closeF list n l)
 | 0,_,h => h
 | n + 1,l,h => by
  unfold closeF
  cases decide (l.length < (list.foldl stepF l).length)
  ·exact passF_ok list l h
  ·exact closeF_ok list n _ (passF_ok list l h)
end Go.Proofs.Ytfmlmdnaeonobaa.C
namespace Go.Proofs.Ytfmlmdnaeonobaa.C
open Go Go.Proofs.Ytfmlmdnaeonobaa.Nx Go.RowKit
set_option linter.unusedVariables false
set_option linter.unusedSimpArgs false
theorem neJ {a x y : Int} (h : a = x) (hne : x ≠ y) : ¬ a = y := fun e => hne (h.symm.trans e)
theorem kindI {c : Den tCred} (h : credOk c = true) : (c.1 : Int) = 1 ∨ (c.1 : Int) = 2 ∨ (c.1 : Int) = 3 ∨ (c.1 : Int) = 4 := credOk_kind h
def stepG (g : Int → Den tFact) (s : Den tStep) : Prop :=
 ((s.1.1 : Int) = 1 ∧ s.2.2 = [] ∧ s.2.1.2 = s.1.2.2.1) ∨
 ((s.1.1 : Int) = 2 ∧ ∃ x,s.2.2 = [x] ∧ g x = (s.1.2.2.2.1,s.2.1.2)) ∨
 ((s.1.1 : Int) = 3 ∧ ∃ x y,s.2.2 = [x,y] ∧ (g x).1 = s.1.2.2.2.1 ∧ g y = (((g x).2,s.1.2.2.2.2.1.2),s.2.1.2)) ∨
 ((s.1.1 : Int) = 4 ∧ ∃ x y,s.2.2 = [x,y] ∧ g x = (s.1.2.2.2.1,s.2.1.2) ∧ g y = (s.1.2.2.2.2.1,s.2.1.2))
theorem factEq_iff {a : Den tFact} {r1 r2 w : Int} : factEq a r1 r2 w = true ↔ a = ((r1,r2),w) := by
 obtain ⟨⟨p,q⟩,z⟩ := a
 unfold factEq
 simp only [Bool.and_eq_true,decide_eq_true_eq]
 constructor
 ·rintro ⟨rfl,rfl,rfl⟩; rfl
 ·intro h; cases h; exact ⟨rfl,rfl,rfl⟩
theorem roleEq_iff {a : Den tRole} {r1 r2 : Int} : (decide (a.1 = r1) && decide (a.2 = r2)) = true ↔ a = (r1,r2) := by
 obtain ⟨p,q⟩ := a
 simp only [Bool.and_eq_true,decide_eq_true_eq]
 constructor
 ·rintro ⟨rfl,rfl⟩; rfl
 ·intro h; cases h; exact ⟨rfl,rfl⟩
theorem follows_iff {L : List (Den tStep)} {s : Den tStep} (hc : credOk s.1 = true) : follows L s = true ↔ stepG (fun x => (L.getD x.toNat (dft tStep)).2.1) s := by
 have d : ∀ {a b : Int},a ≠ b → decide (a = b) = false := fun h => dF h
 unfold follows stepG
 rcases kindI hc with h | h | h | h
 ·rw [dT (p := (s.1.1 : Int) = 1) h]
  simp only [cond_true,Bool.and_eq_true,decide_eq_true_eq,List.length_eq_zero_iff]
  constructor
  ·rintro ⟨h1,h2⟩; exact .inl ⟨h,h1,h2⟩
  ·rintro (⟨_,h1,h2⟩ | ⟨h',_⟩ | ⟨h',_⟩ | ⟨h',_⟩)
   ·exact ⟨h1,h2⟩
   ·exact absurd h' (neJ h (by decide))
   ·exact absurd h' (neJ h (by decide))
   ·exact absurd h' (neJ h (by decide))
 ·rw [dF (p := (s.1.1 : Int) = 1) (neJ h (by decide)),dT (p := (s.1.1 : Int) = 2) h]
  simp only [cond_true,cond_false]
  constructor
  ·intro hm
   split at hm
   ·rename_i x e
    exact .inr (.inl ⟨h,x,e,factEq_iff.1 hm⟩)
   ·cases hm
  ·rintro (⟨h',_⟩ | ⟨_,x,e,h2⟩ | ⟨h',_⟩ | ⟨h',_⟩)
   ·exact absurd h' (neJ h (by decide))
   ·rw [e]; exact factEq_iff.2 h2
   ·exact absurd h' (neJ h (by decide))
   ·exact absurd h' (neJ h (by decide))
 ·rw [dF (p := (s.1.1 : Int) = 1) (neJ h (by decide)),dF (p := (s.1.1 : Int) = 2) (neJ h (by decide)),dT (p := (s.1.1 : Int) = 3) h]
  simp only [cond_true,cond_false]
  constructor
  ·intro hm
   split at hm
   ·rename_i x y e
    rw [Bool.and_eq_true] at hm
    exact .inr (.inr (.inl ⟨h,x,y,e,roleEq_iff.1 hm.1,factEq_iff.1 hm.2⟩))
   ·cases hm
  ·rintro (⟨h',_⟩ | ⟨h',_⟩ | ⟨_,x,y,e,h1,h2⟩ | ⟨h',_⟩)
   ·exact absurd h' (neJ h (by decide))
   ·exact absurd h' (neJ h (by decide))
   ·rw [e]
    exact Bool.and_eq_true_iff.2 ⟨roleEq_iff.2 h1,factEq_iff.2 h2⟩
   ·exact absurd h' (neJ h (by decide))
 ·rw [dF (p := (s.1.1 : Int) = 1) (neJ h (by decide)),dF (p := (s.1.1 : Int) = 2) (neJ h (by decide)),dF (p := (s.1.1 : Int) = 3) (neJ h (by decide))]
  simp only [cond_false]
  constructor
  ·intro hm
   split at hm
   ·rename_i x y e
    rw [Bool.and_eq_true] at hm
    exact .inr (.inr (.inr ⟨h,x,y,e,factEq_iff.1 hm.1,factEq_iff.1 hm.2⟩))
   ·cases hm
  ·rintro (⟨h',_⟩ | ⟨h',_⟩ | ⟨h',_⟩ | ⟨_,x,y,e,h1,h2⟩)
   ·exact absurd h' (neJ h (by decide))
   ·exact absurd h' (neJ h (by decide))
   ·exact absurd h' (neJ h (by decide))
   ·rw [e]
    exact Bool.and_eq_true_iff.2 ⟨factEq_iff.2 h1,factEq_iff.2 h2⟩
structure StepP (L : List (Den tStep)) (i : Nat) (s : Den tStep) : Prop where
 ok : credOk s.1 = true
 of : s.2.1.1 = s.1.2.1
 fr : ∀ x ∈ s.2.2,∃ k : Nat,x = (k : Int) ∧ k < i
 g : stepG (fun x => (L.getD x.toNat (dft tStep)).2.1) s
theorem stepP_iff {L : List (Den tStep)} {i : Nat} {s : Den tStep} : stepAt L i s = true ↔ StepP L i s := by
 unfold stepAt
 simp only [Bool.and_eq_true,allI_all,List.all_eq_true]
 constructor
 ·rintro ⟨h1,h2,h3,h4⟩
  exact ⟨h1,(roleEq_iff (a := s.2.1.1)).1 (Bool.and_eq_true_iff.2 h2),fun x hx => inR_nat (h3 x hx),(follows_iff h1).1 h4⟩
 ·rintro ⟨h1,h2,h3,h4⟩
  refine ⟨h1,Bool.and_eq_true_iff.1 ((roleEq_iff (a := s.2.1.1) (r1 := s.1.2.1.1) (r2 := s.1.2.1.2)).2 h2),fun x hx => ?_,(follows_iff h1).2 h4⟩
  obtain ⟨k,rfl,hk⟩ := h3 x hx
  unfold inR
  rw [dT (by omega),dT (by omega)]; rfl
theorem stepG_map {g g' : Int → Den tFact} {s : Den tStep} {m : Int → Int} (h : ∀ x ∈ s.2.2,g' (m x) = g x) (hg : stepG g s) : stepG g' (s.1,s.2.1,s.2.2.map m) := by
 rcases hg with ⟨k,e,w⟩ | ⟨k,x,e,w⟩ | ⟨k,x,y,e,w1,w2⟩ | ⟨k,x,y,e,w1,w2⟩
 ·exact .inl ⟨k,by show s.2.2.map m = []; rw [e]; rfl,w⟩
 ·refine .inr (.inl ⟨k,m x,by show s.2.2.map m = [m x]; rw [e]; rfl,?_⟩)
  rw [h x (by rw [e]; simp)]; exact w
 ·refine .inr (.inr (.inl ⟨k,m x,m y,by show s.2.2.map m = [m x,m y]; rw [e]; rfl,?_,?_⟩))
  ·rw [h x (by rw [e]; simp)]; exact w1
  ·rw [h x (by rw [e]; simp),h y (by rw [e]; simp)]; exact w2
 ·refine .inr (.inr (.inr ⟨k,m x,m y,by show s.2.2.map m = [m x,m y]; rw [e]; rfl,?_,?_⟩))
  ·rw [h x (by rw [e]; simp)]; exact w1
  ·rw [h y (by rw [e]; simp)]; exact w2
theorem stepG_two {g : Int → Den tFact} {s : Den tStep} (hg : stepG g s) : s.2.2.length ≤ 2 := by
 rcases hg with ⟨k,e,w⟩ | ⟨k,x,e,w⟩ | ⟨k,x,y,e,w1,w2⟩ | ⟨k,x,y,e,w1,w2⟩ <;> rw [e] <;> simp
theorem StepP.other {L L' : List (Den tStep)} {i j : Nat} {s : Den tStep} (h : StepP L i s) (hj : i ≤ j) (he : ∀ k,k < i → (L'.getD k (dft tStep)).2.1 = (L.getD k (dft tStep)).2.1) : StepP L' j s := by
 refine ⟨h.ok,h.of,fun x hx => ?_,?_⟩
 ·obtain ⟨k,e,hk⟩ := h.fr x hx
  exact ⟨k,e,by omega⟩
 ·have := stepG_map (g' := fun x => (L'.getD x.toNat (dft tStep)).2.1) (m := id) (fun x hx => by
   obtain ⟨k,e,hk⟩ := h.fr x hx
   subst e
   show (L'.getD ((k : Int)).toNat (dft tStep)).2.1 = (L.getD ((k : Int)).toNat (dft tStep)).2.1
   rw [Int.toNat_natCast]; exact he k hk) h.g
  rw [List.map_id] at this
  exact this
theorem whoA_has {r : Den tRole} : ∀ (l : List (Den tFact)) (j k : Nat) (hk : k < l.length),(l[k]).1 = r → ((j + k : Nat) : Int) ∈ whoA r j l
 | [],_,_,hk,_ => by cases hk
 | f :: fs,j,0,_,h => by
  unfold whoA
  have h : f.1 = r := h
  have : (decide (f.1.1 = r.1) && decide (f.1.2 = r.2)) = true := by rw [h]; simp
  rw [this]; simp
 | f :: fs,j,k + 1,hk,h => by
  unfold whoA
  have := whoA_has (r := r) fs (j + 1) k (by simpa using hk) (by simpa using h)
  rw [show j + 1 + k = j + (k + 1) from by omega] at this
  cases decide (f.1.1 = r.1) && decide (f.1.2 = r.2)
  ·exact this
  ·exact List.mem_cons_of_mem _ this
theorem der_mem {l : List (Den tFact)} {c : Den tCred} (hc : credOk c = true) {g : Int → Den tFact} {f : Den tFact} {fr : List Int} (hof : f.1 = c.2.1) (hfr : ∀ x ∈ fr,g x ∈ l) (h : stepG g (c,f,fr)) : f ∈ (derI l c).map fun d => d.1 := by
 rw [derI_map]
 have at_ : ∀ {p : Den tFact},p ∈ l → ∃ k : Nat,∃ hk : k < l.length,l[k] = p ∧ l.getD ((k : Int)).toNat (dft tFact) = p := fun {p} hp => by
  obtain ⟨k,hk,e⟩ := List.getElem_of_mem hp
  exact ⟨k,hk,e,by rw [getD_n hk]; exact e⟩
 have who : ∀ {k : Nat} (hk : k < l.length) {r : Den tRole},(l[k]).1 = r → ((k : Nat) : Int) ∈ whoA r 0 l := fun {k} hk {r} e => by
  have := whoA_has l 0 k hk e
  rwa [Nat.zero_add] at this
 rcases h with ⟨k,e,w⟩ | ⟨k,x,e,w⟩ | ⟨k,x,y,e,w1,w2⟩ | ⟨k,x,y,e,w1,w2⟩
 ·have k : (c.1 : Int) = 1 := k
  have w : f.2 = c.2.2.1 := w
  rw [dT (p := (c.1 : Int) = 1) k]
  have : f = (c.2.1,c.2.2.1) := by rw [← hof,← w]
  rw [this]; simp
 ·have k : (c.1 : Int) = 2 := k
  have e : fr = [x] := e
  have w : g x = (c.2.2.2.1,f.2) := w
  rw [dF (p := (c.1 : Int) = 1) (neJ k (by decide)),dT (p := (c.1 : Int) = 2) k]
  simp only [cond_true,cond_false]
  obtain ⟨a,ha,e1,e2⟩ := at_ (hfr x (by rw [e]; simp))
  refine List.mem_flatMap.2 ⟨(a : Int),who ha (by rw [e1,w]),?_⟩
  unfold g1
  rw [dT (p := (c.1 : Int) = 2) k,e2,w]
  show f ∈ [(c.2.1,f.2)]
  rw [← hof]; simp
 ·have k : (c.1 : Int) = 3 := k
  have e : fr = [x,y] := e
  have w1 : (g x).1 = c.2.2.2.1 := w1
  have w2 : g y = (((g x).2,c.2.2.2.2.1.2),f.2) := w2
  rw [dF (p := (c.1 : Int) = 1) (neJ k (by decide)),dF (p := (c.1 : Int) = 2) (neJ k (by decide)),dT (p := (c.1 : Int) = 3) k]
  simp only [cond_true,cond_false]
  obtain ⟨a,ha,e1,e2⟩ := at_ (hfr x (by rw [e]; simp))
  obtain ⟨b,hb,e3,e4⟩ := at_ (hfr y (by rw [e]; simp))
  refine List.mem_flatMap.2 ⟨(a : Int),who ha (by rw [e1,w1]),?_⟩
  unfold g3
  refine List.mem_map.2 ⟨(b : Int),who hb (by rw [e3,w2,e2]),?_⟩
  rw [e4,w2,← hof]
 ·have k : (c.1 : Int) = 4 := k
  have e : fr = [x,y] := e
  have w1 : g x = (c.2.2.2.1,f.2) := w1
  have w2 : g y = (c.2.2.2.2.1,f.2) := w2
  rw [dF (p := (c.1 : Int) = 1) (neJ k (by decide)),dF (p := (c.1 : Int) = 2) (neJ k (by decide)),dF (p := (c.1 : Int) = 3) (neJ k (by decide)),dT (p := (c.1 : Int) = 4) k]
  simp only [cond_true,cond_false]
  obtain ⟨a,ha,e1,e2⟩ := at_ (hfr x (by rw [e]; simp))
  have hy := hfr y (by rw [e]; simp)
  rw [w2] at hy
  refine List.mem_flatMap.2 ⟨(a : Int),who ha (by rw [e1,w1]),?_⟩
  unfold g1
  rw [e2,w1,hasF_iff.2 hy,Bool.or_true]
  show f ∈ [(c.2.1,f.2)]
  rw [← hof]; simp
theorem der_step {l : List (Den tFact)} {c : Den tCred} (hc : credOk c = true) {d : Den tDerived} (hd : d ∈ derI l c) : d.1.1 = c.2.1 ∧ (∀ x ∈ d.2,∃ k : Nat,x = (k : Int) ∧ k < l.length) ∧ stepG (fun x => l.getD x.toNat (dft tFact)) (c,d.1,d.2) := by
 have whoD : ∀ {r : Den tRole} {i : Int},i ∈ whoA r 0 l → ∃ k : Nat,∃ hk : k < l.length,i = (k : Int) ∧ (l.getD i.toNat (dft tFact)) = l[k] ∧ (l[k]).1 = r := fun {r i} hi => by
  obtain ⟨k,hk,e,h⟩ := whoA_mem r l 0 i hi
  rw [Nat.zero_add] at e
  subst e
  exact ⟨k,hk,rfl,getD_n hk,h⟩
 unfold derI at hd
 rcases kindI hc with k | k | k | k
 ·rw [dT (p := (c.1 : Int) = 1) k] at hd
  have hd := List.mem_singleton.1 hd
  subst hd
  exact ⟨rfl,fun x hx => (by cases hx),.inl ⟨k,rfl,rfl⟩⟩
 ·rw [dF (p := (c.1 : Int) = 1) (neJ k (by decide)),dT (p := (c.1 : Int) = 2) k] at hd
  obtain ⟨i,hi,rfl⟩ := List.mem_map.1 hd
  obtain ⟨a,ha,e1,e2,e3⟩ := whoD hi
  refine ⟨rfl,fun x hx => ⟨a,by rw [← e1]; exact List.mem_singleton.1 hx,ha⟩,.inr (.inl ⟨k,i,rfl,?_⟩)⟩
  show l.getD i.toNat (dft tFact) = (c.2.2.2.1,(l.getD i.toNat (dft tFact)).2)
  rw [e2,← e3]
 ·rw [dF (p := (c.1 : Int) = 1) (neJ k (by decide)),dF (p := (c.1 : Int) = 2) (neJ k (by decide)),dT (p := (c.1 : Int) = 3) k] at hd
  obtain ⟨i,hi,hd⟩ := List.mem_flatMap.1 hd
  obtain ⟨j,hj,rfl⟩ := List.mem_map.1 hd
  obtain ⟨a,ha,e1,e2,e3⟩ := whoD hi
  obtain ⟨b,hb,f1,f2,f3⟩ := whoD hj
  refine ⟨rfl,fun x hx => ?_,.inr (.inr (.inl ⟨k,i,j,rfl,?_,?_⟩))⟩
  ·rcases List.mem_cons.1 hx with rfl | hx
   ·exact ⟨a,e1,ha⟩
   ·exact ⟨b,by rw [List.mem_singleton.1 hx]; exact f1,hb⟩
  ·show (l.getD i.toNat (dft tFact)).1 = c.2.2.2.1
   rw [e2]; exact e3
  ·show l.getD j.toNat (dft tFact) = (((l.getD i.toNat (dft tFact)).2,c.2.2.2.2.1.2),(l.getD j.toNat (dft tFact)).2)
   rw [f2,← f3]
 ·rw [dF (p := (c.1 : Int) = 1) (neJ k (by decide)),dF (p := (c.1 : Int) = 2) (neJ k (by decide)),dF (p := (c.1 : Int) = 3) (neJ k (by decide)),dT (p := (c.1 : Int) = 4) k] at hd
  obtain ⟨i,hi,hd⟩ := List.mem_flatMap.1 hd
  obtain ⟨a,ha,e1,e2,e3⟩ := whoD hi
  unfold der4 at hd
  by_cases hf : 0 ≤ findI (fun x => eqF x (c.2.2.2.2.1,(l.getD i.toNat (dft tFact)).2)) 0 l
  ·rw [dT hf] at hd
   have hd := List.mem_singleton.1 hd
   subst hd
   have fa : ∀ (p : Den tFact → Bool) (l : List (Den tFact)) (j : Nat),0 ≤ findI p j l → ∃ k : Nat,∃ hk : k < l.length,findI p j l = ((j + k : Nat) : Int) ∧ p l[k] = true := by
    intro p l
    induction l with
    | nil => intro j h; unfold findI at h; omega
    | cons x xs ih =>
     intro j h
     unfold findI at h ⊢
     cases hp : p x with
     | true => exact ⟨0,by simp,rfl,hp⟩
     | false =>
      rw [hp] at h
      obtain ⟨k,hk,h1,h2⟩ := ih (j + 1) h
      exact ⟨k + 1,by simpa using hk,by rw [cond_false,h1]; congr 1; omega,by simpa using h2⟩
   obtain ⟨b,hb,g1,g2⟩ := fa _ l 0 hf
   rw [Nat.zero_add] at g1
   rw [eqF_iff] at g2
   refine ⟨rfl,fun x hx => ?_,.inr (.inr (.inr ⟨k,i,_,rfl,?_,?_⟩))⟩
   ·rcases List.mem_cons.1 hx with rfl | hx
    ·exact ⟨a,e1,ha⟩
    ·exact ⟨b,by rw [List.mem_singleton.1 hx]; exact g1,hb⟩
   ·show l.getD i.toNat (dft tFact) = (c.2.2.2.1,(l.getD i.toNat (dft tFact)).2)
    rw [e2,← e3]
   ·show l.getD (findI (fun x => eqF x (c.2.2.2.2.1,(l.getD i.toNat (dft tFact)).2)) 0 l).toNat (dft tFact) = (c.2.2.2.2.1,(l.getD i.toNat (dft tFact)).2)
    rw [g1,getD_n hb]; exact g2
  ·rw [dF hf] at hd; cases hd
end Go.Proofs.Ytfmlmdnaeonobaa.C
namespace Go.Proofs.Ytfmlmdnaeonobaa.C
open Go Go.Proofs.Ytfmlmdnaeonobaa.Nx Go.RowKit
set_option linter.unusedVariables false
set_option linter.unusedSimpArgs false
def stF (list : List (Den tCred)) (x : Den tFoundV) : Den tStep := (list.getD x.2.1.toNat (dft tCred),x.1,x.2.2)
def GoodO (list : List (Den tCred)) (out : List (Den tFoundV)) : Prop := ∀ i (hi : i < out.length),(∃ k : Nat,(out[i]).2.1 = (k : Int) ∧ k < list.length) ∧ StepP (out.map (stF list)) i (stF list out[i])
theorem fact_at (list : List (Den tCred)) (out : List (Den tFoundV)) {k : Nat} (hk : k < out.length) : ((out.map (stF list)).getD k (dft tStep)).2.1 = (out[k]).1 := by
 rw [List.getD_eq_getElem?_getD,List.getElem?_map,List.getElem?_eq_getElem hk]; rfl
theorem addO_good {list : List (Den tCred)} {k : Nat} {c : Den tCred} (hk : k < list.length) (hlc : list.getD k (dft tCred) = c) (hc : credOk c = true) {out0 e : List (Den tFoundV)} {d : Den tDerived} (hd : d ∈ derI (fc out0) c) (hg : GoodO list (out0 ++ e)) :
  GoodO list (addO (k : Int) (out0 ++ e) d) := by
 unfold addO
 cases hasF (fc (out0 ++ e)) d.1 with
 | true => exact hg
 | false =>
  simp only [cond_false]
  intro i hi
  have hlen : ((out0 ++ e) ++ [(d.1,((k : Int),d.2))]).length = (out0 ++ e).length + 1 := by simp only [List.length_append,List.length_cons,List.length_nil]
  have same : ∀ m,m < (out0 ++ e).length → ((((out0 ++ e) ++ [(d.1,((k : Int),d.2))]).map (stF list)).getD m (dft tStep)).2.1 = (((out0 ++ e).map (stF list)).getD m (dft tStep)).2.1 := fun m hm => by
   rw [fact_at list _ (by omega),fact_at list _ hm,List.getElem_append_left hm]
  by_cases hil : i < (out0 ++ e).length
  ·obtain ⟨h1,h2⟩ := hg i hil
   rw [List.getElem_append_left hil]
   exact ⟨h1,h2.other (Nat.le_refl i) fun m hm => same m (by omega)⟩
  ·have hie : i = (out0 ++ e).length := by omega
   subst hie
   obtain ⟨d1,d2,d3⟩ := der_step hc hd
   have e1 : ((out0 ++ e) ++ [(d.1,((k : Int),d.2))])[(out0 ++ e).length] = (d.1,((k : Int),d.2)) := by simp
   rw [e1]
   refine ⟨⟨k,rfl,hk⟩,?_⟩
   have e2 : stF list (d.1,((k : Int),d.2)) = (c,d.1,d.2) := by
    unfold stF
    show (list.getD ((k : Int)).toNat (dft tCred),d.1,d.2) = _
    rw [Int.toNat_natCast,hlc]
   rw [e2]
   have hfl : (fc out0).length = out0.length := fc_len out0
   have hol : out0.length ≤ (out0 ++ e).length := by rw [List.length_append]; omega
   refine ⟨hc,d1,fun x hx => ?_,?_⟩
   ·obtain ⟨m,em,hm⟩ := d2 x hx
    exact ⟨m,em,by omega⟩
   ·have := stepG_map (g' := fun x => ((((out0 ++ e) ++ [(d.1,((k : Int),d.2))]).map (stF list)).getD x.toNat (dft tStep)).2.1) (m := id) (fun x hx => by
     obtain ⟨m,em,hm⟩ := d2 x hx
     subst em
     have hm0 : m < out0.length := by omega
     show ((((out0 ++ e) ++ [(d.1,((k : Int),d.2))]).map (stF list)).getD ((m : Int)).toNat (dft tStep)).2.1 = (fc out0).getD ((m : Int)).toNat (dft tFact)
     rw [Int.toNat_natCast,same m (by omega),fact_at list _ (by omega),List.getElem_append_left hm0]
     rw [List.getD_eq_getElem?_getD,List.getElem?_map,List.getElem?_eq_getElem hm0]; rfl) d3
    rw [List.map_id] at this
    exact this
theorem addO_ext (k : Int) (out0 e : List (Den tFoundV)) (d : Den tDerived) : ∃ e',addO k (out0 ++ e) d = out0 ++ e' := by
 unfold addO
 cases hasF (fc (out0 ++ e)) d.1 with
 | true => exact ⟨e,rfl⟩
 | false => exact ⟨e ++ [(d.1,(k,d.2))],by rw [cond_false,List.append_assoc]⟩
theorem foldO_good {list : List (Den tCred)} {k : Nat} {c : Den tCred} (hk : k < list.length) (hlc : list.getD k (dft tCred) = c) (hc : credOk c = true) {out0 : List (Den tFoundV)} : ∀ (ds : List (Den tDerived)),(∀ d ∈ ds,d ∈ derI (fc out0) c) → ∀ e,GoodO list (out0 ++ e) → GoodO list (ds.foldl (addO (k : Int)) (out0 ++ e))
 | [],_,e,h => h
 | d :: ds,hd,e,h => by
  rw [List.foldl_cons]
  have h1 := addO_good hk hlc hc (hd d (by simp)) h
  obtain ⟨e',he⟩ := addO_ext (k : Int) out0 e d
  rw [he] at h1 ⊢
  exact foldO_good hk hlc hc ds (fun x hx => hd x (by simp [hx])) e' h1
theorem passO_good {list : List (Den tCred)} : ∀ (cs : List (Den tCred)) (k : Nat) (out : List (Den tFoundV)),(∀ j (hj : j < cs.length),k + j < list.length ∧ list.getD (k + j) (dft tCred) = cs[j]) → GoodO list out → GoodO list (passO k out cs)
 | [],_,_,_,h => h
 | c :: cs,k,out,hl,h => by
  unfold passO
  refine passO_good cs (k + 1) _ (fun j hj => ?_) ?_
  ·have := hl (j + 1) (by simpa using hj)
   rw [show k + 1 + j = k + (j + 1) from by omega]
   simpa using this
  ·unfold stepO
   cases hc : credOk c with
   | false => exact h
   | true =>
    have h0 := hl 0 (by simp)
    have := foldO_good (out0 := out) h0.1 h0.2 hc (derI (fc out) c) (fun d hd => hd) [] (by rw [List.append_nil]; exact h)
    rw [List.append_nil] at this
    exact this
theorem closeO_good (list : List (Den tCred)) : ∀ (n : Nat) (out : List (Den tFoundV)),GoodO list out → GoodO list (closeO list n out)
 | 0,_,h => h
 | n + 1,out,h => by
  have h1 : GoodO list (passO 0 out list) := passO_good list 0 out (fun j hj => ⟨by omega,by rw [Nat.zero_add,List.getD_eq_getElem?_getD,List.getElem?_eq_getElem hj]; rfl⟩) h
  unfold closeO
  cases decide (out.length < (passO 0 out list).length)
  ·exact h1
  ·exact closeO_good list n _ h1
theorem foldF_same : ∀ (ds l : List (Den tFact)),(ds.foldl putF l).length ≤ l.length → ds.foldl putF l = l ∧ ∀ f ∈ ds,f ∈ l
 | [],l,_ => ⟨rfl,fun f h => by cases h⟩
 | d :: ds,l,h => by
  rw [List.foldl_cons] at h ⊢
  have h1 := foldF_len ds (putF l d)
  cases hb : hasF l d with
  | true =>
   have e : putF l d = l := by unfold putF; rw [hb]; rfl
   rw [e] at h ⊢
   obtain ⟨a,b⟩ := foldF_same ds l h
   refine ⟨a,fun f hf => ?_⟩
   rcases List.mem_cons.1 hf with rfl | hf
   ·exact hasF_iff.1 hb
   ·exact b f hf
  | false =>
   have e : (putF l d).length = l.length + 1 := by unfold putF; rw [hb]; simp
   omega
def closedL (list : List (Den tCred)) (l : List (Den tFact)) : Prop := ∀ c ∈ list,credOk c = true → ∀ f ∈ (derI l c).map (fun d => d.1),f ∈ l
theorem stepF_same {l : List (Den tFact)} {c : Den tCred} (h : (stepF l c).length ≤ l.length) : stepF l c = l ∧ (credOk c = true → ∀ f ∈ (derI l c).map (fun d => d.1),f ∈ l) := by
 unfold stepF at h ⊢
 cases hc : credOk c with
 | false => exact ⟨rfl,fun e => by cases e⟩
 | true =>
  rw [hc] at h
  obtain ⟨a,b⟩ := foldF_same _ l h
  exact ⟨a,fun _ => b⟩
theorem passF_same : ∀ (list : List (Den tCred)) (l : List (Den tFact)),(list.foldl stepF l).length ≤ l.length → list.foldl stepF l = l ∧ closedL list l
 | [],l,_ => ⟨rfl,fun c h => by cases h⟩
 | c :: cs,l,h => by
  rw [List.foldl_cons] at h ⊢
  have h1 := passF_len cs (stepF l c)
  obtain ⟨e1,e2⟩ := stepF_same (l := l) (c := c) (by omega)
  rw [e1] at h ⊢
  obtain ⟨a,b⟩ := passF_same cs l h
  refine ⟨a,fun x hx => ?_⟩
  rcases List.mem_cons.1 hx with rfl | hx
  ·exact e2
  ·exact b x hx
theorem closeF_closed (list : List (Den tCred)) : ∀ (n : Nat) (l : List (Den tFact)),OkL l → 145 ≤ l.length + n → closedL list (closeF list n l)
 | 0,l,h,hn => by have := h.len; omega
 | n + 1,l,h,hn => by
  unfold closeF
  by_cases hg : l.length < (list.foldl stepF l).length
  ·rw [dT hg]
   exact closeF_closed list n _ (passF_ok list l h) (by omega)
  ·rw [dF hg]
   obtain ⟨a,b⟩ := passF_same list l (by omega)
   rw [a]; exact b
theorem proved_mem {K : List (Den tStep)} (hK : ∀ i (hi : i < K.length),StepP K i K[i]) {used : List (Den tCred)} (hu : ∀ i (hi : i < K.length),(K[i]).1 ∈ used) {l : List (Den tFact)} (hl : closedL used l) : ∀ i (hi : i < K.length),(K[i]).2.1 ∈ l := by
 intro i
 induction i using Nat.strongRecOn with
 | _ i ih =>
  intro hi
  have h := hK i hi
  refine hl _ (hu i hi) h.ok _ (der_mem (g := fun x => (K.getD x.toNat (dft tStep)).2.1) (fr := (K[i]).2.2) h.ok h.of (fun x hx => ?_) h.g)
  obtain ⟨k,e,hk⟩ := h.fr x hx
  subst e
  have hk2 : k < K.length := by omega
  have e2 : (K.getD ((k : Int)).toNat (dft tStep)) = K[k] := by rw [Int.toNat_natCast,List.getD_eq_getElem?_getD,List.getElem?_eq_getElem hk2]; rfl
  show (K.getD ((k : Int)).toNat (dft tStep)).2.1 ∈ l
  rw [e2]; exact ih k hk hk2
end Go.Proofs.Ytfmlmdnaeonobaa.C
namespace Go.Proofs.Ytfmlmdnaeonobaa.C
open Go Go.Proofs.Ytfmlmdnaeonobaa.Nx Go.RowKit
set_option linter.unusedVariables false
set_option linter.unusedSimpArgs false
def markA (F need : List Int) : List Int := F.foldl (fun a x => a.set x.toNat 1) need
theorem kept_L2 {N : Nat} (hN : Big N) {kx kr} (S : List (Den tStep)) (need : List Int) (s4 : Int) (F : List Int) (hF2 : F.length ≤ 1000) (hF : ∀ x ∈ F,∃ k : Nat,x = (k : Int) ∧ k < need.length) :
  iter (B_f12_L2 (Ω := List (Den tStep)) N kx kr) N (S,need,s4,F,(F.length : Int),(0:Int)) = kx (S,markA F need,s4) := by
 have hN' := n40f hN
 have key := iter_to (B := B_f12_L2 (Ω := List (Den tStep)) N kx kr) (A := List Int) (fun i a => (S,a,s4,F,(F.length : Int),(i : Int))) (fun i a q => a.length = need.length → q = kx (S,markA (F.drop i) a,s4)) F.length
  (fun i a rec_ hi ih ha => by
   obtain ⟨k,e,hk⟩ := hF _ (List.getElem_mem hi)
   show (bif _ then _ else _) = _
   rw [lt_rows F hi,le_rows i,getD_at F hi,w64_up (Nat.le_refl i) (by omega),drop_cons hi,e,le_rows k,lt_rows a (by omega : k < a.length)]
   simp only [Bool.and_self,cond_true]
   have := ih (a.set ((k : Int)).toNat 1) (by rw [List.length_set]; exact ha)
   exact this)
  (fun a rec_ ha => by
   show (bif _ then _ else _) = _
   rw [dF (Int.lt_irrefl _),List.drop_length]; rfl)
  N (by omega) need
 exact key rfl
theorem kept_L6 {N : Nat} (hN : Big N) {kx kr} (need place : List Int) (out S : List (Den tStep)) (c : Den tCred) (f : Den tFact) (s58 s59 : Int) (F : List Int) (hF2 : F.length ≤ 1000) (hF : ∀ x ∈ F,∃ k : Nat,x = (k : Int) ∧ k < place.length) :
  iter (B_f12_L6 (Ω := List (Den tStep)) N kx kr) N (need,place,out,(c,f,[]),S,s58,s59,F,(F.length : Int),(0:Int)) = kx (need,place,out,(c,f,F.map fun k => place.getD k.toNat 0),S,s58,s59) := by
 have hN' := n40f hN
 have key := iter_to (B := B_f12_L6 (Ω := List (Den tStep)) N kx kr) (A := List Int) (fun i a => (need,place,out,(c,f,a),S,s58,s59,F,(F.length : Int),(i : Int))) (fun i a q => a.length ≤ i → q = kx (need,place,out,(c,f,a ++ (F.drop i).map fun k => place.getD k.toNat 0),S,s58,s59)) F.length
  (fun i a rec_ hi ih ha => by
   obtain ⟨k,e,hk⟩ := hF _ (List.getElem_mem hi)
   show (bif _ then _ else _) = _
   rw [lt_rows F hi,le_rows i,getD_at F hi,w64_up (Nat.le_refl i) (by omega),drop_cons hi,e,le_rows k,lt_rows place hk]
   simp only [Bool.and_self,cond_true,List.length_cons,List.length_nil]
   rw [dT (p := (a.length + (0 + 1)) * 8 ≤ 140737488355328) (by omega)]
   have := ih (a ++ [place.getD ((k : Int)).toNat 0]) (by simp only [List.length_append,List.length_cons,List.length_nil]; omega)
   rw [List.append_assoc] at this
   exact this)
  (fun a rec_ ha => by
   show (bif _ then _ else _) = _
   rw [dF (Int.lt_irrefl _),List.drop_length]; simp)
  N (by omega) []
 exact key (by simp)
structure Inv4 (S : List (Den tStep)) (need : List Int) (i : Nat) (place : List Int) (out : List (Den tStep)) : Prop where
 pl : place.length = S.length
 le : out.length ≤ i
 at_ : ∀ m,m < i → need.getD m 0 ≠ 0 → ∃ p : Nat,place.getD m 0 = (p : Int) ∧ p < out.length ∧ (out.getD p (dft tStep)).2.1 = (S.getD m (dft tStep)).2.1
 ok : ∀ q (hq : q < out.length),StepP out q out[q] ∧ ∃ m,m < S.length ∧ (out[q]).1 = (S.getD m (dft tStep)).1
 last : ∀ m,m + 1 = i → need.getD m 0 ≠ 0 → 0 < out.length ∧ (out.getD (out.length - 1) (dft tStep)).2.1 = (S.getD m (dft tStep)).2.1
theorem Inv4.skip {S : List (Den tStep)} {need place : List Int} {i : Nat} {out : List (Den tStep)} (h : Inv4 S need i place out) (h0 : need.getD i 0 = 0) : Inv4 S need (i + 1) place out := by
 refine ⟨h.pl,by have := h.le; omega,fun m hm hne => ?_,h.ok,fun m hm hne => ?_⟩
 ·by_cases e : m = i
  ·subst e; exact absurd h0 hne
  ·exact h.at_ m (by omega) hne
 ·have : m = i := by omega
  subst this; exact absurd h0 hne
theorem Inv4.add {S : List (Den tStep)} {need place : List Int} {i : Nat} {out : List (Den tStep)} (hi : i < S.length) (hP : StepP S i S[i]) (hnd : ∀ x ∈ (S[i]).2.2,need.getD x.toNat 0 ≠ 0) (h : Inv4 S need i place out) :
  Inv4 S need (i + 1) (place.set i (out.length : Int)) (out ++ [((S[i]).1,(S[i]).2.1,(S[i]).2.2.map fun k => (place.set i (out.length : Int)).getD k.toNat 0)]) := by
 have hSi : S.getD i (dft tStep) = S[i] := by rw [List.getD_eq_getElem?_getD,List.getElem?_eq_getElem hi]; rfl
 have pset : ∀ m,m ≠ i → (place.set i (out.length : Int)).getD m 0 = place.getD m 0 := fun m hm => by
  rw [List.getD_eq_getElem?_getD,List.getD_eq_getElem?_getD,List.getElem?_set_ne (fun e => hm e.symm)]
 have pself : (place.set i (out.length : Int)).getD i 0 = (out.length : Int) := by
  rw [List.getD_eq_getElem?_getD,List.getElem?_set_self (by rw [h.pl]; exact hi)]; rfl
 generalize hnx : ((S[i]).1,(S[i]).2.1,(S[i]).2.2.map fun k => (place.set i (out.length : Int)).getD k.toNat 0) = nx
 have oldD : ∀ p,p < out.length → (out ++ [nx]).getD p (dft tStep) = out.getD p (dft tStep) := fun p hp => by
  rw [List.getD_eq_getElem?_getD,List.getD_eq_getElem?_getD,List.getElem?_append_left hp]
 have newD : (out ++ [nx]).getD out.length (dft tStep) = nx := by
  rw [List.getD_eq_getElem?_getD,List.getElem?_append_right (Nat.le_refl _),Nat.sub_self]; rfl
 have hlen : (out ++ [nx]).length = out.length + 1 := by simp
 have nx1 : nx.1 = (S[i]).1 := by rw [← hnx]
 have nx2 : nx.2.1 = (S[i]).2.1 := by rw [← hnx]
 refine ⟨by rw [List.length_set]; exact h.pl,by rw [hlen]; have := h.le; omega,fun m hm hne => ?_,fun q hq => ?_,fun m hm hne => ?_⟩
 ·by_cases e : m = i
  ·subst e
   exact ⟨out.length,pself,by omega,by rw [newD,nx2,hSi]⟩
  ·obtain ⟨p,p1,p2,p3⟩ := h.at_ m (by omega) hne
   exact ⟨p,by rw [pset m e]; exact p1,by omega,by rw [oldD p p2]; exact p3⟩
 ·by_cases hql : q < out.length
  ·obtain ⟨a,b⟩ := h.ok q hql
   rw [List.getElem_append_left hql]
   exact ⟨a.other (Nat.le_refl q) fun k hk => by rw [oldD k (by omega)],b⟩
  ·have : q = out.length := by omega
   subst this
   have e1 : (out ++ [nx])[out.length] = nx := by simp
   rw [e1]
   refine ⟨⟨by rw [nx1]; exact hP.ok,by rw [nx1,nx2]; exact hP.of,fun x hx => ?_,?_⟩,i,hi,by rw [nx1,hSi]⟩
   ·have hx : x ∈ (S[i]).2.2.map fun k => (place.set i (out.length : Int)).getD k.toNat 0 := by rw [← hnx] at hx; exact hx
    obtain ⟨y,hy,rfl⟩ := List.mem_map.1 hx
    obtain ⟨k,ek,hk⟩ := hP.fr y hy
    subst ek
    obtain ⟨p,p1,p2,p3⟩ := h.at_ k hk (by have := hnd _ hy; rwa [Int.toNat_natCast] at this)
    exact ⟨p,by show (place.set i (out.length : Int)).getD ((k : Int)).toNat 0 = _; rw [Int.toNat_natCast,pset k (by omega)]; exact p1,p2⟩
   ·have := stepG_map (g' := fun x => ((out ++ [nx]).getD x.toNat (dft tStep)).2.1) (m := fun k => (place.set i (out.length : Int)).getD k.toNat 0) (fun y hy => by
     obtain ⟨k,ek,hk⟩ := hP.fr y hy
     subst ek
     obtain ⟨p,p1,p2,p3⟩ := h.at_ k hk (by have := hnd _ hy; rwa [Int.toNat_natCast] at this)
     show ((out ++ [nx]).getD ((place.set i (out.length : Int)).getD ((k : Int)).toNat 0).toNat (dft tStep)).2.1 = (S.getD ((k : Int)).toNat (dft tStep)).2.1
     rw [Int.toNat_natCast,pset k (by omega),p1,Int.toNat_natCast,oldD p p2]; exact p3) hP.g
    rw [hnx] at this
    exact this
 ·have : m = i := by omega
  subst this
  refine ⟨by omega,?_⟩
  rw [show (out ++ [nx]).length - 1 = out.length from by omega,newD,nx2,hSi]
end Go.Proofs.Ytfmlmdnaeonobaa.C
namespace Go.Proofs.Ytfmlmdnaeonobaa.C
open Go Go.Proofs.Ytfmlmdnaeonobaa.Nx Go.RowKit
set_option linter.unusedVariables false
set_option linter.unusedSimpArgs false
def atF (F : List (Den tFact)) (f : Den tFact) : Int := findI (fun x => eqF x f) 0 F
theorem findI_nodup {F : List (Den tFact)} {f : Den tFact} : ∀ (l : List (Den tFact)) (j : Nat),l.Nodup → ∀ i (hi : i < l.length),l[i] = f → findI (fun x => eqF x f) j l = ((j + i : Nat) : Int)
 | [],j,_,i,hi,_ => absurd hi (by simp)
 | x :: xs,j,hn,i,hi,h => by
  obtain ⟨n1,n2⟩ := List.nodup_cons.1 hn
  rw [findI_cons]
  cases i with
  | zero =>
   rw [List.getElem_cons_zero] at h
   rw [eqF_iff.2 h]; rfl
  | succ i =>
   have hi' : i < xs.length := by simpa using hi
   rw [List.getElem_cons_succ] at h
   have hne : eqF x f = false := by
    cases hb : eqF x f with
    | false => rfl
    | true =>
     have : x ∈ xs := by rw [eqF_iff.1 hb,← h]; exact List.getElem_mem hi'
     exact absurd this n1
   rw [hne,cond_false,findI_nodup (F := F) xs (j + 1) n2 i hi' h]
   congr 1; omega
theorem atF_of {F : List (Den tFact)} (hn : F.Nodup) {f : Den tFact} {i : Nat} (hi : i < F.length) (h : F[i] = f) : atF F f = (i : Int) := by
 unfold atF
 rw [findI_nodup (F := F) F 0 hn i hi h,Nat.zero_add]
theorem atF_some {F : List (Den tFact)} {f : Den tFact} (h : 0 ≤ atF F f) : ∃ i : Nat,∃ hi : i < F.length,atF F f = (i : Int) ∧ F[i] = f := by
 unfold atF at h ⊢
 have key : ∀ (l : List (Den tFact)) (j : Nat),0 ≤ findI (fun x => eqF x f) j l → ∃ i : Nat,∃ hi : i < l.length,findI (fun x => eqF x f) j l = ((j + i : Nat) : Int) ∧ l[i] = f := by
  intro l
  induction l with
  | nil => intro j h; exact absurd h (by show ¬ (0:Int) ≤ -1; omega)
  | cons x xs ih =>
   intro j h
   rw [findI_cons] at h ⊢
   cases hb : eqF x f with
   | true => exact ⟨0,by simp,by simp,by rw [List.getElem_cons_zero]; exact eqF_iff.1 hb⟩
   | false =>
    rw [hb,cond_false] at h
    obtain ⟨i,hi,e1,e2⟩ := ih (j + 1) h
    exact ⟨i + 1,by simpa using hi,by rw [cond_false,e1]; congr 1; omega,by rw [List.getElem_cons_succ]; exact e2⟩
 obtain ⟨i,hi,e1,e2⟩ := key F 0 h
 exact ⟨i,hi,by rw [e1,Nat.zero_add],e2⟩
def from3 (F : List (Den tFact)) (c : Den tCred) (w : Int) : Nat → List (Den tFact) → List Int
 | _,[] => []
 | i,f :: fs => bif decide (f.1.1 = c.2.2.2.1.1) && decide (f.1.2 = c.2.2.2.1.2) then
   (bif decide (0 ≤ atF F ((f.2,c.2.2.2.2.1.2),w)) then [(i : Int),atF F ((f.2,c.2.2.2.2.1.2),w)] else from3 F c w (i + 1) fs) else from3 F c w (i + 1) fs
theorem from3_cons (F : List (Den tFact)) (c : Den tCred) (w : Int) (i : Nat) (f : Den tFact) (fs : List (Den tFact)) : from3 F c w i (f :: fs) = bif decide (f.1.1 = c.2.2.2.1.1) && decide (f.1.2 = c.2.2.2.1.2) then
   (bif decide (0 ≤ atF F ((f.2,c.2.2.2.2.1.2),w)) then [(i : Int),atF F ((f.2,c.2.2.2.2.1.2),w)] else from3 F c w (i + 1) fs) else from3 F c w (i + 1) fs := rfl
def fromA (F : List (Den tFact)) (c : Den tCred) (w : Int) : List Int :=
 bif decide (c.1 = 2) then [atF F (c.2.2.2.1,w)] else
 bif decide (c.1 = 4) then [atF F (c.2.2.2.1,w),atF F (c.2.2.2.2.1,w)] else
 bif decide (c.1 = 3) then from3 F c w 0 F else []
theorem spec_At {N : Nat} (hN : Big N) (S : List (Den tStep)) (hl : S.length ≤ 1048576) (f : Den tFact) : x_f54 N S f = some (atF (S.map fun s => s.2.1) f) := by
 have hN' := n40f hN
 unfold x_f54 atF
 have := iter_row (B := B_f54_L0 N (fun _ => some (-1:Int)) (fun ρ1 => some (ρ1))) S (fun i => (S,f,(i : Int))) (fun i l => some (findI (fun x => eqF x f) i (l.map fun s => s.2.1)))
  (fun i hi rec_ h => by
   show (bif _ then _ else _) = _
   rw [lt_rows S hi,le_rows i,getD_at S hi,w64_up (Nat.le_refl i) (by omega),h,List.map_cons,findI_cons]
   simp only [Bool.and_self,cond_true]
   change (bif eqF (S[i]).2.1 f then _ else _) = _
   cases eqF (S[i]).2.1 f <;> rfl)
  (fun rec_ => by
   show (bif _ then _ else _) = _
   rw [at_end S]; rfl) (N := N) (by omega)
 exact this
theorem spec_From {N : Nat} (hN : Big N) (S : List (Den tStep)) (hl : S.length ≤ 1048576) (c : Den tCred) (w : Int) : x_f55 N S c w = some (fromA (S.map fun s => s.2.1) c w) := by
 have hN' := n40f hN
 unfold x_f55 fromA
 have L3 : iter (B_f55_L1 N (fun _ => some []) (fun ρ5 => some (ρ5))) N (S,w,c,(0:Int)) = some (from3 (S.map fun s => s.2.1) c w 0 (S.map fun s => s.2.1)) := by
  have := iter_row (B := B_f55_L1 N (fun _ => some []) (fun ρ5 => some (ρ5))) S (fun i => (S,w,c,(i : Int))) (fun i l => some (from3 (S.map fun s => s.2.1) c w i (l.map fun s => s.2.1)))
   (fun i hi rec_ h => by
    show (bif _ then _ else _) = _
    rw [lt_rows S hi,le_rows i,getD_at S hi,w64_up (Nat.le_refl i) (by omega),h,List.map_cons,spec_At hN S hl,Option.bind_some,from3_cons]
    simp only [Bool.and_self,cond_true]
    cases decide ((S[i]).2.1.1.1 = c.2.2.2.1.1) && decide ((S[i]).2.1.1.2 = c.2.2.2.1.2) with
    | false => rfl
    | true =>
     simp only [Bool.not_true,cond_false,cond_true]
     cases decide ((0:Int) ≤ atF (S.map fun s => s.2.1) (((S[i]).2.1.2,c.2.2.2.2.1.2),w)) <;> rfl)
   (fun rec_ => by
    show (bif _ then _ else _) = _
    rw [at_end S]; rfl) (N := N) (by omega)
  exact this
 rw [spec_At hN S hl,Option.bind_some,spec_At hN S hl,Option.bind_some,Option.bind_some,L3]
 cases decide (c.1 = (2:Int)) <;> cases decide (c.1 = (4:Int)) <;> cases decide (c.1 = (3:Int)) <;> rfl
theorem find_map' {α β : Type} (g : α → β) (p : β → Bool) : ∀ (l : List α) {d : β},(l.map g).find? p = some d → ∃ a ∈ l,d = g a ∧ p (g a) = true
 | [],d,h => by cases h
 | a :: l,d,h => by
  rw [List.map_cons,List.find?_cons] at h
  cases hp : p (g a) with
  | true => rw [hp] at h; cases h; exact ⟨a,by simp,rfl,hp⟩
  | false =>
   rw [hp] at h
   obtain ⟨b,hb,e,h2⟩ := find_map' g p l h
   exact ⟨b,by simp [hb],e,h2⟩
theorem find_map_none {α β : Type} (g : α → β) (p : β → Bool) : ∀ (l : List α),(l.map g).find? p = none → ∀ a ∈ l,p (g a) = false
 | [],_,a,ha => by cases ha
 | b :: l,h,a,ha => by
  rw [List.map_cons,List.find?_cons] at h
  cases hp : p (g b) with
  | true => rw [hp] at h; cases h
  | false =>
   rw [hp] at h
   rcases List.mem_cons.1 ha with rfl | ha
   ·exact hp
   ·exact find_map_none g p l h a ha
theorem getD_nat {F : List (Den tFact)} {k : Nat} (hk : k < F.length) : F.getD ((k : Int)).toNat (dft tFact) = F[k] := getD_at F hk _
theorem der3_find {F : List (Den tFact)} (hn : F.Nodup) (c : Den tCred) (w : Int) : ∀ (l : List (Den tFact)) (j : Nat),F.drop j = l → ∀ d,((whoA c.2.2.2.1 j l).flatMap (der3 F c)).find? (fun x => eqF x.1 (c.2.1,w)) = some d → d.2 = from3 F c w j l
 | [],j,_,d,h => by
  unfold whoA at h
  cases h
 | f :: fs,j,hd,d,h => by
  have hj : j < F.length := by
   rcases Nat.lt_or_ge j F.length with h | h
   ·exact h
   ·rw [List.drop_eq_nil_of_le h] at hd; cases hd
  have hfj : F[j] = f ∧ F.drop (j + 1) = fs := by
   rw [drop_cons hj] at hd
   exact List.cons.inj hd
  unfold whoA at h
  unfold from3
  cases hb : decide (f.1.1 = c.2.2.2.1.1) && decide (f.1.2 = c.2.2.2.1.2) with
  | false =>
   rw [hb] at h
   simp only [cond_false] at h ⊢
   exact der3_find hn c w fs (j + 1) hfj.2 d h
  | true =>
   rw [hb] at h
   simp only [cond_true] at h ⊢
   rw [List.flatMap_cons,List.find?_append] at h
   have hgj : F.getD ((j : Int)).toNat (dft tFact) = f := by rw [getD_nat hj,hfj.1]
   cases h1 : (der3 F c (j : Int)).find? (fun x => eqF x.1 (c.2.1,w)) with
   | some d1 =>
    rw [h1] at h
    cases h
    unfold der3 at h1
    rw [hgj] at h1
    obtain ⟨kk,hk,e,hp⟩ := find_map' _ _ _ h1
    obtain ⟨k,hk1,ek,hk2⟩ := whoA_mem _ _ _ _ hk
    rw [Nat.zero_add] at ek
    subst ek
    rw [getD_nat hk1] at e hp
    have hw : (F[k]).2 = w := by
     have := eqF_iff.1 hp
     exact congrArg (fun q => q.2) this
    have hfk : F[k] = ((f.2,c.2.2.2.2.1.2),w) := by
     rw [← hk2,← hw]
    rw [atF_of hn hk1 hfk,dT (p := (0:Int) ≤ (k : Int)) (by omega),e]; rfl
   | none =>
    rw [h1] at h
    have hno : ¬ 0 ≤ atF F ((f.2,c.2.2.2.2.1.2),w) := fun h0 => by
     obtain ⟨k,hk,_,hk2⟩ := atF_some h0
     have hmem := whoA_has (r := (f.2,c.2.2.2.2.1.2)) F 0 k hk (by rw [hk2])
     rw [Nat.zero_add] at hmem
     unfold der3 at h1
     rw [hgj] at h1
     have := find_map_none _ _ _ h1 _ hmem
     rw [getD_nat hk,hk2] at this
     have h2 : eqF (c.2.1,w) (c.2.1,w) = true := eqF_iff.2 rfl
     exact absurd (this.symm.trans h2) (by decide)
    rw [dF hno]
    simp only [cond_false]
    exact der3_find hn c w fs (j + 1) hfj.2 d (by simpa using h)
theorem derI_first {F : List (Den tFact)} (ho : OkL F) {c : Den tCred} (hc : credOk c = true) (w : Int) {d : Den tDerived} (h : (derI F c).find? (fun x => eqF x.1 (c.2.1,w)) = some d) : d.2 = fromA F c w := by
 have hn := ho.1
 unfold derI at h
 unfold fromA
 rcases kindI hc with hk | hk | hk | hk
 ·rw [dT (p := (c.1 : Int) = 1) hk] at h
  rw [dF (p := (c.1 : Int) = 2) (neJ hk (by decide)),dF (p := (c.1 : Int) = 4) (neJ hk (by decide)),dF (p := (c.1 : Int) = 3) (neJ hk (by decide))]
  simp only [cond_true,cond_false] at h ⊢
  rw [List.find?_cons] at h
  split at h
  ·cases h; rfl
  ·cases h
 ·rw [dF (p := (c.1 : Int) = 1) (neJ hk (by decide)),dT (p := (c.1 : Int) = 2) hk] at h
  rw [dT (p := (c.1 : Int) = 2) hk]
  simp only [cond_true,cond_false] at h ⊢
  obtain ⟨kk,hkk,e,hp⟩ := find_map' _ _ _ h
  obtain ⟨k,hk1,ek,hk2⟩ := whoA_mem _ _ _ _ hkk
  rw [Nat.zero_add] at ek
  subst ek
  unfold der2 at e hp
  rw [getD_nat hk1] at e hp
  have hw : (F[k]).2 = w := congrArg (fun q => q.2) (eqF_iff.1 hp)
  have hfk : F[k] = (c.2.2.2.1,w) := by rw [← hk2,← hw]
  rw [atF_of hn hk1 hfk,e]
 ·rw [dF (p := (c.1 : Int) = 1) (neJ hk (by decide)),dF (p := (c.1 : Int) = 2) (neJ hk (by decide)),dT (p := (c.1 : Int) = 3) hk] at h
  rw [dF (p := (c.1 : Int) = 2) (neJ hk (by decide)),dF (p := (c.1 : Int) = 4) (neJ hk (by decide)),dT (p := (c.1 : Int) = 3) hk]
  simp only [cond_true,cond_false] at h ⊢
  exact der3_find hn c w F 0 (List.drop_zero ..) d h
 ·rw [dF (p := (c.1 : Int) = 1) (neJ hk (by decide)),dF (p := (c.1 : Int) = 2) (neJ hk (by decide)),dF (p := (c.1 : Int) = 3) (neJ hk (by decide)),dT (p := (c.1 : Int) = 4) hk] at h
  rw [dF (p := (c.1 : Int) = 2) (neJ hk (by decide)),dT (p := (c.1 : Int) = 4) hk]
  simp only [cond_true,cond_false] at h ⊢
  have hm := List.mem_of_find?_eq_some h
  have hp := List.find?_some h
  obtain ⟨kk,hkk,hd⟩ := List.mem_flatMap.1 hm
  obtain ⟨k,hk1,ek,hk2⟩ := whoA_mem _ _ _ _ hkk
  rw [Nat.zero_add] at ek
  subst ek
  unfold der4 at hd
  rw [getD_nat hk1] at hd
  cases hb : decide (0 ≤ findI (fun x => eqF x (c.2.2.2.2.1,(F[k]).2)) 0 F) with
  | true =>
   rw [hb] at hd
   simp only [cond_true,List.mem_singleton] at hd
   subst hd
   have hw : (F[k]).2 = w := congrArg (fun q => q.2) (eqF_iff.1 hp)
   have hfk : F[k] = (c.2.2.2.1,w) := by rw [← hk2,← hw]
   show [(k : Int),_] = [_,_]
   rw [atF_of hn hk1 hfk,hw]; rfl
  | false =>
   rw [hb] at hd
   cases hd
theorem foldO_rows (k : Int) (D : List (Den tDerived)) (out0 : List (Den tFoundV)) : ∀ (D2 D1 : List (Den tDerived)) (cur : List (Den tFoundV)),D = D1 ++ D2 → (∀ d ∈ D1,d.1 ∈ fc cur) →
  (∃ E,cur = out0 ++ E ∧ ∀ x ∈ E,∃ d,D.find? (fun y => eqF y.1 x.1) = some d ∧ x = (d.1,(k,d.2))) →
  ∃ E,D2.foldl (addO k) cur = out0 ++ E ∧ ∀ x ∈ E,∃ d,D.find? (fun y => eqF y.1 x.1) = some d ∧ x = (d.1,(k,d.2))
 | [],D1,cur,_,_,h => h
 | d :: D2,D1,cur,hD,h1,⟨E,hE,h2⟩ => by
  rw [List.foldl_cons]
  refine foldO_rows k D out0 D2 (D1 ++ [d]) _ (by rw [hD,List.append_assoc]; rfl) (fun d' hd' => ?_) ?_
  ·rw [addO_fc]
   rcases List.mem_append.1 hd' with h | h
   ·unfold putF
    cases hasF (fc cur) d.1
    ·exact List.mem_append_left _ (h1 d' h)
    ·exact h1 d' h
   ·simp only [List.mem_singleton] at h
    subst h
    unfold putF
    cases hb : hasF (fc cur) d'.1
    ·simp
    ·exact hasF_iff.1 hb
  ·unfold addO
   cases hb : hasF (fc cur) d.1 with
   | true => exact ⟨E,hE,h2⟩
   | false =>
    refine ⟨E ++ [(d.1,(k,d.2))],by rw [cond_false,hE,List.append_assoc],fun x hx => ?_⟩
    rcases List.mem_append.1 hx with h | h
    ·exact h2 x h
    ·simp only [List.mem_singleton] at h
     subst h
     refine ⟨d,?_,rfl⟩
     rw [hD,List.find?_append]
     have : D1.find? (fun y => eqF y.1 d.1) = none := by
      rw [List.find?_eq_none]
      intro y hy hp
      have e := eqF_iff.1 hp
      have := h1 y hy
      rw [e] at this
      exact absurd (hb.symm.trans (hasF_iff.2 this)) (by decide)
     rw [this,Option.none_or,List.find?_cons,eqF_iff.2 rfl]
theorem stepO_new (out : List (Den tFoundV)) (ho : OkL (fc out)) (k : Int) (c : Den tCred) : ∃ E,stepO out k c = out ++ E ∧ ∀ x ∈ E,x.2.1 = k ∧ x.2.2 = fromA (fc out) c x.1.2 := by
 unfold stepO
 cases hc : credOk c with
 | false => exact ⟨[],by simp,fun x hx => by cases hx⟩
 | true =>
  obtain ⟨E,hE,h⟩ := foldO_rows k (derI (fc out) c) out (derI (fc out) c) [] out rfl (fun d hd => by cases hd) ⟨[],by simp,fun x hx => by cases hx⟩
  refine ⟨E,hE,fun x hx => ?_⟩
  obtain ⟨d,hd,e⟩ := h x hx
  have hm := List.mem_of_find?_eq_some hd
  have hs := (der_step hc hm).1
  have e1 : x.1 = d.1 := by rw [e]
  have e2 : x.1 = (c.2.1,x.1.2) := by
   rw [e1]
   show d.1 = (c.2.1,d.1.2)
   rw [← hs]
  rw [e2] at hd
  refine ⟨by rw [e],?_⟩
  rw [show x.2.2 = d.2 from by rw [e]]
  exact derI_first ho hc _ hd
end Go.Proofs.Ytfmlmdnaeonobaa.C
namespace Go.Proofs.Ytfmlmdnaeonobaa.C
open Go Go.Proofs.Ytfmlmdnaeonobaa.Nx Go.RowKit
set_option linter.unusedVariables false
set_option linter.unusedSimpArgs false
abbrev ResA := (List (Den tStepV)) × DenW (.d 0 (.sl tCred))
theorem stF_facts (list : List (Den tCred)) (out : List (Den tFoundV)) : ((out.map (stF list)).map fun s => s.2.1) = fc out := by
 rw [List.map_map]; rfl
theorem all_L4 {N : Nat} (hN : Big N) {kx kr} (list : List (Den tCred)) {i : Nat} (hi : i < list.length) (out E : List (Den tFoundV)) (hlen : (out ++ E).length ≤ 144) (hE : ∀ x ∈ E,x.2.1 = (i : Int) ∧ x.2.2 = fromA (fc out) list[i] x.1.2) (fl : Bool) :
  iter (B_f52_L4 (Ω := ResA) N kx kr) N (list,out.map (stF list),fl,(i : Int),fc (out ++ E),out.map (stF list),(out.length : Int)) = kx (list,(out ++ E).map (stF list),fl || decide (0 < E.length),(i : Int),fc (out ++ E)) := by
 have hN' := n40f hN
 have hle : (out ++ E).length = out.length + E.length := List.length_append
 have hfl := fc_len (out ++ E)
 have key := iter_to (B := B_f52_L4 (Ω := ResA) N kx kr) (A := Unit) (fun j _ => (list,(out ++ E.take j).map (stF list),fl || decide (0 < j),(i : Int),fc (out ++ E),out.map (stF list),((out.length + j : Nat) : Int)))
  (fun j _ q => q = kx (list,(out ++ E).map (stF list),fl || decide (0 < E.length),(i : Int),fc (out ++ E))) E.length
  (fun j a rec_ hj ih => by
   have hjo : out.length + j < (fc (out ++ E)).length := by omega
   obtain ⟨x1,x2⟩ := hE _ (List.getElem_mem hj)
   have hg : (fc (out ++ E))[out.length + j] = (E[j]).1 := by
    rw [List.getElem_map,List.getElem_append_right (by omega)]
    simp
   have eta : ∀ (c : Den tCred) (f : Den tFact) (fr : List Int),(((c.1,(c.2.1.1,c.2.1.2),c.2.2.1,(c.2.2.2.1.1,c.2.2.2.1.2),(c.2.2.2.2.1.1,c.2.2.2.2.1.2),c.2.2.2.2.2.1,c.2.2.2.2.2.2),((f.1.1,f.1.2),f.2),fr) : Den tStep) = (c,f,fr) := fun _ _ _ => rfl
   have hst : ((list[i],(E[j]).1,fromA (fc out) list[i] (E[j]).1.2) : Den tStep) = stF list E[j] := by
    unfold stF
    rw [x1,← x2,getD_at list hi]
   have hnx : (out ++ E.take j).map (stF list) ++ [stF list E[j]] = (out ++ E.take (j + 1)).map (stF list) := by
    rw [List.take_add_one,List.getElem?_eq_getElem hj,List.map_append,List.map_append,List.map_append,List.append_assoc]; rfl
   have hal : ((out ++ E.take j).map (stF list)).length ≤ 144 := by rw [List.length_map,List.length_append,List.length_take]; omega
   show (bif _ then _ else _) = _
   rw [lt_rows (fc (out ++ E)) hjo,le_rows i,lt_rows list hi,le_rows (out.length + j),getD_at list hi,getD_at (fc (out ++ E)) hjo,spec_From hN (out.map (stF list)) (by rw [List.length_map]; omega),Option.bind_some,w64_up (Nat.le_refl (out.length + j)) (by omega),stF_facts,hg]
   simp only [Bool.and_self,cond_true,List.length_cons,List.length_nil]
   rw [dT (p := (((out ++ E.take j).map (stF list)).length + (0 + 1)) * 128 ≤ 140737488355328) (by omega)]
   have h2 := ih ()
   rw [← hnx,← hst,dT (p := 0 < j + 1) (by omega),Bool.or_true] at h2
   exact h2)
  (fun a rec_ => by
   show (bif _ then _ else _) = _
   rw [dF (p := ((out.length + E.length : Nat) : Int) < ((fc (out ++ E)).length : Int)) (by omega),List.take_length]
   rfl)
  N (by omega) ()
 rw [List.take_zero,List.append_nil,dF (p := 0 < 0) (by omega),Bool.or_false] at key
 exact key
theorem all_L2 {N : Nat} (hN : Big N) {kx kr} (list : List (Den tCred)) (hl : list.length ≤ 1048576) (out : List (Den tFoundV)) (ho : OkL (fc out)) :
  iter (B_f52_L2 (Ω := ResA) N kx kr) N (list,out.map (stF list),fc out,false,(0:Int)) = kx (list,(passO 0 out list).map (stF list),fc (passO 0 out list),decide (out.length < (passO 0 out list).length)) := by
 have hN' := n40f hN
 have key := iter_to (B := B_f52_L2 (Ω := ResA) N kx kr) (A := List (Den tFoundV) × Bool) (fun i a => (list,a.1.map (stF list),fc a.1,a.2,(i : Int))) (fun i a q => OkL (fc a.1) → q = kx (list,(passO i a.1 (list.drop i)).map (stF list),fc (passO i a.1 (list.drop i)),a.2 || decide (a.1.length < (passO i a.1 (list.drop i)).length))) list.length
  (fun i a rec_ hi ih ha => by
   obtain ⟨o,fl⟩ := a
   have hll := ha.len
   simp only at hll ha
   have hfo := fc_len o
   obtain ⟨E,hE,hr⟩ := stepO_new o ha (i : Int) list[i]
   have hnx : stepF (fc o) list[i] = fc (o ++ E) := by rw [← hE,stepO_fc]
   have hok2 : OkL (fc (o ++ E)) := by rw [← hnx]; exact stepF_ok ha _
   have hl2 := hok2.len
   have hf2 := fc_len (o ++ E)
   have hle : (o ++ E).length = o.length + E.length := List.length_append
   have hpl : (o ++ E).length ≤ (passO (i + 1) (o ++ E) (list.drop (i + 1))).length := by
    have := passF_len (list.drop (i + 1)) (fc (o ++ E))
    rw [← passO_fc (list.drop (i + 1)) (i + 1) (o ++ E),fc_len,fc_len] at this
    exact this
   show (bif _ then _ else _) = _
   rw [lt_rows list hi,le_rows i,getD_at list hi,spec_Follows hN (fc o) hll,Option.bind_some,drop_cons hi,hnx,hfo]
   simp only [Bool.and_self,cond_true]
   rw [all_L4 hN list hi o E (by omega) hr fl]
   simp only
   rw [w64_up (Nat.le_refl i) (by omega)]
   have h2 := ih (o ++ E,fl || decide (0 < E.length)) hok2
   simp only at h2
   have hp : passO i o (list[i] :: list.drop (i + 1)) = passO (i + 1) (o ++ E) (list.drop (i + 1)) := by
    show passO (i + 1) (stepO o (i : Int) list[i]) _ = _
    rw [hE]
   have hfl : (fl || decide (0 < E.length) || decide ((o ++ E).length < (passO (i + 1) (o ++ E) (list.drop (i + 1))).length)) = (fl || decide (o.length < (passO (i + 1) (o ++ E) (list.drop (i + 1))).length)) := by
    rw [Bool.or_assoc]
    congr 1
    by_cases h0 : 0 < E.length
    ·rw [dT h0,dT (p := o.length < _) (by omega)]; rfl
    ·rw [dF h0,Bool.false_or]
     have : (o ++ E).length = o.length := by omega
     rw [this]
   rw [hp,← hfl]
   exact h2)
  (fun a rec_ ha => by
   show (bif _ then _ else _) = _
   rw [at_end list,List.drop_length]
   show kx (list,a.1.map (stF list),fc a.1,a.2) = kx (list,a.1.map (stF list),fc a.1,a.2 || decide (a.1.length < a.1.length))
   rw [dF (p := a.1.length < a.1.length) (Nat.lt_irrefl _),Bool.or_false])
  N (by omega) (out,false)
 have := key ho
 rw [List.drop_zero,Bool.false_or] at this
 exact this
theorem all_L0 {N : Nat} (hN : Big N) {kx kr} (list : List (Den tCred)) (hl : list.length ≤ 1048576) : ∀ (n : Nat) (out : List (Den tFoundV)),OkL (fc out) → 145 ≤ out.length + n → ∀ M,n < M →
  iter (B_f52_L0 (Ω := ResA) N kx kr) M (list,out.map (stF list),fc out,true) = kx ((closeO list n out).map (stF list))
 | 0,out,ho,h145,_,_ => by have := ho.len; have := fc_len out; omega
 | n + 1,out,ho,h145,M,hM => by
  obtain ⟨M,rfl⟩ : ∃ m,M = m + 1 := ⟨M - 1,by omega⟩
  have hok : OkL (fc (passO 0 out list)) := by rw [passO_fc]; exact passF_ok list _ ho
  show iter (B_f52_L2 N (fun (x9,x10,x11,x12) => iter (B_f52_L0 N kx kr) M (x9,x10,x11,x12)) (fun ρ13 => kr (ρ13))) N (list,out.map (stF list),fc out,false,(0:Int)) = _
  rw [all_L2 hN list hl out ho]
  unfold closeO
  simp only
  by_cases hg : out.length < (passO 0 out list).length
  ·rw [dT hg,cond_true]
   exact all_L0 hN list hl n _ hok (by omega) M (by omega)
  ·rw [dF hg,cond_false]
   obtain ⟨M,rfl⟩ : ∃ m,M = m + 1 := ⟨M - 1,by omega⟩
   rfl
theorem spec_All {N : Nat} (hN : Big N) (list : List (Den tCred)) (hl : list.length ≤ 1048576) : x_f52 N list = some ((closeO list 145 []).map (stF list),()) := by
 have hN' := n40f hN
 unfold x_f52
 have := all_L0 hN (kx := fun x14 => some (x14,())) (kr := fun ρ15 => some ρ15) list hl 145 [] ⟨List.nodup_nil,fun f h => by cases h⟩ (by simp) N (by omega)
 exact (congrArg (fun q => Option.bind q _) this).trans rfl
end Go.Proofs.Ytfmlmdnaeonobaa.C
namespace Go.Proofs.Ytfmlmdnaeonobaa.C
open Go Go.Proofs.Ytfmlmdnaeonobaa.Nx Go.RowKit
set_option linter.unusedVariables false
set_option linter.unusedSimpArgs false
def markB (F : List Int) (w : List Bool) : List Bool := F.foldl (fun a x => a.set x.toNat true) w
def needB (g : Nat → List Int) : Nat → List Bool → List Bool
 | 0,w => w
 | j + 1,w => needB g j (bif w.getD j false then markB (g j) w else w)
def goK (w : List Bool) : Nat → List (Den tStep) → List Int → List (Den tStep) → List (Den tStep)
 | _,[],_,out => out
 | i,s :: ss,place,out => bif w.getD i false then goK w (i + 1) ss (place.set i (out.length : Int)) (out ++ [(s.1,s.2.1,s.2.2.map fun k => place.getD k.toNat 0)]) else goK w (i + 1) ss place out
def fromOf (S : List (Den tStep)) (j : Nat) : List Int := (S.getD j (dft tStep)).2.2
def keptF (S : List (Den tStep)) : List (Den tStep) :=
 goK (needB (fromOf S) S.length ((List.replicate S.length false).set (S.length - 1) true)) 0 S (List.replicate S.length 0) []
theorem goK_cons (w : List Bool) (i : Nat) (s : Den tStep) (ss : List (Den tStep)) (place : List Int) (out : List (Den tStep)) : goK w i (s :: ss) place out = bif w.getD i false then goK w (i + 1) ss (place.set i (out.length : Int)) (out ++ [(s.1,s.2.1,s.2.2.map fun k => place.getD k.toNat 0)]) else goK w (i + 1) ss place out := rfl
theorem needB_succ (g : Nat → List Int) (j : Nat) (w : List Bool) : needB g (j + 1) w = needB g j (bif w.getD j false then markB (g j) w else w) := rfl
theorem markB_len : ∀ (F : List Int) (w : List Bool),(markB F w).length = w.length
 | [],_ => rfl
 | x :: F,w => by unfold markB; rw [List.foldl_cons]; exact (markB_len F _).trans (List.length_set ..)
theorem needB_len (g : Nat → List Int) : ∀ (j : Nat) (w : List Bool),(needB g j w).length = w.length
 | 0,_ => rfl
 | j + 1,w => by
  rw [needB_succ,needB_len g j]
  cases w.getD j false
  ·rfl
  ·exact markB_len _ _
theorem needB_congr {g g' : Nat → List Int} : ∀ (j : Nat) (w : List Bool),(∀ i,i < j → g i = g' i) → needB g j w = needB g' j w
 | 0,_,_ => rfl
 | j + 1,w,h => by rw [needB_succ,needB_succ,h j (by omega)]; exact needB_congr j _ fun i hi => h i (by omega)
def iL (w : List Bool) : List Int := w.map fun b => bif b then 1 else 0
theorem iL_len (w : List Bool) : (iL w).length = w.length := List.length_map _
theorem iL_at (w : List Bool) {i : Nat} (hi : i < w.length) (h : i < (iL w).length) : (iL w)[i] = bif w[i] then 1 else 0 := List.getElem_map ..
theorem iL_set (w : List Bool) (k : Nat) : (iL w).set k 1 = iL (w.set k true) := by
 unfold iL; rw [List.map_set]; rfl
theorem iL_mark : ∀ (F : List Int) (w : List Bool),markA F (iL w) = iL (markB F w)
 | [],_ => rfl
 | x :: F,w => by
  unfold markA markB
  rw [List.foldl_cons,List.foldl_cons,iL_set]
  exact iL_mark F _
theorem set_same {w : List Bool} {k : Nat} (h : w.getD k false = true) : w.set k true = w := by
 apply List.ext_getElem?
 intro i
 rw [List.getElem?_set]
 split
 ·rename_i e
  subst e
  rw [List.getD_eq_getElem?_getD] at h
  cases hw : w[k]? with
  | none => rw [hw] at h; cases h
  | some b =>
   rw [hw] at h
   have hb : b = true := h
   have hlt := (List.getElem?_eq_some_iff.1 hw).1
   rw [if_pos hlt,hb]
 ·rfl
theorem getB {w : List Bool} {i : Nat} (hi : i < w.length) : w.getD i false = w[i] := by rw [List.getD_eq_getElem?_getD,List.getElem?_eq_getElem hi]; rfl
theorem markB_keep : ∀ (F : List Int) (w : List Bool) (i : Nat),w.getD i false = true → (markB F w).getD i false = true
 | [],_,_,h => h
 | x :: F,w,i,h => by
  unfold markB
  rw [List.foldl_cons]
  refine markB_keep F _ i ?_
  rw [List.getD_eq_getElem?_getD] at h ⊢
  rw [List.getElem?_set]
  split
  ·rename_i e
   subst e
   split
   ·rfl
   ·rename_i hlt
    rw [List.getElem?_eq_none (by omega)] at h
    cases h
  ·exact h
theorem kept_X0 {N : Nat} (hN : Big N) {kx kr} (S : List (Den tStep)) (hS : ∀ i (hi : i < S.length),StepP S i S[i]) (hn : S.length ≤ 1000) : ∀ (j : Nat) (w : List Bool),w.length = S.length → j + 1 ≤ S.length → ∀ M,j < M →
  iter (B_f12_L0 (Ω := List (Den tStep)) N kx kr) M (S,iL w,(j : Int) - 1) = kx (S,iL (needB (fromOf S) j w))
 | 0,w,hl,hj,M,hM => by
  obtain ⟨M,rfl⟩ : ∃ m,M = m + 1 := ⟨M - 1,by omega⟩
  rfl
 | j + 1,w,hl,hj,M,hM => by
  obtain ⟨M,rfl⟩ : ∃ m,M = m + 1 := ⟨M - 1,by omega⟩
  have hjs : j < S.length := by omega
  have hjw : j < w.length := by omega
  have hjn : j < (iL w).length := by rw [iL_len]; omega
  have e : ((j + 1 : Nat) : Int) - 1 = (j : Int) := by omega
  have hP := hS j hjs
  have hFr : ∀ x ∈ (S[j]).2.2,∃ k : Nat,x = (k : Int) ∧ k < ((iL w).set j 1).length := fun x hx => by
   obtain ⟨k,e,hk⟩ := hP.fr x hx
   exact ⟨k,e,by rw [List.length_set,iL_len]; omega⟩
  have h2 := stepG_two hP.g
  have hfo : fromOf S j = (S[j]).2.2 := by unfold fromOf; rw [List.getD_eq_getElem?_getD,List.getElem?_eq_getElem hjs]; rfl
  have hni := iL_at w hjw hjn
  show (bif _ then _ else _) = _
  rw [e,dT (p := (0:Int) ≤ (j : Int)) (by omega),w64_sub1 (by omega : S.length ≤ 140737488355328),lt_rows (iL w) hjn,getD_at (iL w) hjn,lt_rows S hjs,getD_at S hjs,w64_sub1 (by omega : j ≤ 140737488355328),Int.toNat_natCast,needB_succ,getB hjw,dT (p := (j : Int) < (S.length : Int) - 1) (by omega),hni,hfo]
  simp only [Bool.and_self,cond_true]
  cases hb : w[j] with
  | false =>
   simp only [cond_false,decide_true,cond_true]
   exact kept_X0 hN S hS hn j w hl (by omega) M (by omega)
  | true =>
   simp only [cond_true]
   rw [dF (p := (1:Int) = 0) (by decide)]
   simp only [cond_false]
   rw [kept_L2 hN S ((iL w).set j 1) (j : Int) (S[j]).2.2 (by omega) hFr]
   simp only
   rw [w64_sub1 (by omega : j ≤ 140737488355328),iL_set,set_same (by rw [getB hjw]; exact hb),iL_mark]
   exact kept_X0 hN S hS hn j _ (by rw [markB_len]; exact hl) (by omega) M (by omega)
theorem iL_rep (n : Nat) : List.replicate n (0:Int) = iL (List.replicate n false) := by unfold iL; rw [List.map_replicate]; rfl
theorem kept_eq {N : Nat} (hN : Big N) (S : List (Den tStep)) (hS : ∀ i (hi : i < S.length),StepP S i S[i]) (h1 : 1 ≤ S.length) (hn : S.length ≤ 1000) : x_f12 N S = some (keptF S) := by
 have hN' := n40f hN
 unfold x_f12 keptF
 rw [dT (p := (S.length : Int) = (S.length : Int)) rfl,dT (p := (0:Int) ≤ (S.length : Int)) (by omega),dT (p := (S.length : Int) * (8 : Nat) ≤ 140737488355328) (by omega),dT (p := (S.length : Int) ≤ 9223372036854775807) (by omega)]
 simp only [Bool.and_self,cond_true]
 rw [w64_sub1 (by omega : S.length ≤ 140737488355328)]
 generalize hT : (fun (x : List (Den tStep) × List Int) => _) = T
 have hX : iter (B_f12_L0 N T (fun ρ21 => some ρ21)) N (S,List.replicate (S.length : Int).toNat (0:Int),(S.length : Int) - 1) = T (S,iL (needB (fromOf S) S.length ((List.replicate S.length false).set (S.length - 1) true))) := by
  obtain ⟨n,hnl⟩ : ∃ n,S.length = n + 1 := ⟨S.length - 1,by omega⟩
  obtain ⟨M,rfl⟩ : ∃ m,N = m + 1 := ⟨N - 1,by omega⟩
  have hns : n < S.length := by omega
  have hP := hS n hns
  have h2 := stepG_two hP.g
  have hFr : ∀ x ∈ (S[n]).2.2,∃ k : Nat,x = (k : Int) ∧ k < ((List.replicate S.length (0:Int)).set n 1).length := fun x hx => by
   obtain ⟨k,e,hk⟩ := hP.fr x hx
   exact ⟨k,e,by rw [List.length_set,List.length_replicate]; omega⟩
  have hfo : fromOf S n = (S[n]).2.2 := by unfold fromOf; rw [List.getD_eq_getElem?_getD,List.getElem?_eq_getElem hns]; rfl
  have hnr : n < (List.replicate S.length (0:Int)).length := by rw [List.length_replicate]; omega
  have e : (S.length : Int) - 1 = (n : Int) := by omega
  have hw0 : ((List.replicate S.length false).set n true).getD n false = true := by
   rw [List.getD_eq_getElem?_getD,List.getElem?_set_self (by rw [List.length_replicate]; omega)]; rfl
  have hgo := kept_X0 hN (kx := T) (kr := fun ρ21 => some ρ21) S hS hn n (markB (S[n]).2.2 ((List.replicate S.length false).set n true)) (by rw [markB_len,List.length_set,List.length_replicate]) (by omega) M (by omega)
  have hL2 := kept_L2 hN (kx := fun (x5,x6,x7) => iter (B_f12_L0 (Ω := List (Den tStep)) (M + 1) T (fun ρ21 => some ρ21)) M (x5,x6,(wrap64 (x7 - (1:Int))))) (kr := fun ρ8 => some ρ8) S ((List.replicate S.length (0:Int)).set n 1) (n : Int) (S[n]).2.2 (by omega) hFr
  rw [show S.length - 1 = n from by omega,e,Int.toNat_natCast]
  show (bif _ then _ else _) = _
  rw [dT (p := (0:Int) ≤ (n : Int)) (by omega),w64_sub1 (by omega : S.length ≤ 140737488355328),dF (p := (n : Int) < (S.length : Int) - 1) (by omega),lt_rows _ hnr,lt_rows S hns,getD_at S hns,Int.toNat_natCast]
  simp only [Bool.and_self,cond_true,cond_false]
  refine hL2.trans ?_
  simp only
  rw [w64_sub1 (by omega : n ≤ 140737488355328),iL_rep,iL_set,iL_mark,hgo]
  have : needB (fromOf S) S.length ((List.replicate S.length false).set n true) = needB (fromOf S) n (markB (S[n]).2.2 ((List.replicate S.length false).set n true)) := by
   rw [hnl,needB_succ,← hnl,hw0,hfo]; rfl
  rw [this]
 rw [hX,← hT]
 simp only [decide_true,Bool.true_and]
 rw [dT (p := (0:Int) ≤ (S.length : Int)) (by omega),dT (p := (S.length : Int) * (8 : Nat) ≤ 140737488355328) (by omega),dT (p := (S.length : Int) ≤ 9223372036854775807) (by omega)]
 simp only [Bool.and_self,cond_true]
 have hwl : (needB (fromOf S) S.length ((List.replicate S.length false).set (S.length - 1) true)).length = S.length := by rw [needB_len,List.length_set,List.length_replicate]
 generalize needB (fromOf S) S.length ((List.replicate S.length false).set (S.length - 1) true) = w at hwl
 have key := iter_to (B := B_f12_L4 N (fun x19 => some x19) (fun ρ20 => some (ρ20))) (A := List Int × List (Den tStep)) (fun i a => (iL w,a.1,a.2,S,(S.length : Int),(i : Int))) (fun i a r => a.1.length = S.length → a.2.length ≤ i → r = some (goK w i (S.drop i) a.1 a.2)) S.length
  (fun i a rec_ hi ih hpl hle => by
   obtain ⟨place,out⟩ := a
   simp only at hpl hle
   have hiw : i < w.length := by omega
   have hin : i < (iL w).length := by rw [iL_len]; omega
   have hip : i < place.length := by omega
   have hP := hS i hi
   have h2 := stepG_two hP.g
   have hni := iL_at w hiw hin
   have eta : ∀ s : Den tStep,(((s.1.1,(s.1.2.1.1,s.1.2.1.2),s.1.2.2.1,(s.1.2.2.2.1.1,s.1.2.2.2.1.2),(s.1.2.2.2.2.1.1,s.1.2.2.2.2.1.2),s.1.2.2.2.2.2.1,s.1.2.2.2.2.2.2),((s.2.1.1.1,s.2.1.1.2),s.2.1.2),[]) : Den tStep) = (s.1,s.2.1,[]) := fun _ => rfl
   show (bif _ then _ else _) = _
   rw [lt_rows S hi,le_rows i,lt_rows (iL w) hin,getD_at (iL w) hin,getD_at S hi,lt_rows place hip,Int.toNat_natCast,drop_cons hi,goK_cons,getB hiw,hni]
   simp only [Bool.and_self,cond_true,eta]
   cases hb : w[i] with
   | false =>
    simp only [cond_false,decide_true,cond_true]
    rw [w64_up (Nat.le_refl i) (by omega)]
    exact ih (place,out) hpl (by simp only; omega)
   | true =>
    simp only [cond_true]
    rw [dF (p := (1:Int) = 0) (by decide)]
    simp only [cond_false]
    rw [kept_L6 hN (iL w) (place.set i (out.length : Int)) out S (S[i]).1 (S[i]).2.1 _ _ (S[i]).2.2 (by omega) (fun x hx => by
     obtain ⟨k,ek,hk⟩ := hP.fr x hx
     exact ⟨k,ek,by rw [List.length_set]; omega⟩)]
    simp only [List.length_cons,List.length_nil]
    rw [dT (p := (out.length + (0 + 1)) * 128 ≤ 140737488355328) (by omega),w64_up (Nat.le_refl i) (by omega)]
    have hmap : ((S[i]).2.2.map fun k => (place.set i (out.length : Int)).getD k.toNat 0) = (S[i]).2.2.map fun k => place.getD k.toNat 0 := by
     refine List.map_congr_left fun x hx => ?_
     obtain ⟨k,ek,hk⟩ := hP.fr x hx
     rw [ek,Int.toNat_natCast,List.getD_eq_getElem?_getD,List.getD_eq_getElem?_getD,List.getElem?_set_ne (by omega)]
    rw [hmap]
    exact ih (_,_) (by simp only [List.length_set]; exact hpl) (by simp only [List.length_append,List.length_cons,List.length_nil]; omega))
  (fun a rec_ _ _ => by
   show (bif _ then _ else _) = _
   rw [dF (Int.lt_irrefl _),List.drop_length]; rfl)
  N (by omega) (List.replicate (S.length : Int).toNat (0:Int),[])
 have := key (by simp) (Nat.zero_le _)
 rw [List.drop_zero,Int.toNat_natCast] at this
 exact this
end Go.Proofs.Ytfmlmdnaeonobaa.C
namespace Go.Proofs.Ytfmlmdnaeonobaa.C
open Go Go.Proofs.Ytfmlmdnaeonobaa.Nx Go.RowKit
set_option linter.unusedVariables false
set_option linter.unusedSimpArgs false
abbrev ResP := (List (Den tStep)) × Bool
theorem po_L2 {N : Nat} (hN : Big N) {kx kr} (S : List (Den tStep)) (e : Int) {i : Nat} (hi : i < S.length) (w : List Bool) (hiw : i < w.length) (hF2 : (S[i]).2.2.length ≤ 1000) (hF : ∀ x ∈ (S[i]).2.2,∃ k : Nat,x = (k : Int) ∧ k < w.length) :
  iter (B_f34_L2 (Ω := ResP) N kx kr) N (S,e,w,(i : Int),(0:Int)) = kx (S,e,bif w.getD i false then markB (S[i]).2.2 w else w,(i : Int)) := by
 have hN' := n40f hN
 cases hb : w.getD i false with
 | false =>
  obtain ⟨M,rfl⟩ : ∃ m,N = m + 1 := ⟨N - 1,by omega⟩
  show (bif _ then _ else _) = _
  rw [lt_rows S hi,le_rows i,getD_at S hi,lt_rows w hiw,Int.toNat_natCast,hb]
  simp only [Bool.and_self,cond_true,cond_false]
  cases decide ((0:Int) < ((S[i]).2.2.length : Int)) <;> rfl
 | true =>
  have key := iter_to (B := B_f34_L2 (Ω := ResP) N kx kr) (A := List Bool) (fun j a => (S,e,a,(i : Int),(j : Int))) (fun j a q => a.length = w.length → a.getD i false = true → q = kx (S,e,markB ((S[i]).2.2.drop j) a,(i : Int))) (S[i]).2.2.length
   (fun j a rec_ hj ih hl ha => by
    obtain ⟨k,ek,hk⟩ := hF _ (List.getElem_mem hj)
    show (bif _ then _ else _) = _
    rw [lt_rows S hi,le_rows i,getD_at S hi,lt_rows (S[i]).2.2 hj,lt_rows a (by omega : i < a.length),Int.toNat_natCast,ha,le_rows j,getD_at (S[i]).2.2 hj,ek,le_rows k,lt_rows a (by omega : k < a.length),w64_up (Nat.le_refl j) (by omega),drop_cons hj]
    simp only [Bool.and_self,cond_true]
    have := ih (a.set ((k : Int)).toNat true) (by rw [List.length_set]; exact hl) (by
     have := markB_keep [(k : Int)] a i ha
     exact this)
    rw [ek]
    exact this)
   (fun a rec_ hl ha => by
    show (bif _ then _ else _) = _
    rw [lt_rows S hi,le_rows i,getD_at S hi,dF (Int.lt_irrefl _),List.drop_length]
    simp only [Bool.and_self,cond_true,cond_false]
    rfl)
   N (by omega) w
  have := key rfl hb
  rw [List.drop_zero] at this
  exact this
theorem po_L0 {N : Nat} (hN : Big N) {kx kr} (S : List (Den tStep)) (hS : ∀ i (hi : i < S.length),StepP S i S[i]) (hn : S.length ≤ 1000) (e : Int) : ∀ (j : Nat) (w : List Bool),j ≤ w.length → w.length ≤ S.length → ∀ M,j < M →
  iter (B_f34_L0 (Ω := ResP) N kx kr) M (S,e,w,(j : Int) - 1) = kx (S,e,needB (fromOf S) j w)
 | 0,w,hj,hl,M,hM => by
  obtain ⟨M,rfl⟩ : ∃ m,M = m + 1 := ⟨M - 1,by omega⟩
  rfl
 | j + 1,w,hj,hl,M,hM => by
  obtain ⟨M,rfl⟩ : ∃ m,M = m + 1 := ⟨M - 1,by omega⟩
  have hjs : j < S.length := by omega
  have e1 : ((j + 1 : Nat) : Int) - 1 = (j : Int) := by omega
  have hP := hS j hjs
  have h2 := stepG_two hP.g
  have hfo : fromOf S j = (S[j]).2.2 := by unfold fromOf; rw [List.getD_eq_getElem?_getD,List.getElem?_eq_getElem hjs]; rfl
  show (bif _ then _ else _) = _
  rw [e1,dT (p := (0:Int) ≤ (j : Int)) (by omega),po_L2 hN S e hjs w (by omega) (by omega) (fun x hx => by
   obtain ⟨k,ek,hk⟩ := hP.fr x hx
   exact ⟨k,ek,by omega⟩)]
  simp only [cond_true]
  rw [w64_sub1 (by omega : j ≤ 140737488355328),needB_succ,hfo]
  refine po_L0 hN S hS hn e j _ ?_ ?_ M (by omega)
  ·cases w.getD j false
   ·simp only [cond_false]; omega
   ·simp only [cond_true]; rw [markB_len]; omega
  ·cases w.getD j false
   ·exact hl
   ·simp only [cond_true]; rw [markB_len]; exact hl
theorem po_L6 {N : Nat} (hN : Big N) {kx kr} (S : List (Den tStep)) (e : Int) (w : List Bool) (place : List Int) (out : List (Den tStep)) {i : Nat} (hi : i < S.length) (c : Den tCred) (f : Den tFact) (hF2 : (S[i]).2.2.length ≤ 1000) (hF : ∀ x ∈ (S[i]).2.2,∃ k : Nat,x = (k : Int) ∧ k < place.length) :
  iter (B_f34_L6 (Ω := ResP) N kx kr) N (S,e,w,place,out,(i : Int),(c,f,[]),(0:Int)) = kx (S,e,w,place,out,(i : Int),(c,f,(S[i]).2.2.map fun k => place.getD k.toNat 0)) := by
 have hN' := n40f hN
 have key := iter_to (B := B_f34_L6 (Ω := ResP) N kx kr) (A := List Int) (fun j a => (S,e,w,place,out,(i : Int),(c,f,a),(j : Int))) (fun j a q => a.length ≤ j → q = kx (S,e,w,place,out,(i : Int),(c,f,a ++ ((S[i]).2.2.drop j).map fun k => place.getD k.toNat 0))) (S[i]).2.2.length
  (fun j a rec_ hj ih ha => by
   obtain ⟨k,ek,hk⟩ := hF _ (List.getElem_mem hj)
   show (bif _ then _ else _) = _
   rw [lt_rows S hi,le_rows i,getD_at S hi,lt_rows (S[i]).2.2 hj,le_rows j,getD_at (S[i]).2.2 hj,w64_up (Nat.le_refl j) (by omega),drop_cons hj,ek,le_rows k,lt_rows place hk]
   simp only [Bool.and_self,cond_true,List.length_cons,List.length_nil]
   rw [dT (p := (a.length + (0 + 1)) * 8 ≤ 140737488355328) (by omega)]
   have := ih (a ++ [place.getD ((k : Int)).toNat 0]) (by simp only [List.length_append,List.length_cons,List.length_nil]; omega)
   rw [List.append_assoc] at this
   exact this)
  (fun a rec_ ha => by
   show (bif _ then _ else _) = _
   rw [lt_rows S hi,le_rows i,getD_at S hi,dF (Int.lt_irrefl _),List.drop_length]
   simp)
  N (by omega) []
 exact key (by simp)
theorem po_L4 {N : Nat} (hN : Big N) (S : List (Den tStep)) (hS : ∀ i (hi : i < S.length),StepP S i S[i]) (hn : S.length ≤ 1000) {t : Nat} (ht : t < S.length) (w : List Bool) (hw : w.length = t + 1) :
  iter (B_f34_L4 (Ω := ResP) N (fun x27 => some (x27,true)) (fun ρ28 => some (ρ28))) N (S,(t : Int),w,List.replicate (t + 1) (0:Int),[],(0:Int)) = some (goK w 0 (S.take (t + 1)) (List.replicate (t + 1) 0) [],true) := by
 have hN' := n40f hN
 have key := iter_to (B := B_f34_L4 (Ω := ResP) N (fun x27 => some (x27,true)) (fun ρ28 => some (ρ28))) (A := List Int × List (Den tStep)) (fun i a => (S,(t : Int),w,a.1,a.2,(i : Int))) (fun i a q => a.1.length = t + 1 → a.2.length ≤ i → q = some (goK w i ((S.take (t + 1)).drop i) a.1 a.2,true)) (t + 1)
  (fun i a rec_ hi ih hpl hle => by
   obtain ⟨place,out⟩ := a
   simp only at hpl hle
   have his : i < S.length := by omega
   have hiw : i < w.length := by omega
   have hip : i < place.length := by omega
   have hit : i < (S.take (t + 1)).length := by rw [List.length_take]; omega
   have hP := hS i his
   have h2 := stepG_two hP.g
   have hgt : (S.take (t + 1))[i] = S[i] := List.getElem_take
   have eta : ∀ s : Den tStep,(((s.1.1,(s.1.2.1.1,s.1.2.1.2),s.1.2.2.1,(s.1.2.2.2.1.1,s.1.2.2.2.1.2),(s.1.2.2.2.2.1.1,s.1.2.2.2.2.1.2),s.1.2.2.2.2.2.1,s.1.2.2.2.2.2.2),((s.2.1.1.1,s.2.1.1.2),s.2.1.2),[]) : Den tStep) = (s.1,s.2.1,[]) := fun _ => rfl
   have L6 : ∀ (kx : _) (kr : _),iter (B_f34_L6 (Ω := ResP) N kx kr) N (S,(t : Int),w,place,out,(i : Int),((S[i]).1,(S[i]).2.1,[]),(0:Int)) = kx (S,(t : Int),w,place,out,(i : Int),((S[i]).1,(S[i]).2.1,(S[i]).2.2.map fun k => place.getD k.toNat 0)) := fun kx kr =>
    po_L6 hN S (t : Int) w place out his (S[i]).1 (S[i]).2.1 (by omega) (fun x hx => by
     obtain ⟨k,ek,hk⟩ := hP.fr x hx
     exact ⟨k,ek,by omega⟩)
   show (bif _ then _ else _) = _
   rw [dT (p := (i : Int) ≤ (t : Int)) (by omega),le_rows i,lt_rows w hiw,lt_rows S his,Int.toNat_natCast,getB hiw,drop_cons hit,hgt,goK_cons,getB hiw]
   have hgS : S.getD i (dft tStepV) = S[i] := by rw [List.getD_eq_getElem?_getD,List.getElem?_eq_getElem his]; rfl
   simp only [Bool.and_self,cond_true,hgS]
   cases hb : w[i] with
   | false =>
    simp only [Bool.not_false,cond_true,cond_false]
    rw [w64_up (Nat.le_refl i) (by omega)]
    exact ih (place,out) hpl (by simp only; omega)
   | true =>
    simp only [Bool.not_true,cond_false,cond_true,eta]
    rw [agree_self]
    refine (L6 _ _).trans ?_
    simp only [List.length_cons,List.length_nil]
    rw [le_rows i,lt_rows place hip,dT (p := (out.length + (0 + 1)) * 128 ≤ 140737488355328) (by omega),w64_up (Nat.le_refl i) (by omega)]
    simp only [Bool.and_self,cond_true,Int.toNat_natCast]
    exact ih (_,_) (by simp only [List.length_set]; exact hpl) (by simp only [List.length_append,List.length_cons,List.length_nil]; omega))
  (fun a rec_ hpl hle => by
   show (bif _ then _ else _) = _
   rw [dF (p := ((t + 1 : Nat) : Int) ≤ (t : Int)) (by omega),List.drop_eq_nil_of_le (by rw [List.length_take]; omega)]
   rfl)
  N (by omega) (List.replicate (t + 1) (0:Int),[])
 exact key (by simp) (Nat.zero_le _)
def proofF (list : List (Den tCred)) (f : Den tFact) : List (Den tStep) × Bool :=
 bif decide (0 ≤ atF (fc (closeO list 145 [])) f) then (keptF (((closeO list 145 []).take ((atF (fc (closeO list 145 [])) f).toNat + 1)).map (stF list)),true) else ([],false)
theorem found_good (list : List (Den tCred)) : (∀ i (hi : i < ((closeO list 145 []).map (stF list)).length),StepP ((closeO list 145 []).map (stF list)) i ((closeO list 145 []).map (stF list))[i]) ∧ (closeO list 145 []).length ≤ 144 := by
 have hok := closeF_ok list 145 [] ⟨List.nodup_nil,fun f h => by cases h⟩
 have hfc : fc (closeO list 145 []) = closeF list 145 [] := closeO_fc list 145 []
 have hgood := closeO_good list 145 [] (fun i hi => absurd hi (by simp))
 have hfl := fc_len (closeO list 145 [])
 rw [hfc] at hfl
 have hln := hok.len
 refine ⟨fun i hi => ?_,by omega⟩
 have hio : i < (closeO list 145 []).length := by rwa [List.length_map] at hi
 rw [List.getElem_map]
 exact (hgood i hio).2
theorem take_good {S : List (Den tStep)} (hS : ∀ i (hi : i < S.length),StepP S i S[i]) (n : Nat) : ∀ i (hi : i < (S.take n).length),StepP (S.take n) i (S.take n)[i] := fun i hi => by
 have hin : i < n ∧ i < S.length := by rw [List.length_take] at hi; omega
 rw [List.getElem_take]
 refine (hS i hin.2).other (Nat.le_refl i) fun k hk => ?_
 rw [List.getD_eq_getElem?_getD,List.getD_eq_getElem?_getD,List.getElem?_take,if_pos (by omega)]
theorem keptF_take (S : List (Den tStep)) {t : Nat} (ht : t < S.length) : keptF (S.take (t + 1)) = goK (needB (fromOf S) (t + 1) ((List.replicate (t + 1) false).set t true)) 0 (S.take (t + 1)) (List.replicate (t + 1) 0) [] := by
 have hTl : (S.take (t + 1)).length = t + 1 := by rw [List.length_take]; omega
 unfold keptF
 rw [hTl,Nat.add_sub_cancel]
 have e : needB (fromOf (S.take (t + 1))) (t + 1) ((List.replicate (t + 1) false).set t true) = needB (fromOf S) (t + 1) ((List.replicate (t + 1) false).set t true) := by
  refine needB_congr _ _ fun i hi => ?_
  unfold fromOf
  rw [List.getD_eq_getElem?_getD,List.getD_eq_getElem?_getD,List.getElem?_take,if_pos hi]
 rw [e]
theorem spec_ProofOf {N : Nat} (hN : Big N) (list : List (Den tCred)) (hl : list.length ≤ 1048576) (r : Den tRole) (w : Int) : x_f34 N list r w = some (proofF list (r,w)) := by
 have hN' := n40f hN
 obtain ⟨hS,hlen⟩ := found_good list
 unfold x_f34 proofF
 rw [spec_All hN list hl,Option.bind_some]
 generalize closeO list 145 [] = out at hS hlen
 have hSl : (out.map (stF list)).length = out.length := List.length_map _
 have hAt := spec_At hN (out.map (stF list)) (by omega) (r,w)
 rw [stF_facts] at hAt
 refine (congrArg (fun q => Option.bind q _) hAt).trans ?_
 rw [Option.bind_some]
 by_cases h0 : 0 ≤ atF (fc out) (r,w)
 ·obtain ⟨t,ht,et,_⟩ := atF_some h0
  rw [fc_len] at ht
  rw [et,dF (p := (t : Int) < 0) (by omega),dT (p := (0:Int) ≤ (t : Int)) (by omega),w64_up (Nat.le_refl t) (by omega),Int.toNat_natCast,Int.toNat_natCast]
  rw [List.length_replicate,dT (p := ((t + 1 : Nat) : Int) = ((t + 1 : Nat) : Int)) rfl,dT (p := (0:Int) ≤ ((t + 1 : Nat) : Int)) (by omega),dT (p := ((t + 1 : Nat) : Int) * (1 : Nat) ≤ 140737488355328) (by omega),dT (p := ((t + 1 : Nat) : Int) ≤ 9223372036854775807) (by omega),dT (p := (t : Int) < ((t + 1 : Nat) : Int)) (by omega)]
  simp only [Bool.and_self,cond_true,cond_false]
  have hL0 : ∀ kx,iter (B_f34_L0 (Ω := ResP) N kx (fun ρ29 => some ρ29)) N (out.map (stF list),(t : Int),(List.replicate (t + 1) false).set t true,(t : Int)) = kx (out.map (stF list),(t : Int),needB (fromOf (out.map (stF list))) (t + 1) ((List.replicate (t + 1) false).set t true)) := fun kx => by
   have := po_L0 hN (kx := kx) (kr := fun ρ29 => some ρ29) (out.map (stF list)) hS (by omega) (t : Int) (t + 1) ((List.replicate (t + 1) false).set t true) (by simp) (by simp; omega) N (by omega)
   rw [show ((t + 1 : Nat) : Int) - 1 = (t : Int) from by omega] at this
   exact this
  refine (hL0 _).trans ?_
  simp only
  rw [w64_up (Nat.le_refl t) (by omega),dT (p := (0:Int) ≤ ((t + 1 : Nat) : Int)) (by omega),dT (p := ((t + 1 : Nat) : Int) * (8 : Nat) ≤ 140737488355328) (by omega),dT (p := ((t + 1 : Nat) : Int) ≤ 9223372036854775807) (by omega),Int.toNat_natCast]
  simp only [decide_true,Bool.and_self,cond_true]
  rw [po_L4 hN (out.map (stF list)) hS (by omega) (by omega : t < (out.map (stF list)).length) _ (by rw [needB_len,List.length_set,List.length_replicate])]
  rw [List.map_take,keptF_take (out.map (stF list)) (by omega)]
 ·rw [dT (p := atF (fc out) (r,w) < 0) (by omega),dF h0]; rfl
theorem impl_ProofOf2 {N : Nat} (hN : Big N) (list : List (Den tCred)) (hl : list.length ≤ 1048576) (r : Den tRole) (w : Int) : x_f2 N list r w = some (proofF list (r,w)) := by
 have hN' := n40f hN
 obtain ⟨hS,hlen⟩ := found_good list
 have hgood := closeO_good list 145 [] (fun i hi => absurd hi (by simp))
 unfold x_f2 proofF
 rw [impl_findFacts hN list hl,Option.bind_some]
 generalize closeO list 145 [] = out at hS hlen hgood
 have hSl : (out.map (stF list)).length = out.length := List.length_map _
 have key := iter_to (B := B_f2_L0 N (fun _ => some ([],false)) (fun ρ3 => some (ρ3))) (A := Unit) (fun i _ => (list,w,r,(out.take i).map (stF list),out,(out.length : Int),(i : Int)))
  (fun i _ q => (findI (fun x => eqF x (r,w)) i ((fc out).drop i) = atF (fc out) (r,w)) → q = some (bif decide (0 ≤ atF (fc out) (r,w)) then (keptF ((out.take ((atF (fc out) (r,w)).toNat + 1)).map (stF list)),true) else ([],false))) out.length
  (fun i a rec_ hi ih hf => by
   obtain ⟨⟨k,ek,hk⟩,_⟩ := hgood i hi
   have hfi : i < (fc out).length := by rw [fc_len]; exact hi
   have hal : ((out.take i).map (stF list)).length ≤ 144 := by rw [List.length_map,List.length_take]; omega
   have eta : ∀ (c : Den tCred) (f : Den tFact) (fr : List Int),(((c.1,(c.2.1.1,c.2.1.2),c.2.2.1,(c.2.2.2.1.1,c.2.2.2.1.2),(c.2.2.2.2.1.1,c.2.2.2.2.1.2),c.2.2.2.2.2.1,c.2.2.2.2.2.2),((f.1.1,f.1.2),f.2),fr) : Den tStep) = (c,f,fr) := fun _ _ _ => rfl
   have hst : ((list.getD ((k : Int)).toNat (dft tCred),(out[i]).1,(out[i]).2.2) : Den tStep) = stF list out[i] := by unfold stF; rw [ek]
   have hnx : (out.take i).map (stF list) ++ [stF list out[i]] = (out.take (i + 1)).map (stF list) := by
    rw [List.take_add_one,List.getElem?_eq_getElem hi,List.map_append]; rfl
   rw [drop_cons hfi,findI_cons,List.getElem_map] at hf
   show (bif _ then _ else _) = _
   rw [lt_rows out hi,le_rows i,getD_at out hi]
   simp only [Bool.and_self,cond_true,eta,ek,le_rows k,lt_rows list hk,List.length_cons,List.length_nil]
   rw [hst,hnx,dT (p := (((out.take i).map (stF list)).length + (0 + 1)) * 128 ≤ 140737488355328) (by omega),w64_up (Nat.le_refl i) (by omega)]
   simp only [cond_true]
   change (bif eqF (out[i]).1 (r,w) then _ else _) = _
   cases hb : eqF (out[i]).1 (r,w) with
   | true =>
    rw [hb,cond_true] at hf
    have hkept := kept_eq hN ((out.take (i + 1)).map (stF list)) (by rw [List.map_take]; exact take_good hS (i + 1)) (by rw [List.length_map,List.length_take]; omega) (by rw [List.length_map,List.length_take]; omega)
    rw [← hf,dT (p := (0:Int) ≤ (i : Int)) (by omega),Int.toNat_natCast]
    simp only [cond_true]
    exact (congrArg (fun q => Option.bind q _) hkept).trans rfl
   | false =>
    rw [hb,cond_false] at hf
    exact ih () hf)
  (fun a rec_ hf => by
   rw [List.drop_eq_nil_of_le (by rw [fc_len]; exact Nat.le_refl _)] at hf
   have hm : atF (fc out) (r,w) = -1 := hf.symm
   show (bif _ then _ else _) = _
   rw [dF (Int.lt_irrefl _),hm]; rfl)
  N (by omega) ()
 have := key (by rw [List.drop_zero]; rfl)
 exact this
end Go.Proofs.Ytfmlmdnaeonobaa.C
namespace Go.Proofs.Ytfmlmdnaeonobaa.C
open Go Go.Proofs.Ytfmlmdnaeonobaa.Nx Go.RowKit
set_option linter.unusedVariables false
set_option linter.unusedSimpArgs false
theorem goK_rows (w : List Bool) : ∀ (S : List (Den tStep)) (i : Nat) (place : List Int) (out : List (Den tStep)),(goK w i S place out).length ≤ out.length + S.length ∧ ∀ s ∈ goK w i S place out,s ∈ out ∨ ∃ q ∈ S,s.2.2.length = q.2.2.length
 | [],i,place,out => ⟨Nat.le_refl _,fun s h => .inl h⟩
 | q :: S,i,place,out => by
  rw [goK_cons]
  cases w.getD i false with
  | false =>
   obtain ⟨h1,h2⟩ := goK_rows w S (i + 1) place out
   simp only [cond_false,List.length_cons]
   refine ⟨by omega,fun s hs => ?_⟩
   rcases h2 s hs with h | ⟨z,hz,e⟩
   ·exact .inl h
   ·exact .inr ⟨z,by simp [hz],e⟩
  | true =>
   obtain ⟨h1,h2⟩ := goK_rows w S (i + 1) (place.set i (out.length : Int)) (out ++ [(q.1,q.2.1,q.2.2.map fun k => place.getD k.toNat 0)])
   simp only [List.length_append,List.length_cons,List.length_nil] at h1
   simp only [cond_true,List.length_cons]
   refine ⟨by omega,fun s hs => ?_⟩
   rcases h2 s hs with h | ⟨z,hz,e⟩
   ·rcases List.mem_append.1 h with h | h
    ·exact .inl h
    ·simp only [List.mem_singleton] at h
     subst h
     exact .inr ⟨q,by simp,by simp⟩
   ·exact .inr ⟨z,by simp [hz],e⟩
theorem kept_okz {S : List (Den tStep)} (hS : ∀ i (hi : i < S.length),StepP S i S[i]) (hn : S.length ≤ 1000) : (keptF S).length ≤ S.length ∧ ∀ s ∈ keptF S,s.2.2.length ≤ 2 := by
 unfold keptF
 obtain ⟨h1,h2⟩ := goK_rows (needB (fromOf S) S.length ((List.replicate S.length false).set (S.length - 1) true)) S 0 (List.replicate S.length 0) []
 simp only [List.length_nil] at h1
 refine ⟨by omega,fun s hs => ?_⟩
 rcases h2 s hs with h | ⟨z,hz,e⟩
 ·cases h
 ·obtain ⟨i,hi,rfl⟩ := List.getElem_of_mem hz
  rw [e]
  exact stepG_two (hS i hi).g
end Go.Proofs.Ytfmlmdnaeonobaa.C
namespace Go.Proofs.Ytfmlmdnaeonobaa.C
open Go Go.Proofs.Ytfmlmdnaeonobaa.Nx Go.RowKit
set_option linter.unusedVariables false
set_option linter.unusedSimpArgs false
theorem once_ok (N : Nat) (c : Den tL01Cur) (h : okC c) (n : Int) (hn : 0 < n) : ∃ b c',x_f42 N c n = some (b,c',()) ∧ okC c' := by
 obtain ⟨x,c1,e,_,_,h1⟩ := below_ok N c h n hn
 unfold x_f42
 rw [e]
 exact ⟨_,_,rfl,h1⟩
theorem role_ok (N : Nat) (c : Den tL01Cur) (h : okC c) : ∃ r c',x_f47 N c = some (r,c') ∧ okC c' := by
 obtain ⟨a,c1,e1,_,_,h1⟩ := below_ok N c h 3 (by omega)
 obtain ⟨b,c2,e2,_,_,h2⟩ := below_ok N c1 h1 2 (by omega)
 unfold x_f47
 simp only [e1,e2,Option.bind_some]
 exact ⟨_,_,rfl,h2⟩
theorem cred_ok (N : Nat) (c : Den tL01Cur) (h : okC c) : ∃ r c',x_f46 N c = some (r,c') ∧ okC c' := by
 obtain ⟨k,c1,e1,_,h1⟩ := pick_ok N c h [(1:Int),(1:Int),(2:Int),(3:Int),(4:Int)] (by simp)
 obtain ⟨r,c2,e2,h2⟩ := role_ok N c1 h1
 obtain ⟨u,c3,e3,_,h3⟩ := pick_ok N c2 h2 [(5:Int),(50:Int),(9999:Int),(2:Int)] (by simp)
 obtain ⟨x,c4,e4,_,_,h4⟩ := below_ok N c3 h3 2 (by omega)
 obtain ⟨w,c5,e5,_,_,h5⟩ := below_ok N c4 h4 6 (by omega)
 obtain ⟨a,c6,e6,h6⟩ := role_ok N c4 h4
 obtain ⟨b,c7,e7,_,_,h7⟩ := below_ok N c6 h6 2 (by omega)
 obtain ⟨d,c8,e8,h8⟩ := role_ok N c6 h6
 unfold x_f46
 simp only [e1,e2,e3,e4,e5,e6,e7,e8,Option.bind_some]
 cases decide (k = 1) with
 | true => exact ⟨_,_,rfl,h5⟩
 | false =>
  cases decide (k = 2) with
  | true => exact ⟨_,_,rfl,h6⟩
  | false =>
   cases decide (k = 3) with
   | true => exact ⟨_,_,rfl,h7⟩
   | false =>
    cases decide (k = 4) with
    | true => exact ⟨_,_,rfl,h8⟩
    | false => exact ⟨_,_,rfl,h4⟩
theorem any_ok (N : Nat) (c : Den tL01Cur) (h : okC c) : ∃ r c',x_f44 N c = some (r,c') ∧ okC c' := by
 obtain ⟨k,c1,e1,_,_,h1⟩ := below_ok N c h 10 (by omega)
 obtain ⟨y,c2,e2,y0,y1,h2⟩ := below_ok N c1 h1 60 (by omega)
 obtain ⟨x,c3,e3,h3⟩ := cred_ok N c2 h2
 have m0 := Int.tmod_nonneg 3 y0
 have m1 := Int.tmod_lt_of_pos y (b := 3) (by omega)
 unfold x_f44
 simp only [e1,e2,e3,Option.bind_some]
 cases decide (k = 0) with
 | true => exact ⟨_,_,rfl,h3⟩
 | false =>
  cases decide (k = 1) with
  | true => exact ⟨_,_,rfl,h3⟩
  | false =>
   cases decide (k = 2) with
   | true => exact ⟨_,_,rfl,h3⟩
   | false =>
    cases decide (k = 3) with
    | true => exact ⟨_,_,rfl,h3⟩
    | false =>
     cases decide (k = 4) with
     | true =>
      simp only [cond_true,cond_false]
      rw [dT m0,dT (p := y.tmod 3 < (([(0:Int),(10000:Int),(1:Int)].length : Nat) : Int)) (by simp only [List.length_cons,List.length_nil]; omega)]
      exact ⟨_,_,rfl,h3⟩
     | false => exact ⟨_,_,rfl,h3⟩
theorem anyRole_ok (N : Nat) (c : Den tL01Cur) (h : okC c) : ∃ r c',x_f45 N c = some (r,c') ∧ okC c' := by
 obtain ⟨r,c1,e1,h1⟩ := role_ok N c h
 obtain ⟨k,c2,e2,_,_,h2⟩ := below_ok N c1 h1 8 (by omega)
 obtain ⟨a,c3,e3,_,h3⟩ := pick_ok N c2 h2 [(-1:Int),(6:Int),(5:Int)] (by simp)
 obtain ⟨b,c4,e4,_,h4⟩ := pick_ok N c2 h2 [(-1:Int),(4:Int),(3:Int)] (by simp)
 unfold x_f45
 simp only [e1,e2,e3,e4,Option.bind_some]
 cases decide (k = 0) with
 | true => exact ⟨_,_,rfl,h3⟩
 | false =>
  cases decide (k = 1) with
  | true => exact ⟨_,_,rfl,h4⟩
  | false => exact ⟨_,_,rfl,h2⟩
theorem creds_loop (N : Nat) : ∀ (n i : Nat) (c : Den tL01Cur) (out : List (Den tCred)),okC c → 9 ≤ i + n → i ≤ 9 → out.length ≤ i → ∀ M,n < M →
  ∃ l c',iter (B_f49_L0 N (fun (x3,x4) => some (x4,x3)) (fun ρ5 => some (ρ5))) M (c,out,(i : Int)) = some (l,c') ∧ List.length (α := Den tCred) l ≤ 10 ∧ okC c'
 | n,i,c,out,hc,hn,hi,ho,M,hM => by
  obtain ⟨M,rfl⟩ : ∃ m,M = m + 1 := ⟨M - 1,by omega⟩
  obtain ⟨x,c1,e1,x0,x1,h1⟩ := below_ok N c hc 9 (by omega)
  obtain ⟨r,c2,e2,h2⟩ := cred_ok N c1 h1
  show ∃ l c',(Option.bind _ _) = _ ∧ _
  rw [e1,Option.bind_some]
  simp only [e2,Option.bind_some,List.length_cons,List.length_nil]
  rw [show wrap64 ((1:Int) + x) = 1 + x from w64 (by omega) (by omega),dT (p := (out.length + (0 + 1)) * 80 ≤ 140737488355328) (by omega),w64_up (Nat.le_refl i) (by omega)]
  by_cases hlt : (i : Int) < 1 + x
  ·rw [dT hlt]
   cases n with
   | zero => omega
   | succ n => exact creds_loop N n (i + 1) c2 (out ++ [r]) h2 (by omega) (by omega) (by simp only [List.length_append,List.length_cons,List.length_nil]; omega) M (by omega)
  ·rw [dF hlt]
   exact ⟨_,_,rfl,by omega,h1⟩
theorem creds_ok {N : Nat} (hN : Big N) (c : Den tL01Cur) (h : okC c) : ∃ l c',x_f49 N c = some (l,c') ∧ l.length ≤ 10 ∧ okC c' := by
 have hN' := n40f hN
 unfold x_f49
 obtain ⟨l,c',e2,hl,h2⟩ := creds_loop N 9 0 c [] h (by omega) (by omega) (by simp) N (by omega)
 have e3 : iter (B_f49_L0 N (fun (x3,x4) => some (x4,x3)) (fun ρ5 => some (ρ5))) N (c,[],(0:Int)) = some (l,c') := e2
 rw [e3]
 exact ⟨l,c',rfl,hl,h2⟩
theorem anyCreds_ok {N : Nat} (hN : Big N) (c : Den tL01Cur) (h : okC c) : ∃ l c',x_f48 N c = some (l,c') ∧ l.length ≤ 11 := by
 obtain ⟨l,c1,e1,hl,h1⟩ := creds_ok hN c h
 obtain ⟨b,c2,e2,h2⟩ := once_ok N c1 h1 4 (by omega)
 obtain ⟨x,c3,e3,h3⟩ := any_ok N c2 h2
 unfold x_f48
 simp only [e1,e2,e3,Option.bind_some]
 cases b with
 | false => exact ⟨_,_,rfl,by omega⟩
 | true =>
  simp only [cond_true]
  rw [dT (p := (l.length + [x].length) * 80 ≤ 140737488355328) (by simp only [List.length_cons,List.length_nil]; omega)]
  exact ⟨_,_,rfl,by simp only [List.length_append,List.length_cons,List.length_nil]; omega⟩
def fewS (m : Nat) (S : List (Den tStep)) : Prop := S.length ≤ 1000 ∧ ∀ s ∈ S,s.2.2.length ≤ m
theorem few_okz {m : Nat} {S : List (Den tStep)} (h : fewS m S) (hm : m ≤ 1000) : okz (.sl tStep) S := ⟨by have := h.1; omega,fun s hs => ⟨by simp [okz],by simp [okz],⟨by have := h.2 s hs; omega,fun _ _ => trivial⟩⟩⟩
theorem proof_few (list : List (Den tCred)) (f : Den tFact) : fewS 2 (proofF list f).1 := by
 obtain ⟨hS,hlen⟩ := found_good list
 unfold proofF
 generalize closeO list 145 [] = out at hS hlen
 generalize (atF (fc out) f).toNat + 1 = n
 cases decide (0 ≤ atF (fc out) f) with
 | false => exact ⟨by simp,fun _ h => by cases h⟩
 | true =>
  simp only [cond_true]
  have hl : (((out.take n).map (stF list))).length ≤ 144 := by rw [List.length_map,List.length_take]; omega
  obtain ⟨h1,h2⟩ := kept_okz (S := (out.take n).map (stF list)) (by rw [List.map_take]; exact take_good hS n) (by omega)
  exact ⟨by omega,h2⟩
theorem proof07_ok {N : Nat} (hN : Big N) (c : Den tL01Cur) (h : okC c) : ∃ S r w c',x_f56 N c = some ((S,r,w),c') ∧ fewS 2 S ∧ okC c' := by
 obtain ⟨l,c1,e1,hl,h1⟩ := creds_ok hN c h
 have hl' : l.length ≤ 1048576 := by omega
 have hok := closeF_ok l 145 [] ⟨List.nodup_nil,fun f h => by cases h⟩
 have hln := hok.len
 unfold x_f56
 rw [e1,Option.bind_some]
 simp only
 rw [spec_FactsOf hN l hl',Option.bind_some]
 generalize closeF l 145 [] = F at hln
 by_cases h0 : F.length = 0
 ·rw [dT (p := (F.length : Int) = 0) (by omega)]
  exact ⟨_,_,_,_,rfl,⟨by simp,fun _ h => by cases h⟩,h1⟩
 ·rw [dF (p := (F.length : Int) = 0) (by omega)]
  obtain ⟨k,c2,e2,k0,k1,h2⟩ := below_ok N c1 h1 (F.length : Int) (by omega)
  have w1 : wrap64 ((F.length : Int) - 1) = (F.length : Int) - 1 := w64 (by omega) (by omega)
  have w2 : wrap64 ((F.length : Int) - 1 - k) = (F.length : Int) - 1 - k := w64 (by omega) (by omega)
  simp only [cond_false,e2,Option.bind_some,w1,w2]
  rw [dT (p := (0:Int) ≤ (F.length : Int) - 1 - k) (by omega),dT (p := (F.length : Int) - 1 - k < (F.length : Int)) (by omega)]
  simp only [Bool.and_self,cond_true]
  generalize F.getD ((F.length : Int) - 1 - k).toNat (dft tFact) = f
  rw [spec_ProofOf hN l hl',Option.bind_some,agree_self]
  exact ⟨_,_,_,_,rfl,proof_few l _,h2⟩
theorem fewS.mono {m n : Nat} {S : List (Den tStep)} (h : fewS m S) (hmn : m ≤ n) : fewS n S := ⟨h.1,fun s hs => Nat.le_trans (h.2 s hs) hmn⟩
theorem fewS.set {S : List (Den tStep)} (h : fewS 3 S) (i : Nat) (x : Den tStep) (hx : x.2.2.length ≤ 3) : fewS 3 (S.set i x) := ⟨by rw [List.length_set]; exact h.1,fun s hs => by
 rcases List.mem_or_eq_of_mem_set hs with hs | rfl
 ·exact h.2 s hs
 ·exact hx⟩
theorem getD_few {m : Nat} {S : List (Den tStep)} (h : fewS m S) (i : Nat) : (S.getD i (dft tStep)).2.2.length ≤ m := by
 rw [List.getD_eq_getElem?_getD]
 cases hi : S[i]? with
 | none => exact Nat.zero_le _
 | some s => exact h.2 s (List.mem_of_getElem? hi)
theorem any07_ok {N : Nat} (hN : Big N) (c : Den tL01Cur) (h : okC c) : ∃ S r w c',x_f53 N c = some ((S,r,w),c') ∧ fewS 3 S := by
 obtain ⟨k,c1,e1,_,_,h1⟩ := below_ok N c h 8 (by omega)
 obtain ⟨y,c2,e2,y0,y1,h2⟩ := below_ok N c1 h1 60 (by omega)
 obtain ⟨S,r,w,c3,e3,hS,h3⟩ := proof07_ok hN c2 h2
 obtain ⟨x,c4,e4,h4⟩ := any_ok N c3 h3
 have hS3 : fewS 3 S := hS.mono (by omega)
 have hSl := hS.1
 unfold x_f53
 simp only [e1,e2,e3,e4,Option.bind_some,List.nil_append,List.length_nil,Nat.zero_add]
 rw [dT (p := S.length * 128 ≤ 140737488355328) (by omega)]
 simp only [cond_true]
 by_cases h0 : S.length = 0
 ·rw [dT (p := (S.length : Int) = 0) (by omega)]
  exact ⟨_,_,_,_,rfl,hS3⟩
 ·rw [dF (p := (S.length : Int) = 0) (by omega)]
  have m0 := Int.tmod_nonneg (S.length : Int) y0
  have m1 := Int.tmod_lt_of_pos y (b := (S.length : Int)) (by omega)
  obtain ⟨i,hi⟩ : ∃ i : Nat,y.tmod (S.length : Int) = (i : Int) := ⟨(y.tmod (S.length : Int)).toNat,by omega⟩
  have hil : i < S.length := by omega
  simp only [hi,cond_false,Bool.not_false,cond_true,Int.toNat_natCast]
  have hg := getD_few hS i
  rw [le_rows i,lt_rows S hil]
  simp only [Bool.and_self,cond_true]
  cases decide (k = 0) with
  | true => exact ⟨_,_,_,_,rfl,hS3.set i _ (by show (S.getD i (dft tStep)).2.2.length ≤ 3; omega)⟩
  | false =>
   cases decide (k = 1) with
   | true =>
    simp only [cond_false,cond_true]
    have hg' : ((S.getD i (dft tStepV)).2.2).length ≤ 2 := hg
    rw [dT (p := ((S.getD i (dft tStepV)).2.2).length * 8 ≤ 140737488355328) (by omega)]
    simp only [cond_true,List.length_cons,List.length_nil]
    rw [dT (p := (((S.getD i (dft tStepV)).2.2).length + (0 + 1)) * 8 ≤ 140737488355328) (by omega)]
    exact ⟨_,_,_,_,rfl,hS3.set i _ (by
     show ((S.getD i (dft tStepV)).2.2 ++ [_]).length ≤ 3
     simp only [List.length_append,List.length_cons,List.length_nil]; omega)⟩
   | false =>
    cases decide (k = 2) with
    | true => exact ⟨_,_,_,_,rfl,hS3.set i _ (by show (S.getD i (dft tStep)).2.2.length ≤ 3; omega)⟩
    | false =>
     cases decide (k = 3) with
     | true =>
      simp only [cond_false,cond_true]
      have hin : inB (1:Int) (S.length : Int) (S.length : Int) = true := by
       unfold inB
       simp; omega
      rw [hin]
      exact ⟨_,_,_,_,rfl,⟨by rw [List.length_take,List.length_drop]; omega,fun s hs => hS3.2 s (List.mem_of_mem_drop (List.mem_of_mem_take hs))⟩⟩
     | false =>
      cases decide (k = 4) with
      | true => exact ⟨_,_,_,_,rfl,hS3⟩
      | false => exact ⟨_,_,_,_,rfl,hS3⟩
theorem draw_proof {N : Nat} (hN : Big N) (code : List Int) (hL : code.length ≤ 1048576) : ∃ S r w,x_f29 N code = some ((S,r,w),()) ∧ fewS 3 S := by
 obtain ⟨c,e,hc⟩ := new_ok hN code hL
 obtain ⟨S,r,w,c',e2,hS⟩ := any07_ok hN c hc
 unfold x_f29
 simp only [e,e2,Option.bind_some]
 exact ⟨_,_,_,rfl,hS⟩
theorem draw_step {N : Nat} (hN : Big N) (code : List Int) (hL : code.length ≤ 1048576) : ∃ S i,x_f30 N code = some ((S,i),()) ∧ fewS 3 S := by
 obtain ⟨c,e,hc⟩ := new_ok hN code hL
 obtain ⟨k,c1,e1,_,_,h1⟩ := below_ok N c hc 6 (by omega)
 obtain ⟨S,r,w,c',e2,hS⟩ := any07_ok hN c1 h1
 unfold x_f30
 simp only [e,e1,e2,Option.bind_some]
 exact ⟨_,_,rfl,hS⟩
theorem draw_credsIn {N : Nat} (hN : Big N) (code : List Int) (hL : code.length ≤ 1048576) : ∃ S,x_f26 N code = some (S,()) ∧ fewS 3 S := by
 obtain ⟨c,e,hc⟩ := new_ok hN code hL
 obtain ⟨S,r,w,c',e2,hS⟩ := any07_ok hN c hc
 unfold x_f26
 simp only [e,e2,Option.bind_some]
 exact ⟨_,rfl,hS⟩
theorem draw_member {N : Nat} (hN : Big N) (code : List Int) (hL : code.length ≤ 1048576) : ∃ l r w,x_f28 N code = some (l,r,w) ∧ l.length ≤ 11 := by
 obtain ⟨c,e,hc⟩ := new_ok hN code hL
 obtain ⟨k,c1,e1,_,_,h1⟩ := below_ok N c hc 8 (by omega)
 obtain ⟨r,c2,e2,h2⟩ := anyRole_ok N c1 h1
 obtain ⟨l,c3,e3,hl⟩ := anyCreds_ok hN c2 h2
 unfold x_f28 x_f27
 simp only [e,e1,e2,e3,Option.bind_some,agree_self]
 exact ⟨_,_,_,rfl,hl⟩
theorem same_Ints {N : Nat} (hN : Big N) (L : List Int) (hL : L.length ≤ 1048576) : x_f17 N L L = some true := by
 have hN' := n40f hN
 unfold x_f17
 rw [dT (p := (L.length : Int) = (L.length : Int)) rfl]
 simp only [Bool.not_true,cond_false]
 have := iter_row (B := B_f17_L0 N (fun _ => some true) (fun ρ1 => some (ρ1))) L (fun i => (L,L,(i : Int))) (fun i l => some true)
  (fun i hi rec_ h => by
   show (bif _ then _ else _) = _
   rw [lt_rows L hi,le_rows i,w64_up (Nat.le_refl i) (by omega),dT (p := L.getD ((i : Int)).toNat (0:Int) = L.getD ((i : Int)).toNat 0) rfl]
   exact h)
  (fun rec_ => by
   show (bif _ then _ else _) = _
   rw [at_end L]; rfl) (N := N) (by omega)
 exact this
theorem same_Creds {N : Nat} (hN : Big N) (L : List (Den tCred)) (hL : L.length ≤ 1048576) : x_f16 N L L = some true := by
 have hN' := n40f hN
 unfold x_f16
 rw [dT (p := (L.length : Int) = (L.length : Int)) rfl]
 simp only [Bool.not_true,cond_false]
 have := iter_row (B := B_f16_L0 N (fun _ => some true) (fun ρ1 => some (ρ1))) L (fun i => (L,L,(i : Int))) (fun i l => some true)
  (fun i hi rec_ h => by
   show (bif _ then _ else _) = _
   rw [lt_rows L hi,le_rows i,w64_up (Nat.le_refl i) (by omega)]
   generalize L.getD ((i : Int)).toNat (dft tCred) = q
   simp only [decide_true,Bool.and_self,Bool.not_true,cond_true,cond_false]
   exact h)
  (fun rec_ => by
   show (bif _ then _ else _) = _
   rw [at_end L]; rfl) (N := N) (by omega)
 exact this
theorem same_Steps {N : Nat} (hN : Big N) (L : List (Den tStep)) (hL : fewS 2 L) : x_f18 N L L = some true := by
 have hN' := n40f hN
 have hl := hL.1
 unfold x_f18
 rw [dT (p := (L.length : Int) = (L.length : Int)) rfl]
 simp only [Bool.not_true,cond_false]
 have := iter_row (B := B_f18_L0 N (fun _ => some true) (fun ρ1 => some (ρ1))) L (fun i => (L,L,(i : Int))) (fun i l => some true)
  (fun i hi rec_ h => by
   have hg := getD_few hL ((i : Int)).toNat
   have hsi := same_Ints hN (L.getD ((i : Int)).toNat (dft tStep)).2.2 (by omega)
   show (bif _ then _ else _) = _
   rw [lt_rows L hi,le_rows i,w64_up (Nat.le_refl i) (by omega),hsi]
   generalize L.getD ((i : Int)).toNat (dft tStep) = q
   simp only [decide_true,Bool.and_self,Bool.not_true,cond_true,cond_false,Option.bind_some]
   exact h)
  (fun rec_ => by
   show (bif _ then _ else _) = _
   rw [at_end L]; rfl) (N := N) (by omega)
 exact this
theorem allI_at {α : Type} (p : Nat → α → Bool) : ∀ (l : List α) (j : Nat),allI p j l = true → ∀ i (hi : i < l.length),p (j + i) l[i] = true
 | [],_,_,i,hi => absurd hi (by simp)
 | x :: xs,j,h,i,hi => by
  rw [allI_cons,Bool.and_eq_true] at h
  cases i with
  | zero => exact h.1
  | succ i =>
   have := allI_at p xs (j + 1) h.2 i (by simpa using hi)
   rw [show j + (i + 1) = j + 1 + i from by omega,List.getElem_cons_succ]
   exact this
theorem hasC_of {acc : List (Den tCred)} {c : Den tCred} (h : hasC acc c = true) : c ∈ acc := by
 unfold hasC at h
 rw [List.any_eq_true] at h
 obtain ⟨x,hx,he⟩ := h
 unfold credEq at he
 simp only [Bool.and_eq_true,decide_eq_true_eq] at he
 obtain ⟨a1,a2,a3,a4,a5,a6,a7,a8,a9,a10⟩ := he
 have : x = c := by
  obtain ⟨b1,⟨b2,b3⟩,b4,⟨b5,b6⟩,⟨b7,b8⟩,b9,b10⟩ := x
  obtain ⟨d1,⟨d2,d3⟩,d4,⟨d5,d6⟩,⟨d7,d8⟩,d9,d10⟩ := c
  simp only at a1 a2 a3 a4 a5 a6 a7 a8 a9 a10
  subst a1 a2 a3 a4 a5 a6 a7 a8 a9 a10
  rfl
 rw [← this]; exact hx
theorem credsF_acc : ∀ (L : List (Den tStep)) (acc : List (Den tCred)),∀ c ∈ acc,c ∈ credsF acc L
 | [],acc,c,h => h
 | s :: ss,acc,c,h => by
  rw [credsF_cons]
  refine credsF_acc ss _ c ?_
  cases hasC acc s.1
  ·exact List.mem_append_left _ h
  ·exact h
theorem credsF_has : ∀ (L : List (Den tStep)) (acc : List (Den tCred)),∀ s ∈ L,s.1 ∈ credsF acc L
 | [],_,s,h => by cases h
 | x :: xs,acc,s,h => by
  rw [credsF_cons]
  rcases List.mem_cons.1 h with rfl | h
  ·refine credsF_acc xs _ _ ?_
   cases hb : hasC acc s.1
   ·simp
   ·exact hasC_of hb
  ·exact credsF_has xs _ s h
theorem proved (K : List (Den tStep)) (r : Den tRole) (w : Int) (h : proofOk K r w = true) : ((r,w) : Den tFact) ∈ closeF (credsF [] K) 145 [] := by
 unfold proofOk at h
 simp only [Bool.and_eq_true] at h
 obtain ⟨h1,h2,h3⟩ := h
 obtain ⟨p1,p2⟩ := inR_pos h1
 have hs : ∀ q (hq : q < K.length),StepP K q K[q] := fun q hq => by
  have := allI_at _ K 0 h3 q hq
  rw [Nat.zero_add,stepOk_in K hq] at this
  exact stepP_iff.1 this
 have hcl := closeF_closed (credsF [] K) 145 [] ⟨List.nodup_nil,fun f h => by cases h⟩ (by simp)
 have hmem := proved_mem hs (fun i hi => credsF_has K [] _ (List.getElem_mem hi)) hcl (K.length - 1) (by omega)
 have hKl : (K.getD (K.length - 1) (dft tStep)) = K[K.length - 1] := by rw [List.getD_eq_getElem?_getD,List.getElem?_eq_getElem (by omega)]; rfl
 rw [hKl] at h2
 rw [factEq_iff.1 h2] at hmem
 exact hmem
theorem member_i {N : Nat} (hN : Big N) (list : List (Den tCred)) (hl : list.length ≤ 1048576) (r : Den tRole) (w : Int) : x_f33 N list r w = some (hasF (closeF list 145 []) (r,w)) := by
 have hok := closeF_ok list 145 [] ⟨List.nodup_nil,fun f h => by cases h⟩
 have hln := hok.len
 unfold x_f33
 rw [spec_FactsOf hN list hl,Option.bind_some,spec_has hN _ (by omega),Option.bind_some]
theorem proofF_has (list : List (Den tCred)) (f : Den tFact) : (proofF list f).2 = hasF (closeF list 145 []) f := by
 have hfc : fc (closeO list 145 []) = closeF list 145 [] := closeO_fc list 145 []
 unfold proofF hasF
 rw [← hfc]
 have := findI_any (fun x => eqF x f) (fc (closeO list 145 [])) 0
 rw [← this]
 unfold atF
 cases decide (0 ≤ findI (fun x => eqF x f) 0 (fc (closeO list 145 []))) <;> rfl
theorem pure_FnProofsTold (a0 : Den (.sl (.i .u8))) (g0 : good (.sl (.i .u8)) a0) : ∃ N,x_laws_FnProofsTold N a0 = some true := by
 refine ⟨1099511627776,?_⟩
 have hN : Big 1099511627776 := Nat.le_refl _
 generalize 1099511627776 = N at hN
 unfold x_laws_FnProofsTold x_f15
 by_cases hL : List.length (α := Int) a0 ≤ 1048576
 ·rw [dF (by omega),Option.bind_some,cond_false]
  obtain ⟨S1,r1,w1,e1,h1⟩ := draw_proof hN a0 hL
  obtain ⟨l2,r2,w2,e2,h2⟩ := draw_member hN a0 hL
  obtain ⟨S3,i3,e3,h3⟩ := draw_step hN a0 hL
  obtain ⟨S4,e4,h4⟩ := draw_credsIn hN a0 hL
  have hl2 : l2.length ≤ 1048576 := by omega
  have z1 := few_okz h1 (by omega)
  have z3 := few_okz h3 (by omega)
  have hc1 := credsF_len S1 []
  have hc4 := credsF_len S4 []
  have hS1 := h1.1
  have hS4 := h4.1
  simp only [List.length_nil] at hc1 hc4
  have hb : ∀ b : Bool,(b == b) = true := fun b => by simp
  simp only [e1,e2,e3,e4,Option.bind_some,impl_ProofOf2 hN l2 hl2,spec_ProofOf hN l2 hl2]
  rw [impl_ProofOk hN S1 z1,spec_ProofOk hN S1 z1,impl_StepOk hN S3 z3,spec_StepOk hN S3 z3,impl_CredsIn hN S4 (by omega),spec_CredsIn hN S4 (by omega),spec_CredsIn hN S1 (by omega)]
  simp only [Option.bind_some,hb,cond_true]
  rw [member_i hN l2 hl2,member_i hN (credsF [] S1) (by omega),same_Steps hN _ (proof_few l2 _),same_Creds hN (credsF [] S4) (by omega)]
  simp only [Option.bind_some,cond_true,proofF_has,hb]
  cases hp : proofOk S1 r1 w1 with
  | false => rfl
  | true =>
   rw [hasF_iff.2 (proved S1 r1 w1 hp)]; rfl
 ·rw [dT (by omega)]; rfl
end Go.Proofs.Ytfmlmdnaeonobaa.C
