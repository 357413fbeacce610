/- The data that the two functions compute are alike, for all arguments that memory can hold. -/
import Derived.Test.YtfmlmdnaeonobaaHFnExactWantsOf
set_option linter.unusedVariables false
set_option linter.unusedSimpArgs false
namespace Go.Proofs.Ytfmlmdnaeonobaa.C
open Go Go.Proofs.Ytfmlmdnaeonobaa.Nx Go.RowKit
theorem sz_CredS {N : Nat} (hN : Big N) (x : Den (.sl tCred)) (g : good (.sl tCred) x) : SzOk (x_f22 N x) (okz (.sl tCred) x) :=
 (SzOk.len g.1).mono fun h => ⟨h,fun _ _ => by first | exact trivial | simp [okz]⟩
theorem to_Role {N : Nat} (hN : Big N) (x : Den tRole) (h : okz tRole x) : x_f25 N x = some x := rfl
theorem to_Cred {N : Nat} (hN : Big N) (x : Den tCred) (h : okz tCred x) : x_f23 N x = some x := by
 unfold x_f23
 simp only [to_Role hN _ h.2.1,to_Role hN _ h.2.2.2.1,to_Role hN _ h.2.2.2.2.1,Option.bind_some] <;> rfl
theorem to_CredS {N : Nat} (hN : Big N) (x : Den (.sl tCred)) (h : okz (.sl tCred) x) : x_f24 N x = some x :=
 to_rows h (f := x_f23 N) (fun y hy => to_Cred hN y hy) hN (by decide) (fun _ _ _ _ => rfl)
theorem eq_Role {N : Nat} (hN : Big N) (x : Den tRole) (h : okz tRole x) : x_f17 N x x = some true := by
 unfold x_f17
 simp
theorem eq_RoleS {N : Nat} (hN : Big N) (x : Den (.sl tRole)) (h : okz (.sl tRole) x) : x_f18 N x x = some true :=
 eq_rows h (f := x_f17 N) (fun y hy => eq_Role hN y hy) hN (fun _ _ _ _ => rfl)
theorem eq_Cred {N : Nat} (hN : Big N) (x : Den tCred) (h : okz tCred x) : x_f15 N x x = some true := by
 unfold x_f15
 simp [eq_Role hN _ h.2.1,eq_Role hN _ h.2.2.2.1,eq_Role hN _ h.2.2.2.2.1]
theorem eq_CredS {N : Nat} (hN : Big N) (x : Den (.sl tCred)) (h : okz (.sl tCred) x) : x_f16 N x x = some true :=
 eq_rows h (f := x_f15 N) (fun y hy => eq_Cred hN y hy) hN (fun _ _ _ _ => rfl)
end Go.Proofs.Ytfmlmdnaeonobaa.C
namespace Go.Proofs.Ytfmlmdnaeonobaa.C
open Go Go.Proofs.Ytfmlmdnaeonobaa.Nx Go.RowKit
set_option linter.unusedVariables false
set_option linter.unusedSimpArgs false
def inR (n a b : Int) : Bool := decide (a ≤ n) && decide (n ≤ b)
theorem in_eq (N : Nat) (n a b : Int) : x_f11 N n a b = some (inR n a b) := by
 unfold x_f11 inR
 cases decide (a ≤ n) <;> rfl
theorem l01In_eq (N : Nat) (n a b : Int) : x_f38 N n a b = some (inR n a b) := by
 unfold x_f38 inR
 cases decide (a ≤ n) <;> rfl
end Go.Proofs.Ytfmlmdnaeonobaa.C
namespace Go.Proofs.Ytfmlmdnaeonobaa.C
open Go Go.Proofs.Ytfmlmdnaeonobaa.Nx Go.RowKit
set_option linter.unusedVariables false
set_option linter.unusedSimpArgs false
def roleOk (r : Den tRole) : Bool := inR r.1 0 5 && inR r.2 0 3
theorem roleOk_i (N : Nat) (r : Den tRole) : x_f5 N r = some (roleOk r) := by
 unfold x_f5 roleOk
 simp only [in_eq,Option.bind_some]
 cases inR r.1 0 5 <;> rfl
theorem roleOk_s (N : Nat) (r : Den tRole) : x_f36 N r = some (roleOk r) := by
 unfold x_f36 roleOk
 simp only [l01In_eq,Option.bind_some]
 cases inR r.1 0 5 <;> rfl
theorem isPerson_i (N : Nat) (n : Int) : x_f12 N n = some (inR n 0 5) := by
 unfold x_f12
 simp only [in_eq,Option.bind_some]
def credOk (c : Den tCred) : Bool :=
 roleOk c.2.1 && (inR c.2.2.2.2.2.1 1 9999 && (inR c.2.2.2.2.2.2 0 99 &&
 (bif decide (c.1 = 1) then inR c.2.2.1 0 5 && ((decide (c.2.2.2.1.1 = 0) && decide (c.2.2.2.1.2 = 0)) && (decide (c.2.2.2.2.1.1 = 0) && decide (c.2.2.2.2.1.2 = 0)))
  else bif decide (c.1 = 2) then decide (c.2.2.1 = 0) && (roleOk c.2.2.2.1 && (decide (c.2.2.2.2.1.1 = 0) && decide (c.2.2.2.2.1.2 = 0)))
  else bif decide (c.1 = 3) then decide (c.2.2.1 = 0) && (roleOk c.2.2.2.1 && (roleOk c.2.2.2.2.1 && decide (c.2.2.2.2.1.1 = 0)))
  else bif decide (c.1 = 4) then decide (c.2.2.1 = 0) && (roleOk c.2.2.2.1 && roleOk c.2.2.2.2.1)
  else false)))
theorem credOk_i (N : Nat) (c : Den tCred) : x_f2 N c = some (credOk c) := by
 unfold x_f2 credOk
 simp only [in_eq,roleOk_i,isPerson_i,Option.bind_some]
 generalize roleOk c.2.1 = a1
 generalize inR c.2.2.2.2.2.1 1 9999 = a2
 generalize inR c.2.2.2.2.2.2 0 99 = a3
 generalize inR c.2.2.1 0 5 = a4
 generalize decide (c.1 = 1) = b1
 generalize decide (c.1 = 2) = b2
 generalize decide (c.1 = 3) = b3
 generalize decide (c.1 = 4) = b4
 generalize decide (c.2.2.1 = 0) = d1
 generalize roleOk c.2.2.2.1 = r1
 generalize roleOk c.2.2.2.2.1 = r2
 generalize (decide (c.2.2.2.1.1 = 0) && decide (c.2.2.2.1.2 = 0)) = z1
 generalize (decide (c.2.2.2.2.1.1 = 0) && decide (c.2.2.2.2.1.2 = 0)) = z2
 cases a1 <;> cases a2 <;> cases a3 <;> try rfl
 cases b1 <;> cases b2 <;> cases b3 <;> cases b4 <;> cases d1 <;> cases r1 <;> cases r2 <;> cases a4 <;> cases z1 <;> rfl
theorem credOk_s (N : Nat) (c : Den tCred) : x_f33 N c = some (credOk c) := by
 rw [← credOk_i N c]
 unfold x_f33 x_f2
 simp only [in_eq,l01In_eq,roleOk_i,roleOk_s,isPerson_i,Option.bind_some]
end Go.Proofs.Ytfmlmdnaeonobaa.C
namespace Go.Proofs.Ytfmlmdnaeonobaa.C
open Go Go.Proofs.Ytfmlmdnaeonobaa.Nx Go.RowKit
set_option linter.unusedVariables false
set_option linter.unusedSimpArgs false
end Go.Proofs.Ytfmlmdnaeonobaa.C
namespace Go.Proofs.Ytfmlmdnaeonobaa.C
open Go Go.Proofs.Ytfmlmdnaeonobaa.Nx Go.RowKit
set_option linter.unusedVariables false
set_option linter.unusedSimpArgs false
def mkCred (x : Den tCred) (k : Int) : Den tCred × Int :=
 ((k,(k + 1,k + 1 + 1),k + 1 + 1 + 1,(k + 1 + 1 + 1 + 1,k + 1 + 1 + 1 + 1 + 1),(k + 1 + 1 + 1 + 1 + 1 + 1,k + 1 + 1 + 1 + 1 + 1 + 1 + 1),k + 1 + 1 + 1 + 1 + 1 + 1 + 1 + 1,k + 1 + 1 + 1 + 1 + 1 + 1 + 1 + 1 + 1),k + 1 + 1 + 1 + 1 + 1 + 1 + 1 + 1 + 1 + 1)
theorem grow_Cred : Grow (fun _ : Den tCred => True) mkCred 10 := fun x k _ => by unfold mkCred; dsimp only; omega
theorem mk_CredS {N : Nat} (hN : Big N) (L : List (Den tCred)) (hL : L.length ≤ 1048576) (k : Int) (h0 : 0 ≤ k) (hk : k + ((10 * L.length : Nat) : Int) ≤ 9223372036854775806) : x_f20 N L k = some ((mkL mkCred L k).2,(mkL mkCred L k).1,()) := by
 have hN' : 1099511627776 ≤ N := hN
 have e := mark_rows (B := B_f20_L0 N (fun (x2,x3) => some (x3,x2,())) (fun ρ3 => some (ρ3))) (kx := fun s => some (s.2,s.1,())) grow_Cred
  (fun rec_ pre x post k _ h0 hk hl => by
   have w1 := w64 (x := k + 1) (by omega) (by omega)
   have w2 := w64 (x := k + 1 + 1) (by omega) (by omega)
   have w3 := w64 (x := k + 1 + 1 + 1) (by omega) (by omega)
   have w4 := w64 (x := k + 1 + 1 + 1 + 1) (by omega) (by omega)
   have w5 := w64 (x := k + 1 + 1 + 1 + 1 + 1) (by omega) (by omega)
   have w6 := w64 (x := k + 1 + 1 + 1 + 1 + 1 + 1) (by omega) (by omega)
   have w7 := w64 (x := k + 1 + 1 + 1 + 1 + 1 + 1 + 1) (by omega) (by omega)
   have w8 := w64 (x := k + 1 + 1 + 1 + 1 + 1 + 1 + 1 + 1) (by omega) (by omega)
   have w9 := w64 (x := k + 1 + 1 + 1 + 1 + 1 + 1 + 1 + 1 + 1) (by omega) (by omega)
   have w10 := w64 (x := k + 1 + 1 + 1 + 1 + 1 + 1 + 1 + 1 + 1 + 1) (by omega) (by omega)
   have wp := w64_up (i := pre.length) (Nat.le_refl _) (by omega)
   show (bif _ then _ else _) = _
   simp only [at_lt,at_le,Int.toNat_natCast,st0,gD0,Bool.and_self,cond_true,w1,w2,w3,w4,w5,w6,w7,w8,w9,w10,wp]
   rfl)
  (fun rec_ L k => by
   show (bif _ then _ else _) = _
   simp only [at_end,cond_false])
  L [] k N (by omega) (fun _ _ => trivial) h0 hk (by simp; omega)
 unfold x_f20
 refine (congrArg (fun o => Option.bind o _) e).trans ?_
 rw [Option.bind_some]
 dsimp only
 rw [List.nil_append,beq_len (mkL_len _ _ _)]; rfl
end Go.Proofs.Ytfmlmdnaeonobaa.C
namespace Go.Proofs.Ytfmlmdnaeonobaa.C
open Go Go.Proofs.Ytfmlmdnaeonobaa.Nx Go.RowKit
set_option linter.unusedVariables false
set_option linter.unusedSimpArgs false
theorem n40f {N : Nat} (hN : Big N) : 1099511627776 ≤ N := hN
def eqF (x f : Den tFact) : Bool := decide (x.1.1 = f.1.1) && (decide (x.1.2 = f.1.2) && decide (x.2 = f.2))
theorem eqF_iff {x f : Den tFact} : eqF x f = true ↔ x = f := by
 obtain ⟨⟨a,b⟩,c⟩ := x
 obtain ⟨⟨d,e⟩,g⟩ := f
 unfold eqF
 simp only [Bool.and_eq_true,decide_eq_true_eq]
 constructor
 ·rintro ⟨rfl,rfl,rfl⟩; rfl
 ·intro h; cases h; exact ⟨rfl,rfl,rfl⟩
def hasF (l : List (Den tFact)) (f : Den tFact) : Bool := l.any fun x => eqF x f
theorem hasF_iff {l : List (Den tFact)} {f : Den tFact} : hasF l f = true ↔ f ∈ l := by
 unfold hasF
 rw [List.any_eq_true]
 constructor
 ·rintro ⟨x,h1,h2⟩; rw [eqF_iff] at h2; rw [← h2]; exact h1
 ·intro h; exact ⟨f,h,eqF_iff.2 rfl⟩
def putF (l : List (Den tFact)) (f : Den tFact) : List (Den tFact) := bif hasF l f then l else l ++ [f]
theorem putF_len (l : List (Den tFact)) (f : Den tFact) : (putF l f).length ≤ l.length + 1 := by
 unfold putF
 cases hasF l f
 ·simp only [cond_false,List.length_append,List.length_cons,List.length_nil]; omega
 ·simp only [cond_true]; omega
theorem spec_has {N : Nat} (hN : Big N) (l : List (Den tFact)) (hl : l.length ≤ 1048576) (f : Den tFact) : x_f39 N l f = some (hasF l f) := by
 have hN' := n40f hN
 unfold x_f39 hasF
 exact iter_row (B := B_f39_L0 N (fun _ => some false) (fun ρ1 => some (ρ1))) l (fun i => (l,f,(i : Int))) (fun i l => some (l.any fun x => eqF x f))
  (fun i hi rec_ h => by
   show (bif _ then _ else _) = _
   rw [lt_rows l hi,le_rows i,getD_at l hi,w64_up (Nat.le_refl i) (by omega),h,List.any_cons]
   simp only [Bool.and_self,cond_true]
   change (bif eqF l[i] f then _ else _) = _
   cases eqF l[i] f <;> rfl)
  (fun rec_ => by
   show (bif _ then _ else _) = _
   rw [at_end l]; rfl) (by omega)
theorem spec_put {N : Nat} (hN : Big N) (l : List (Den tFact)) (hl : l.length ≤ 1048576) (f : Den tFact) : x_f40 N l f = some (putF l f,(),()) := by
 unfold x_f40 putF
 rw [spec_has hN l hl,Option.bind_some,dT (p := (l.length + [f].length) * 24 ≤ 140737488355328) (by simp only [List.length_cons,List.length_nil]; omega)]
 cases hasF l f <;> rfl
theorem dcomF (x f : Den tFact) : (decide (f.1.1 = x.1.1) && (decide (f.1.2 = x.1.2) && decide (f.2 = x.2))) = eqF x f := by
 unfold eqF
 rw [decide_eq_decide.2 (eq_comm (a := f.1.1) (b := x.1.1)),decide_eq_decide.2 (eq_comm (a := f.1.2) (b := x.1.2)),decide_eq_decide.2 (eq_comm (a := f.2) (b := x.2))]
theorem indexF {N : Nat} (hN : Big N) (l : List (Den tFact)) (hl : l.length ≤ 1048576) (f : Den tFact) : x_f29 N l f = some (findI (fun x => eqF x f) 0 l) := by
 unfold x_f29
 exact index_func (d := dft tFact) (L := l) (by omega) f (f := fun x => some (eqF x f)) (fun x => eqF x f) (fun x _ => rfl) hN (B := B_f29_L0 N (fun _ => some (-1:Int)) (fun ρ1 => some (ρ1)))
  (fun rec_ s0 s7 s8 => by
   show (bif _ then (bif _ then (bif _ then _ else _) else _) else _) = _
   generalize s0.getD s8.toNat (dft tFact) = x
   rw [dcomF]
   rfl)
theorem containsF {N : Nat} (hN : Big N) (l : List (Den tFact)) (hl : l.length ≤ 1048576) (f : Den tFact) : x_f27 N l f = some (hasF l f) := by
 unfold x_f27
 rw [indexF hN l hl,Option.bind_some,findI_any]; rfl
theorem cloneF (N : Nat) (L : List (Den tFact)) (hL : L.length ≤ 1048576) : x_f26 N L = some L := by
 unfold x_f26
 simp only [List.length_nil,List.nil_append]
 rw [dT (p := (0 + L.length) * 24 ≤ 140737488355328) (by omega)]
 by_cases h : L.length = 0
 ·obtain rfl : L = [] := List.length_eq_zero_iff.1 h
  rw [dT h]
  exact agree_self _
 ·rw [dF h]; rfl
def whoA (r : Den tRole) : Nat → List (Den tFact) → List Int
 | _,[] => []
 | i,f :: fs => bif decide (f.1.1 = r.1) && decide (f.1.2 = r.2) then (i : Int) :: whoA r (i + 1) fs else whoA r (i + 1) fs
theorem whoA_len (r : Den tRole) : ∀ (l : List (Den tFact)) (i : Nat),(whoA r i l).length ≤ l.length
 | [],i => Nat.le_refl _
 | f :: fs,i => by
  unfold whoA
  have := whoA_len r fs (i + 1)
  cases decide (f.1.1 = r.1) && decide (f.1.2 = r.2)
  ·simp only [cond_false,List.length_cons]; omega
  ·simp only [cond_true,List.length_cons]; omega
theorem whoA_mem (r : Den tRole) : ∀ (l : List (Den tFact)) (i : Nat),∀ x ∈ whoA r i l,∃ k : Nat,∃ hk : k < l.length,x = ((i + k : Nat) : Int) ∧ (l[k]).1 = r
 | [],i,x,h => by cases h
 | f :: fs,i,x,h => by
  unfold whoA at h
  have rest : x ∈ whoA r (i + 1) fs → ∃ k : Nat,∃ hk : k < (f :: fs).length,x = ((i + k : Nat) : Int) ∧ ((f :: fs)[k]).1 = r := fun h => by
   obtain ⟨k,hk,e,h2⟩ := whoA_mem r fs (i + 1) x h
   exact ⟨k + 1,by simpa using hk,by rw [e]; congr 1; omega,by simpa using h2⟩
  cases hb : decide (f.1.1 = r.1) && decide (f.1.2 = r.2) with
  | false => rw [hb] at h; exact rest h
  | true =>
   rw [hb,cond_true] at h
   simp only [Bool.and_eq_true,decide_eq_true_eq] at hb
   rcases List.mem_cons.1 h with rfl | h
   ·refine ⟨0,by simp,by simp,?_⟩
    obtain ⟨⟨a,b⟩,c⟩ := f
    obtain ⟨d,e⟩ := r
    simp only at hb
    rw [List.getElem_cons_zero]
    simp only
    rw [hb.1,hb.2]
   ·exact rest h
def okF (f : Den tFact) : Prop := roleOk f.1 = true ∧ inR f.2 0 5 = true
theorem factOk_i (N : Nat) (f : Den tFact) : x_f9 N f = some (roleOk f.1 && inR f.2 0 5) := by
 unfold x_f9
 rw [roleOk_i,Option.bind_some,isPerson_i]
 cases roleOk f.1 <;> rfl
theorem impl_whoOf {N : Nat} (hN : Big N) (l : List (Den tFact)) (hl : l.length ≤ 1048576) (ho : ∀ f ∈ l,okF f) (r : Den tRole) : x_f14 N l r = some (whoA r 0 l) := by
 have hN' := n40f hN
 unfold x_f14
 have key := iter_to (B := B_f14_L0 N (fun x2 => some x2) (fun ρ3 => some (ρ3))) (A := List Int) (fun i a => (r,a,l,(l.length : Int),(i : Int))) (fun i a q => a.length ≤ i → q = some (a ++ whoA r i (l.drop i))) l.length
  (fun i a rec_ hi ih ha => by
   obtain ⟨h1,h2⟩ := ho _ (List.getElem_mem hi)
   show (bif _ then _ else _) = _
   rw [lt_rows l hi,le_rows i,getD_at l hi,w64_up (Nat.le_refl i) (by omega),drop_cons hi]
   simp only [Bool.and_self,cond_true]
   unfold whoA
   cases decide ((l[i]).1.1 = r.1) && decide ((l[i]).1.2 = r.2) with
   | false => exact ih a (by omega)
   | true =>
    have e : x_f9 N (((l[i]).1.1,(l[i]).1.2),(l[i]).2) = some true := by
     rw [factOk_i]
     show some (roleOk (l[i]).1 && inR (l[i]).2 0 5) = _
     rw [h1,h2]; rfl
    simp only [cond_true]
    rw [e,Option.bind_some,dT (p := (a.length + [(i : Int)].length) * 8 ≤ 140737488355328) (by simp only [List.length_cons,List.length_nil]; omega)]
    have := ih (a ++ [(i : Int)]) (by simp only [List.length_append,List.length_cons,List.length_nil]; omega)
    rw [List.append_assoc] at this
    exact this)
  (fun a rec_ ha => by
   show (bif _ then _ else _) = _
   rw [dF (Int.lt_irrefl _),List.drop_length]
   simp [whoA])
  N (by omega) []
 exact key (by simp)
def der2 (l : List (Den tFact)) (c : Den tCred) (i : Int) : Den tDerived := ((c.2.1,(l.getD i.toNat (dft tFact)).2),[i])
def der3 (l : List (Den tFact)) (c : Den tCred) (i : Int) : List (Den tDerived) :=
 (whoA ((l.getD i.toNat (dft tFact)).2,c.2.2.2.2.1.2) 0 l).map fun k => ((c.2.1,(l.getD k.toNat (dft tFact)).2),[i,k])
def der4 (l : List (Den tFact)) (c : Den tCred) (i : Int) : List (Den tDerived) :=
 bif decide (0 ≤ findI (fun x => eqF x (c.2.2.2.2.1,(l.getD i.toNat (dft tFact)).2)) 0 l) then [((c.2.1,(l.getD i.toNat (dft tFact)).2),[i,findI (fun x => eqF x (c.2.2.2.2.1,(l.getD i.toNat (dft tFact)).2)) 0 l])] else []
def derI (l : List (Den tFact)) (c : Den tCred) : List (Den tDerived) :=
 bif decide (c.1 = 1) then [((c.2.1,c.2.2.1),[])] else
 bif decide (c.1 = 2) then (whoA c.2.2.2.1 0 l).map (der2 l c) else
 bif decide (c.1 = 3) then (whoA c.2.2.2.1 0 l).flatMap (der3 l c) else
 bif decide (c.1 = 4) then (whoA c.2.2.2.1 0 l).flatMap (der4 l c) else []
theorem derive1 (N : Nat) (w : Int) (fr : List Int) (out : List (Den tDerived)) (hl : out.length ≤ 2000000) (c : Den tCred) : x_f8 N w fr out c = some ((),(),(),out ++ [((c.2.1,w),fr)],()) := by
 unfold x_f8
 rw [dT (p := (out.length + [((c.2.1,w),fr)].length) * 48 ≤ 140737488355328) (by simp only [List.length_cons,List.length_nil]; omega)]
 rfl
theorem who_at {l : List (Den tFact)} {r : Den tRole} {i : Nat} (hi : i < (whoA r 0 l).length) : decide (0 ≤ (whoA r 0 l)[i]) = true ∧ decide ((whoA r 0 l)[i] < (l.length : Int)) = true := by
 obtain ⟨k,hk,e,_⟩ := whoA_mem r l 0 _ (List.getElem_mem hi)
 rw [e]
 exact ⟨decide_eq_true (by omega),decide_eq_true (by omega)⟩
theorem der3_len (l : List (Den tFact)) (c : Den tCred) (i : Int) : (der3 l c i).length ≤ l.length := by
 unfold der3; rw [List.length_map]; exact whoA_len _ _ _
theorem der4_len (l : List (Den tFact)) (c : Den tCred) (i : Int) : (der4 l c i).length ≤ 1 := by
 unfold der4
 cases decide (0 ≤ findI (fun x => eqF x (c.2.2.2.2.1,(l.getD i.toNat (dft tFact)).2)) 0 l) <;> simp
theorem impl_derive {N : Nat} (hN : Big N) (l : List (Den tFact)) (hl : l.length ≤ 1000) (ho : ∀ f ∈ l,okF f) (c : Den tCred) : x_f7 N l c = some (derI l c) := by
 have hN' := n40f hN
 have hw := whoA_len c.2.2.2.1 l 0
 unfold x_f7 derI
 rw [derive1 N _ _ _ (by simp),impl_whoOf hN l (by omega) ho,Option.bind_some,Option.bind_some,Option.bind_some,Option.bind_some]
 cases decide (c.1 = 1) with
 | true => rfl
 | false =>
  simp only [cond_false]
  have L1 : iter (B_f7_L1 N (fun x4 => some x4) (fun ρ5 => some (ρ5))) N (l,c,[],(),whoA c.2.2.2.1 0 l,((whoA c.2.2.2.1 0 l).length : Int),(0:Int)) = some ((whoA c.2.2.2.1 0 l).map (der2 l c)) := by
   have key := iter_to (B := B_f7_L1 N (fun x4 => some x4) (fun ρ5 => some (ρ5))) (A := List (Den tDerived)) (fun i a => (l,c,a,(),whoA c.2.2.2.1 0 l,((whoA c.2.2.2.1 0 l).length : Int),(i : Int))) (fun i a q => a.length ≤ i → q = some (a ++ ((whoA c.2.2.2.1 0 l).drop i).map (der2 l c))) (whoA c.2.2.2.1 0 l).length
    (fun i a rec_ hi ih ha => by
     obtain ⟨w1,w2⟩ := who_at hi
     show (bif _ then _ else _) = _
     rw [lt_rows _ hi,le_rows i,getD_at _ hi,w64_up (Nat.le_refl i) (by omega),drop_cons hi,w1,w2,derive1 N _ _ _ (by omega)]
     have := ih (a ++ [der2 l c (whoA c.2.2.2.1 0 l)[i]]) (by simp only [List.length_append,List.length_cons,List.length_nil]; omega)
     rw [List.append_assoc] at this
     exact this)
    (fun a rec_ ha => by
     show (bif _ then _ else _) = _
     rw [dF (Int.lt_irrefl _),List.drop_length]; simp)
    N (by omega) []
   exact key (by simp)
  have L3 : iter (B_f7_L3 N (fun x17 => some x17) (fun ρ18 => some (ρ18))) N (l,c,[],(),whoA c.2.2.2.1 0 l,((whoA c.2.2.2.1 0 l).length : Int),(0:Int)) = some ((whoA c.2.2.2.1 0 l).flatMap (der3 l c)) := by
   have key := iter_to (B := B_f7_L3 N (fun x17 => some x17) (fun ρ18 => some (ρ18))) (A := List (Den tDerived)) (fun i a => (l,c,a,(),whoA c.2.2.2.1 0 l,((whoA c.2.2.2.1 0 l).length : Int),(i : Int))) (fun i a q => a.length ≤ i * 1000 → q = some (a ++ ((whoA c.2.2.2.1 0 l).drop i).flatMap (der3 l c))) (whoA c.2.2.2.1 0 l).length
    (fun i a rec_ hi ih ha => by
     obtain ⟨w1,w2⟩ := who_at hi
     show (bif _ then _ else _) = _
     rw [lt_rows _ hi,le_rows i,getD_at _ hi,drop_cons hi,w1,w2,impl_whoOf hN l (by omega) ho,Option.bind_some]
     generalize hx : (whoA c.2.2.2.1 0 l)[i] = x
     have hq := whoA_len ((l.getD x.toNat (dft tFact)).2,c.2.2.2.2.1.2) l 0
     have hd : der3 l c x = (whoA ((l.getD x.toNat (dft tFact)).2,c.2.2.2.2.1.2) 0 l).map fun k => ((c.2.1,(l.getD k.toNat (dft tFact)).2),[x,k]) := rfl
     have hwa : ∀ {k : Nat} (hk : k < (whoA ((l.getD x.toNat (dft tFact)).2,c.2.2.2.2.1.2) 0 l).length),_ := fun {k} hk => who_at hk
     rw [List.flatMap_cons,hd]
     generalize whoA ((l.getD x.toNat (dft tFact)).2,c.2.2.2.2.1.2) 0 l = Q at hq hwa
     have inner := iter_to (B := B_f7_L5 N (fun (x9,x10,x11,x12,x13,x14,x15) => rec_ (x9,x10,x11,(),x13,x14,(wrap64 (x15 + (1:Int))))) (fun ρ16 => some (ρ16))) (A := List (Den tDerived)) (fun k b => (l,c,b,(),x,whoA c.2.2.2.1 0 l,((whoA c.2.2.2.1 0 l).length : Int),(i : Int),Q,(Q.length : Int),(k : Int)))
      (fun k b q => b.length ≤ a.length + k → b ++ (Q.drop k).map (fun k => ((c.2.1,(l.getD k.toNat (dft tFact)).2),[x,k])) = a ++ Q.map (fun k => ((c.2.1,(l.getD k.toNat (dft tFact)).2),[x,k])) → q = some (a ++ (Q.map (fun k => ((c.2.1,(l.getD k.toNat (dft tFact)).2),[x,k])) ++ ((whoA c.2.2.2.1 0 l).drop (i + 1)).flatMap (der3 l c)))) Q.length
      (fun k b rec2 hk ih2 hb he => by
       obtain ⟨w3,w4⟩ := hwa hk
       show (bif _ then _ else _) = _
       rw [lt_rows Q hk,le_rows k,getD_at Q hk,w64_up (Nat.le_refl k) (by omega),w3,w4,derive1 N _ _ _ (by omega)]
       refine ih2 (b ++ [((c.2.1,(l.getD (Q[k]).toNat (dft tFact)).2),[x,Q[k]])]) (by simp only [List.length_append,List.length_cons,List.length_nil]; omega) ?_
       rw [← he,drop_cons hk,List.map_cons,List.append_assoc]; rfl)
      (fun b rec2 hb he => by
       show (bif _ then _ else _) = _
       rw [dF (Int.lt_irrefl _)]
       rw [List.drop_length,List.map_nil,List.append_nil] at he
       simp only [cond_false]
       rw [w64_up (Nat.le_refl i) (by omega),he]
       have := ih (a ++ Q.map (fun k => ((c.2.1,(l.getD k.toNat (dft tFact)).2),[x,k]))) (by rw [List.length_append,List.length_map]; omega)
       rw [List.append_assoc] at this
       exact this)
      N (by omega) a
     exact inner (by omega) (by rw [List.drop_zero]))
    (fun a rec_ ha => by
     show (bif _ then _ else _) = _
     rw [dF (Int.lt_irrefl _),List.drop_length]; simp)
    N (by omega) []
   exact key (by simp)
  have L7 : iter (B_f7_L7 N (fun x22 => some x22) (fun ρ23 => some (ρ23))) N (l,c,[],(),whoA c.2.2.2.1 0 l,((whoA c.2.2.2.1 0 l).length : Int),(0:Int)) = some ((whoA c.2.2.2.1 0 l).flatMap (der4 l c)) := by
   have key := iter_to (B := B_f7_L7 N (fun x22 => some x22) (fun ρ23 => some (ρ23))) (A := List (Den tDerived)) (fun i a => (l,c,a,(),whoA c.2.2.2.1 0 l,((whoA c.2.2.2.1 0 l).length : Int),(i : Int))) (fun i a q => a.length ≤ i → q = some (a ++ ((whoA c.2.2.2.1 0 l).drop i).flatMap (der4 l c))) (whoA c.2.2.2.1 0 l).length
    (fun i a rec_ hi ih ha => by
     obtain ⟨w1,w2⟩ := who_at hi
     show (bif _ then _ else _) = _
     rw [lt_rows _ hi,le_rows i,getD_at _ hi,w64_up (Nat.le_refl i) (by omega),drop_cons hi,w1,w2,indexF hN l (by omega),Option.bind_some,derive1 N _ _ _ (by omega),List.flatMap_cons]
     generalize (whoA c.2.2.2.1 0 l)[i] = x
     have hd := der4_len l c x
     unfold der4 at hd ⊢
     simp only [Bool.and_self,cond_true]
     cases decide (0 ≤ findI (fun y => eqF y (c.2.2.2.2.1,(l.getD x.toNat (dft tFact)).2)) 0 l) with
     | false => exact ih a (by omega)
     | true =>
      have := ih (a ++ [((c.2.1,(l.getD x.toNat (dft tFact)).2),[x,findI (fun y => eqF y (c.2.2.2.2.1,(l.getD x.toNat (dft tFact)).2)) 0 l])]) (by simp only [List.length_append,List.length_cons,List.length_nil]; omega)
      rw [List.append_assoc] at this
      exact this)
    (fun a rec_ ha => by
     show (bif _ then _ else _) = _
     rw [dF (Int.lt_irrefl _),List.drop_length]; simp)
    N (by omega) []
   exact key (by simp)
  rw [L1,L3,L7]
  cases decide (c.1 = 2) <;> cases decide (c.1 = 3) <;> cases decide (c.1 = 4) <;> rfl
end Go.Proofs.Ytfmlmdnaeonobaa.C
namespace Go.Proofs.Ytfmlmdnaeonobaa.C
open Go Go.Proofs.Ytfmlmdnaeonobaa.Nx Go.RowKit
set_option linter.unusedVariables false
set_option linter.unusedSimpArgs false
abbrev fc (out : List (Den tFoundV)) : List (Den tFact) := out.map fun x => x.1
def addO (k : Int) (out : List (Den tFoundV)) (d : Den tDerived) : List (Den tFoundV) := bif hasF (fc out) d.1 then out else out ++ [(d.1,(k,d.2))]
def stepO (out : List (Den tFoundV)) (k : Int) (c : Den tCred) : List (Den tFoundV) := bif credOk c then (derI (fc out) c).foldl (addO k) out else out
def passO : Nat → List (Den tFoundV) → List (Den tCred) → List (Den tFoundV)
 | _,out,[] => out
 | k,out,c :: cs => passO (k + 1) (stepO out (k : Int) c) cs
def closeO (list : List (Den tCred)) : Nat → List (Den tFoundV) → List (Den tFoundV)
 | 0,out => out
 | n + 1,out => bif decide (out.length < (passO 0 out list).length) then closeO list n (passO 0 out list) else passO 0 out list
def stepF (l : List (Den tFact)) (c : Den tCred) : List (Den tFact) := bif credOk c then ((derI l c).map fun d => d.1).foldl putF l else l
def closeF (list : List (Den tCred)) : Nat → List (Den tFact) → List (Den tFact)
 | 0,l => l
 | n + 1,l => bif decide (l.length < (list.foldl stepF l).length) then closeF list n (list.foldl stepF l) else list.foldl stepF l
theorem addO_fc (k : Int) (out : List (Den tFoundV)) (d : Den tDerived) : fc (addO k out d) = putF (fc out) d.1 := by
 unfold addO putF
 cases hasF (fc out) d.1
 ·simp [fc]
 ·rfl
theorem foldO_fc (k : Int) : ∀ (ds : List (Den tDerived)) (out : List (Den tFoundV)),fc (ds.foldl (addO k) out) = (ds.map fun d => d.1).foldl putF (fc out)
 | [],out => rfl
 | d :: ds,out => by rw [List.foldl_cons,foldO_fc k ds,addO_fc,List.map_cons,List.foldl_cons]
theorem stepO_fc (out : List (Den tFoundV)) (k : Int) (c : Den tCred) : fc (stepO out k c) = stepF (fc out) c := by
 unfold stepO stepF
 cases credOk c
 ·rfl
 ·exact foldO_fc k _ out
theorem passO_fc : ∀ (list : List (Den tCred)) (k : Nat) (out : List (Den tFoundV)),fc (passO k out list) = list.foldl stepF (fc out)
 | [],_,_ => rfl
 | c :: cs,k,out => by unfold passO; rw [passO_fc cs,stepO_fc,List.foldl_cons]
theorem fc_len (out : List (Den tFoundV)) : (fc out).length = out.length := List.length_map _
theorem closeO_fc (list : List (Den tCred)) : ∀ (n : Nat) (out : List (Den tFoundV)),fc (closeO list n out) = closeF list n (fc out)
 | 0,_ => rfl
 | n + 1,out => by
  unfold closeO closeF
  rw [← passO_fc list 0 out,fc_len,fc_len]
  cases decide (out.length < (passO 0 out list).length)
  ·rfl
  ·exact closeO_fc list n _
def OkL (l : List (Den tFact)) : Prop := l.Nodup ∧ ∀ f ∈ l,okF f
theorem nodup_lt : ∀ (n : Nat) (l : List Nat),l.Nodup → (∀ x ∈ l,x < n) → l.length ≤ n
 | 0,l,_,h => by
  cases l with
  | nil => simp
  | cons x xs => exact absurd (h x (by simp)) (by omega)
 | n + 1,l,hn,h => by
  have h1 := nodup_lt n (l.erase n) (hn.erase n) (fun x hx => by
   have := (List.Nodup.mem_erase_iff hn).1 hx
   have := h x this.2
   omega)
  have := List.length_erase (a := n) (l := l)
  split at this <;> omega
def codI (a b c : Int) : Nat := ((a * 4 + b) * 6 + c).toNat
theorem codI_inj {a b c d e g : Int} (h1 : (0 ≤ a ∧ a ≤ 5) ∧ (0 ≤ b ∧ b ≤ 3) ∧ (0 ≤ c ∧ c ≤ 5)) (h2 : (0 ≤ d ∧ d ≤ 5) ∧ (0 ≤ e ∧ e ≤ 3) ∧ (0 ≤ g ∧ g ≤ 5)) (h : codI a b c = codI d e g) : a = d ∧ b = e ∧ c = g := by
 unfold codI at h; omega
theorem codI_lt {a b c : Int} (h1 : (0 ≤ a ∧ a ≤ 5) ∧ (0 ≤ b ∧ b ≤ 3) ∧ (0 ≤ c ∧ c ≤ 5)) : codI a b c < 144 := by unfold codI; omega
def codeF (f : Den tFact) : Nat := codI f.1.1 f.1.2 f.2
theorem inR_ok {x a b : Int} (h : inR x a b = true) : a ≤ x ∧ x ≤ b := by
 unfold inR at h
 rw [Bool.and_eq_true,decide_eq_true_eq,decide_eq_true_eq] at h
 exact h
theorem okF_r {f : Den tFact} (h : okF f) : ((0:Int) ≤ f.1.1 ∧ @LE.le Int _ f.1.1 5) ∧ ((0:Int) ≤ f.1.2 ∧ @LE.le Int _ f.1.2 3) ∧ ((0:Int) ≤ f.2 ∧ @LE.le Int _ f.2 5) := by
 obtain ⟨h1,h2⟩ := h
 unfold roleOk at h1
 rw [Bool.and_eq_true] at h1
 exact ⟨inR_ok h1.1,inR_ok h1.2,inR_ok h2⟩
theorem OkL.len {l : List (Den tFact)} (h : OkL l) : l.length ≤ 144 := by
 have h1 : (l.map codeF).Nodup := by
  rw [List.nodup_iff_pairwise_ne,List.pairwise_map]
  have := h.1
  rw [List.nodup_iff_pairwise_ne] at this
  refine List.Pairwise.imp_of_mem (fun {a b} ha hb hne he => hne ?_) this
  obtain ⟨e1,e2,e3⟩ := codI_inj (okF_r (h.2 a ha)) (okF_r (h.2 b hb)) he
  exact eqF_iff.1 (by unfold eqF; rw [decide_eq_true e1,decide_eq_true e2,decide_eq_true e3]; rfl)
 have := nodup_lt 144 _ h1 (fun x hx => by
  obtain ⟨f,hf,rfl⟩ := List.mem_map.1 hx
  exact codI_lt (okF_r (h.2 f hf)))
 rwa [List.length_map] at this
theorem putF_ok {l : List (Den tFact)} (h : OkL l) {f : Den tFact} (hf : okF f) : OkL (putF l f) := by
 unfold putF
 cases hb : hasF l f with
 | true => exact h
 | false =>
  have hm : f ∉ l := fun hm => by rw [hasF_iff.2 hm] at hb; cases hb
  refine ⟨List.nodup_append.2 ⟨h.1,by simp,fun x hx y hy e => ?_⟩,fun x hx => ?_⟩
  ·rw [List.mem_singleton.1 hy] at e
   exact hm (e ▸ hx)
  ·rcases List.mem_append.1 hx with hx | hx
   ·exact h.2 x hx
   ·rw [List.mem_singleton.1 hx]; exact hf
theorem foldF_ok : ∀ (ds l : List (Den tFact)),OkL l → (∀ f ∈ ds,okF f) → OkL (ds.foldl putF l)
 | [],_,h,_ => h
 | d :: ds,l,h,hd => foldF_ok ds _ (putF_ok h (hd d (by simp))) fun f hf => hd f (by simp [hf])
theorem foldF_len : ∀ (ds l : List (Den tFact)),l.length ≤ (ds.foldl putF l).length
 | [],_ => Nat.le_refl _
 | d :: ds,l => by
  refine Nat.le_trans ?_ (foldF_len ds _)
  unfold putF
  cases hasF l d
  ·simp only [cond_false,List.length_append,List.length_cons,List.length_nil]; omega
  ·exact Nat.le_refl _
theorem who_ok {l : List (Den tFact)} (h : ∀ f ∈ l,okF f) {r : Den tRole} {i : Int} (hi : i ∈ whoA r 0 l) : inR (l.getD i.toNat (dft tFact)).2 0 5 = true := by
 obtain ⟨k,hk,e,_⟩ := whoA_mem r l 0 i hi
 subst e
 have : l.getD ((0 + k : Nat) : Int).toNat (dft tFact) = l[k] := by
  rw [Nat.zero_add,Int.toNat_natCast,List.getD_eq_getElem?_getD,List.getElem?_eq_getElem hk]; rfl
 rw [this]
 exact (h _ (List.getElem_mem hk)).2
theorem derI_ok {l : List (Den tFact)} (h : ∀ f ∈ l,okF f) {c : Den tCred} (hc : credOk c = true) : ∀ d ∈ derI l c,okF d.1 := by
 have hr : roleOk c.2.1 = true := by unfold credOk at hc; rw [Bool.and_eq_true] at hc; exact hc.1
 intro d hd
 unfold derI at hd
 cases h1 : decide (c.1 = 1) with
 | true =>
  rw [h1] at hd
  have : d = ((c.2.1,c.2.2.1),[]) := by simpa using hd
  subst this
  refine ⟨hr,?_⟩
  unfold credOk at hc
  rw [h1] at hc
  simp only [Bool.and_eq_true,cond_true] at hc
  exact hc.2.2.2.1
 | false =>
  rw [h1] at hd
  cases h2 : decide (c.1 = 2) with
  | true =>
   rw [h2] at hd
   simp only [cond_false,cond_true] at hd
   obtain ⟨i,hi,rfl⟩ := List.mem_map.1 hd
   exact ⟨hr,who_ok h hi⟩
  | false =>
   rw [h2] at hd
   cases h3 : decide (c.1 = 3) with
   | true =>
    rw [h3] at hd
    simp only [cond_false,cond_true] at hd
    obtain ⟨i,hi,hd⟩ := List.mem_flatMap.1 hd
    obtain ⟨k,hk,rfl⟩ := List.mem_map.1 hd
    exact ⟨hr,who_ok h hk⟩
   | false =>
    rw [h3] at hd
    cases h4 : decide (c.1 = 4) with
    | true =>
     rw [h4] at hd
     simp only [cond_false,cond_true] at hd
     obtain ⟨i,hi,hd⟩ := List.mem_flatMap.1 hd
     unfold der4 at hd
     revert hd
     cases decide (0 ≤ findI (fun x => eqF x (c.2.2.2.2.1,(l.getD i.toNat (dft tFact)).2)) 0 l) with
     | false => intro hd; cases hd
     | true =>
      intro hd
      have hd := List.mem_singleton.1 hd
      rw [hd]
      exact ⟨hr,who_ok h hi⟩
    | false => rw [h4] at hd; cases hd
theorem stepF_ok {l : List (Den tFact)} (h : OkL l) (c : Den tCred) : OkL (stepF l c) := by
 unfold stepF
 cases hc : credOk c with
 | false => exact h
 | true =>
  refine foldF_ok _ _ h fun f hf => ?_
  obtain ⟨d,hd,rfl⟩ := List.mem_map.1 hf
  exact derI_ok h.2 hc d hd
theorem stepF_len (l : List (Den tFact)) (c : Den tCred) : l.length ≤ (stepF l c).length := by
 unfold stepF
 cases credOk c
 ·exact Nat.le_refl _
 ·exact foldF_len _ _
theorem passF_ok : ∀ (list : List (Den tCred)) (l : List (Den tFact)),OkL l → OkL (list.foldl stepF l)
 | [],_,h => h
 | c :: cs,l,h => passF_ok cs _ (stepF_ok h c)
theorem passF_len : ∀ (list : List (Den tCred)) (l : List (Den tFact)),l.length ≤ (list.foldl stepF l).length
 | [],_ => Nat.le_refl _
 | c :: cs,l => Nat.le_trans (stepF_len l c) (passF_len cs _)
theorem flat_le {α β : Type} (g : α → List β) (m : Nat) (hg : ∀ x,(g x).length ≤ m) : ∀ L : List α,(L.flatMap g).length ≤ L.length * m
 | [] => by simp
 | x :: xs => by
  rw [List.flatMap_cons,List.length_append,List.length_cons,Nat.succ_mul]
  have := flat_le g m hg xs
  have := hg x
  omega
theorem derI_len {l : List (Den tFact)} (hl : l.length ≤ 144) (c : Den tCred) : (derI l c).length ≤ 30000 := by
 have hw := whoA_len c.2.2.2.1 l 0
 have f3 := flat_le (der3 l c) 144 (fun i => by have := der3_len l c i; omega) (whoA c.2.2.2.1 0 l)
 have f4 := flat_le (der4 l c) 1 (der4_len l c) (whoA c.2.2.2.1 0 l)
 have : (whoA c.2.2.2.1 0 l).length * 144 ≤ 144 * 144 := Nat.mul_le_mul_right _ (by omega)
 unfold derI
 cases decide (c.1 = 1)
 ·cases decide (c.1 = 2)
  ·cases decide (c.1 = 3)
   ·cases decide (c.1 = 4)
    ·simp
    ·simp only [cond_false,cond_true]; omega
   ·simp only [cond_false,cond_true]; omega
  ·simp only [cond_false,cond_true,List.length_map]; omega
 ·simp
theorem find_L4 {N : Nat} (hN : Big N) {kx kr} (s0 s18 : Den (.sl tCred)) (s5 k s19 s20 : Int) (D : List (Den tDerived)) (out : List (Den tFoundV)) (hb : out.length + D.length ≤ 100000) :
  iter (B_f10_L4 (Ω := (List (Den tFoundV)) × DenW (.d 0 (.sl tCred))) N kx kr) N (s0,fc out,out,s5,k,s18,s19,s20,D,(D.length : Int),(0:Int)) = kx (s0,fc (D.foldl (addO k) out),D.foldl (addO k) out,s5,s18,s19,s20) := by
 have hN' := n40f hN
 have key := iter_to (B := B_f10_L4 (Ω := (List (Den tFoundV)) × DenW (.d 0 (.sl tCred))) N kx kr) (A := List (Den tFoundV)) (fun i a => (s0,fc a,a,s5,k,s18,s19,s20,D,(D.length : Int),(i : Int))) (fun i a q => a.length ≤ out.length + i → q = kx (s0,fc ((D.drop i).foldl (addO k) a),(D.drop i).foldl (addO k) a,s5,s18,s19,s20)) D.length
  (fun i a rec_ hi ih ha => by
   have hfl := fc_len a
   have hcf := containsF hN (fc a) (by omega) (D[i]).1
   show (bif _ then _ else _) = _
   rw [lt_rows D hi,le_rows i,getD_at D hi,w64_up (Nat.le_refl i) (by omega),drop_cons hi,List.foldl_cons]
   simp only [Bool.and_self,cond_true]
   have e : x_f27 N (fc a) (((D[i]).1.1.1,(D[i]).1.1.2),(D[i]).1.2) = some (hasF (fc a) (D[i]).1) := hcf
   rw [e,Option.bind_some]
   have hadd : addO k a D[i] = bif hasF (fc a) (D[i]).1 then a else a ++ [((D[i]).1,(k,(D[i]).2))] := rfl
   have hal := ih (addO k a D[i])
   revert hal
   rw [hadd]
   cases hasF (fc a) (D[i]).1 with
   | true => intro hal; exact hal (by simp only [cond_true]; omega)
   | false =>
    intro hal
    simp only [Bool.not_false,cond_true,List.length_cons,List.length_nil]
    rw [dT (p := ((fc a).length + (0 + 1)) * 24 ≤ 140737488355328) (by omega),dT (p := (a.length + (0 + 1)) * 56 ≤ 140737488355328) (by omega)]
    have := hal (by simp only [cond_false,List.length_append,List.length_cons,List.length_nil]; omega)
    simp only [cond_false] at this ⊢
    rw [show fc (a ++ [((D[i]).1,(k,(D[i]).2))]) = fc a ++ [(D[i]).1] from by simp [fc]] at this
    exact this)
  (fun a rec_ ha => by
   show (bif _ then _ else _) = _
   rw [dF (Int.lt_irrefl _),List.drop_length]; rfl)
  N (by omega) out
 exact key (by omega)
theorem find_L2 {N : Nat} (hN : Big N) {kx kr} (list : List (Den tCred)) (hl : list.length ≤ 1048576) (s5 : Int) (out : List (Den tFoundV)) (ho : OkL (fc out)) :
  iter (B_f10_L2 (Ω := (List (Den tFoundV)) × DenW (.d 0 (.sl tCred))) N kx kr) N (list,fc out,out,s5,list,(list.length : Int),(0:Int)) = kx (list,fc (passO 0 out list),passO 0 out list,s5) := by
 have hN' := n40f hN
 have key := iter_to (B := B_f10_L2 (Ω := (List (Den tFoundV)) × DenW (.d 0 (.sl tCred))) N kx kr) (A := List (Den tFoundV)) (fun i a => (list,fc a,a,s5,list,(list.length : Int),(i : Int))) (fun i a q => OkL (fc a) → q = kx (list,fc (passO i a (list.drop i)),passO i a (list.drop i),s5)) list.length
  (fun i a rec_ hi ih ha => by
   have hal := ha.len
   have hfl := fc_len a
   have hd := derI_len hal (list[i])
   have eta : ∀ c : Den tCred,((c.1,(c.2.1.1,c.2.1.2),c.2.2.1,(c.2.2.2.1.1,c.2.2.2.1.2),(c.2.2.2.2.1.1,c.2.2.2.2.1.2),c.2.2.2.2.2.1,c.2.2.2.2.2.2) : Den tCred) = c := fun _ => rfl
   have hstep := ih (stepO a (i : Int) list[i]) (by rw [stepO_fc]; exact stepF_ok ha _)
   show (bif _ then _ else _) = _
   rw [lt_rows list hi,le_rows i,getD_at list hi,drop_cons hi]
   simp only [Bool.and_self,cond_true,eta]
   rw [credOk_i,Option.bind_some,cloneF N (fc a) (by omega),Option.bind_some,impl_derive hN (fc a) (by omega) ha.2,Option.bind_some]
   unfold passO
   revert hstep
   unfold stepO
   cases credOk list[i] with
   | false =>
    intro hstep
    simp only [Bool.not_false,cond_true,cond_false]
    rw [w64_up (Nat.le_refl i) (by omega)]
    exact hstep
   | true =>
    intro hstep
    simp only [Bool.not_true,cond_true,cond_false]
    rw [find_L4 hN _ _ _ _ _ _ _ _ (by omega)]
    simp only
    rw [w64_up (Nat.le_refl i) (by omega)]
    exact hstep)
  (fun a rec_ ha => by
   show (bif _ then _ else _) = _
   rw [dF (Int.lt_irrefl _),List.drop_length]; rfl)
  N (by omega) out
 exact key ho
theorem find_L0 {N : Nat} (hN : Big N) {kx kr} (list : List (Den tCred)) (hl : list.length ≤ 1048576) : ∀ (n : Nat) (out : List (Den tFoundV)) (b : Int),OkL (fc out) → 145 ≤ out.length + n → b < out.length → ∀ M,n < M →
  iter (B_f10_L0 (Ω := (List (Den tFoundV)) × DenW (.d 0 (.sl tCred))) N kx kr) M (list,fc out,out,b) = kx (closeO list n out)
 | 0,out,b,ho,h145,_,_,_ => by have := ho.len; rw [fc_len] at this; omega
 | n + 1,out,b,ho,h145,hb,M,hM => by
  obtain ⟨M,rfl⟩ : ∃ m,M = m + 1 := ⟨M - 1,by omega⟩
  have hfl := fc_len out
  have hpl := fc_len (passO 0 out list)
  have hlen := passF_len list (fc out)
  rw [← passO_fc list 0 out] at hlen
  have hok := passF_ok list (fc out) ho
  rw [← passO_fc list 0 out] at hok
  show (bif _ then _ else _) = _
  rw [dT (p := b < ((fc out).length : Int)) (by omega)]
  simp only [cond_true]
  rw [find_L2 hN list hl _ out ho]
  unfold closeO
  show iter (B_f10_L0 (Ω := (List (Den tFoundV)) × DenW (.d 0 (.sl tCred))) N kx kr) M (list,fc (passO 0 out list),passO 0 out list,((fc out).length : Int)) = _
  by_cases hg : out.length < (passO 0 out list).length
  ·rw [dT hg,cond_true]
   exact find_L0 hN list hl n _ _ hok (by omega) (by omega) M (by omega)
  ·rw [dF hg,cond_false]
   obtain ⟨M,rfl⟩ : ∃ m,M = m + 1 := ⟨M - 1,by omega⟩
   show (bif _ then _ else _) = _
   rw [dF (p := ((fc out).length : Int) < ((fc (passO 0 out list)).length : Int)) (by omega)]; rfl
theorem impl_findFacts {N : Nat} (hN : Big N) (list : List (Den tCred)) (hl : list.length ≤ 1048576) : x_f10 N list = some (closeO list 145 [],()) := by
 have hN' := n40f hN
 unfold x_f10
 have := find_L0 (kx := fun x18 => some (x18,())) (kr := fun ρ19 => some ρ19) hN list hl 145 [] (-1) ⟨List.nodup_nil,fun f h => by cases h⟩ (by simp) (by simp) N (by omega)
 refine (congrArg (fun o => Option.bind o _) this).trans ?_
 rfl
theorem impl_FactsOf {N : Nat} (hN : Big N) (list : List (Den tCred)) (hl : list.length ≤ 1048576) : x_f3 N list = some (closeF list 145 []) := by
 have hN' := n40f hN
 unfold x_f3
 rw [impl_findFacts hN list hl,Option.bind_some]
 have hcf : fc (closeO list 145 []) = closeF list 145 [] := closeO_fc list 145 []
 have hok : ∀ n l,OkL l → OkL (closeF list n l) := fun n => by
  induction n with
  | zero => intro l h; exact h
  | succ n ih =>
   intro l h
   unfold closeF
   cases decide (l.length < (list.foldl stepF l).length)
   ·exact passF_ok list l h
   ·exact ih _ (passF_ok list l h)
 have hlen := (hok 145 [] ⟨List.nodup_nil,fun f h => by cases h⟩).len
 have hfl := fc_len (closeO list 145 [])
 have hcf : fc (closeO list 145 []) = closeF list 145 [] := hcf
 rw [← hcf] at hlen ⊢
 generalize closeO list 145 [] = out at hlen hfl
 have key := iter_to (B := B_f3_L0 N (fun x2 => some x2) (fun ρ3 => some (ρ3))) (A := List (Den tFact)) (fun i a => (a,out,(out.length : Int),(i : Int))) (fun i a q => a.length ≤ i → q = some (a ++ fc (out.drop i))) out.length
  (fun i a rec_ hi ih ha => by
   show (bif _ then _ else _) = _
   rw [lt_rows out hi,le_rows i,getD_at out hi,w64_up (Nat.le_refl i) (by omega),drop_cons hi]
   simp only [Bool.and_self,cond_true,List.length_cons,List.length_nil]
   rw [dT (p := (a.length + (0 + 1)) * 24 ≤ 140737488355328) (by omega)]
   have := ih (a ++ [(out[i]).1]) (by simp only [List.length_append,List.length_cons,List.length_nil]; omega)
   rw [List.append_assoc] at this
   exact this)
  (fun a rec_ ha => by
   show (bif _ then _ else _) = _
   rw [dF (Int.lt_irrefl _),List.drop_length]; simp)
  N (by omega) []
 exact key (by simp)
end Go.Proofs.Ytfmlmdnaeonobaa.C
namespace Go.Proofs.Ytfmlmdnaeonobaa.C
open Go Go.Proofs.Ytfmlmdnaeonobaa.Nx Go.RowKit
set_option linter.unusedVariables false
set_option linter.unusedSimpArgs false
def g1 (l : List (Den tFact)) (c : Den tCred) (i : Int) : List (Den tFact) :=
 bif decide (c.1 = 2) || hasF l (c.2.2.2.2.1,(l.getD i.toNat (dft tFact)).2) then [(c.2.1,(l.getD i.toNat (dft tFact)).2)] else []
def g3 (l : List (Den tFact)) (c : Den tCred) (i : Int) : List (Den tFact) :=
 (whoA ((l.getD i.toNat (dft tFact)).2,c.2.2.2.2.1.2) 0 l).map fun k => (c.2.1,(l.getD k.toNat (dft tFact)).2)
theorem getD_n {l : List (Den tFact)} {i : Nat} (hi : i < l.length) : l.getD ((i : Int)).toNat (dft tFact) = l[i] := by
 rw [Int.toNat_natCast,List.getD_eq_getElem?_getD,List.getElem?_eq_getElem hi]; rfl
theorem foldF_up : ∀ (ds l : List (Den tFact)),(ds.foldl putF l).length ≤ l.length + ds.length
 | [],_ => Nat.le_refl _
 | d :: ds,l => by
  have h1 := foldF_up ds (putF l d)
  have h2 := putF_len l d
  simp only [List.foldl_cons,List.length_cons]; omega
theorem spec_L1 {N : Nat} (hN : Big N) {kx kr} (l : List (Den tFact)) (hl : l.length ≤ 1000) (c : Den tCred) (out : List (Den tFact)) (ho : out.length ≤ 100000) :
  iter (B_f35_L1 (Ω := List (Den tFact)) N kx kr) N (l,c,out,(0:Int)) = kx (((whoA c.2.2.2.1 0 l).flatMap (g1 l c)).foldl putF out) := by
 have hN' := n40f hN
 have key := iter_to (B := B_f35_L1 (Ω := List (Den tFact)) N kx kr) (A := List (Den tFact)) (fun i a => (l,c,a,(i : Int))) (fun i a q => a.length ≤ out.length + i → q = kx (((whoA c.2.2.2.1 i (l.drop i)).flatMap (g1 l c)).foldl putF a)) l.length
  (fun i a rec_ hi ih ha => by
   have hpl := putF_len a (c.2.1,(l[i]).2)
   show (bif _ then _ else _) = _
   rw [lt_rows l hi,le_rows i,getD_at l hi,w64_up (Nat.le_refl i) (by omega),drop_cons hi]
   simp only [Bool.and_self,cond_true]
   unfold whoA
   cases decide ((l[i]).1.1 = c.2.2.2.1.1) && decide ((l[i]).1.2 = c.2.2.2.1.2) with
   | false => exact ih a (by omega)
   | true =>
    simp only [cond_true]
    rw [List.flatMap_cons,List.foldl_append]
    rw [spec_has hN l (by omega),spec_put hN a (by omega)]
    simp only [Option.bind_some]
    have e : g1 l c (i : Int) = bif decide (c.1 = 2) || hasF l (c.2.2.2.2.1,(l[i]).2) then [(c.2.1,(l[i]).2)] else [] := by unfold g1; rw [getD_n hi]
    rw [e]
    cases decide (c.1 = 2) with
    | true => exact ih _ (by omega)
    | false =>
     simp only [Bool.false_or,cond_false]
     cases hasF l (c.2.2.2.2.1,(l[i]).2) with
     | false => exact ih a (by omega)
     | true => exact ih _ (by omega))
  (fun a rec_ ha => by
   show (bif _ then _ else _) = _
   rw [at_end l,List.drop_length]; rfl)
  N (by omega) out
 rw [List.drop_zero] at key
 exact key (by omega)
theorem spec_L5 {N : Nat} (hN : Big N) {kx kr} (l : List (Den tFact)) (hl : l.length ≤ 1000) (c : Den tCred) (out : List (Den tFact)) (ho : out.length ≤ 1000000) (s8 : Int) (r : Den tRole) :
  iter (B_f35_L5 (Ω := List (Den tFact)) N kx kr) N (l,c,out,s8,r,(0:Int)) = kx (l,c,((whoA r 0 l).map fun k => (c.2.1,(l.getD k.toNat (dft tFact)).2)).foldl putF out,s8) := by
 have hN' := n40f hN
 have key := iter_to (B := B_f35_L5 (Ω := List (Den tFact)) N kx kr) (A := List (Den tFact)) (fun i a => (l,c,a,s8,r,(i : Int))) (fun i a q => a.length ≤ out.length + i → q = kx (l,c,((whoA r i (l.drop i)).map fun k => (c.2.1,(l.getD k.toNat (dft tFact)).2)).foldl putF a,s8)) l.length
  (fun i a rec_ hi ih ha => by
   have hpl := putF_len a (c.2.1,(l[i]).2)
   show (bif _ then _ else _) = _
   rw [lt_rows l hi,le_rows i,getD_at l hi,w64_up (Nat.le_refl i) (by omega),drop_cons hi]
   simp only [Bool.and_self,cond_true]
   unfold whoA
   cases decide ((l[i]).1.1 = r.1) && decide ((l[i]).1.2 = r.2) with
   | false => exact ih a (by omega)
   | true =>
    simp only [cond_true]
    rw [List.map_cons,List.foldl_cons,getD_n hi,spec_put hN a (by omega)]
    simp only [Option.bind_some]
    exact ih _ (by omega))
  (fun a rec_ ha => by
   show (bif _ then _ else _) = _
   rw [at_end l,List.drop_length]; rfl)
  N (by omega) out
 rw [List.drop_zero] at key
 exact key (by omega)
theorem spec_L3 {N : Nat} (hN : Big N) {kx kr} (l : List (Den tFact)) (hl : l.length ≤ 144) (c : Den tCred) (out : List (Den tFact)) (ho : out.length ≤ 144) :
  iter (B_f35_L3 (Ω := List (Den tFact)) N kx kr) N (l,c,out,(0:Int)) = kx (((whoA c.2.2.2.1 0 l).flatMap (g3 l c)).foldl putF out) := by
 have hN' := n40f hN
 have key := iter_to (B := B_f35_L3 (Ω := List (Den tFact)) N kx kr) (A := List (Den tFact)) (fun i a => (l,c,a,(i : Int))) (fun i a q => a.length ≤ 144 + i * 144 → q = kx (((whoA c.2.2.2.1 i (l.drop i)).flatMap (g3 l c)).foldl putF a)) l.length
  (fun i a rec_ hi ih ha => by
   show (bif _ then _ else _) = _
   rw [lt_rows l hi,le_rows i,getD_at l hi,drop_cons hi]
   simp only [Bool.and_self,cond_true]
   unfold whoA
   cases decide ((l[i]).1.1 = c.2.2.2.1.1) && decide ((l[i]).1.2 = c.2.2.2.1.2) with
   | false =>
    simp only [Bool.not_false,cond_true,cond_false]
    rw [w64_up (Nat.le_refl i) (by omega)]
    exact ih a (by omega)
   | true =>
    simp only [Bool.not_true,cond_true,cond_false]
    rw [List.flatMap_cons,List.foldl_append,spec_L5 hN l (by omega) c a (by omega)]
    simp only
    rw [w64_up (Nat.le_refl i) (by omega)]
    have e : g3 l c (i : Int) = (whoA ((l[i]).2,c.2.2.2.2.1.2) 0 l).map fun k => (c.2.1,(l.getD k.toNat (dft tFact)).2) := by unfold g3; rw [getD_n hi]
    rw [e]
    refine ih _ ?_
    have h1 := foldF_up ((whoA ((l[i]).2,c.2.2.2.2.1.2) 0 l).map fun k => (c.2.1,(l.getD k.toNat (dft tFact)).2)) a
    have h2 := whoA_len ((l[i]).2,c.2.2.2.2.1.2) l 0
    rw [List.length_map] at h1
    omega)
  (fun a rec_ ha => by
   show (bif _ then _ else _) = _
   rw [at_end l,List.drop_length]; rfl)
  N (by omega) out
 rw [List.drop_zero] at key
 exact key (by omega)
theorem derI_map (l : List (Den tFact)) (c : Den tCred) : (derI l c).map (fun d => d.1) =
  bif decide (c.1 = 1) then [(c.2.1,c.2.2.1)] else bif decide (c.1 = 2) then (whoA c.2.2.2.1 0 l).flatMap (g1 l c) else bif decide (c.1 = 3) then (whoA c.2.2.2.1 0 l).flatMap (g3 l c) else bif decide (c.1 = 4) then (whoA c.2.2.2.1 0 l).flatMap (g1 l c) else [] := by
 unfold derI
 cases h1 : decide (c.1 = 1) with
 | true => rfl
 | false =>
  cases h2 : decide (c.1 = 2) with
  | true =>
   simp only [cond_false,cond_true]
   generalize whoA c.2.2.2.1 0 l = W
   induction W with
   | nil => rfl
   | cons w W ih =>
    rw [List.flatMap_cons,← ih]
    have : g1 l c w = [(c.2.1,(l.getD w.toNat (dft tFact)).2)] := by unfold g1; rw [h2]; rfl
    rw [this]; rfl
  | false =>
   cases h3 : decide (c.1 = 3) with
   | true =>
    simp only [cond_false,cond_true]
    generalize whoA c.2.2.2.1 0 l = W
    induction W with
    | nil => rfl
    | cons w W ih =>
     rw [List.flatMap_cons,List.flatMap_cons,← ih,List.map_append]
     congr 1
     unfold der3 g3
     rw [List.map_map]; rfl
   | false =>
    cases h4 : decide (c.1 = 4) with
    | true =>
     simp only [cond_false,cond_true]
     generalize whoA c.2.2.2.1 0 l = W
     induction W with
     | nil => rfl
     | cons w W ih =>
      rw [List.flatMap_cons,List.flatMap_cons,← ih,List.map_append]
      congr 1
      unfold der4 g1
      rw [h2,findI_any]
      unfold hasF
      cases l.any fun x => eqF x (c.2.2.2.2.1,(l.getD w.toNat (dft tFact)).2) <;> rfl
    | false => rfl
theorem spec_Follows {N : Nat} (hN : Big N) (l : List (Den tFact)) (hl : l.length ≤ 144) (c : Den tCred) : x_f35 N l c = some (stepF l c) := by
 unfold x_f35 stepF
 simp only [List.length_nil,List.nil_append]
 rw [dT (p := (0 + l.length) * 24 ≤ 140737488355328) (by omega),credOk_s,Option.bind_some,derI_map,spec_put hN l (by omega),Option.bind_some,spec_L1 hN l (by omega) c l (by omega),spec_L3 hN l hl c l hl]
 cases credOk c with
 | false => rfl
 | true =>
  cases h1 : decide (c.1 = 1) with
  | true => rfl
  | false =>
   cases h2 : decide (c.1 = 2) with
   | true => rfl
   | false =>
    cases h3 : decide (c.1 = 3) with
    | true =>
     have : decide (c.1 = 4) = false := by
      have h5 : (c.1 : Int) = 3 := of_decide_eq_true h3
      exact dF (fun e : (c.1 : Int) = 4 => by rw [h5] at e; exact absurd e (by decide))
     rw [this]; rfl
    | false =>
     cases decide (c.1 = 4) <;> rfl
theorem spec_F2 {N : Nat} (hN : Big N) {kx kr} (list : List (Den tCred)) (hl : list.length ≤ 1048576) (l : List (Den tFact)) (ho : OkL l) :
  iter (B_f34_L2 (Ω := List (Den tFact)) N kx kr) N (list,l,false,(0:Int)) = kx (list,list.foldl stepF l,decide (l.length < (list.foldl stepF l).length)) := by
 have hN' := n40f hN
 have key := iter_to (B := B_f34_L2 (Ω := List (Den tFact)) N kx kr) (A := List (Den tFact) × Bool) (fun i a => (list,a.1,a.2,(i : Int))) (fun i a q => OkL a.1 → q = kx (list,(list.drop i).foldl stepF a.1,a.2 || decide (a.1.length < ((list.drop i).foldl stepF a.1).length))) list.length
  (fun i a rec_ hi ih ha => by
   obtain ⟨l,fl⟩ := a
   have hll := ha.len
   simp only at hll
   have hok := stepF_ok ha list[i]
   have h1 := stepF_len l list[i]
   have h2 := passF_len (list.drop (i + 1)) (stepF l list[i])
   show (bif _ then _ else _) = _
   rw [lt_rows list hi,le_rows i,getD_at list hi,w64_up (Nat.le_refl i) (by omega),drop_cons hi,List.foldl_cons,spec_Follows hN l hll,Option.bind_some]
   simp only [Bool.and_self,cond_true]
   by_cases hg : l.length < (stepF l list[i]).length
   ·rw [dT (p := (l.length : Int) < ((stepF l list[i]).length : Int)) (by omega),dT (p := l.length < ((list.drop (i + 1)).foldl stepF (stepF l list[i])).length) (by omega),Bool.or_true]
    have := ih (stepF l list[i],true) hok
    rw [Bool.true_or] at this
    exact this
   ·rw [dF (p := (l.length : Int) < ((stepF l list[i]).length : Int)) (by omega)]
    have := ih (stepF l list[i],fl) hok
    have e : (stepF l list[i]).length = l.length := by omega
    simp only [e] at this
    exact this)
  (fun a rec_ ha => by
   show (bif _ then _ else _) = _
   rw [at_end list,List.drop_length]
   show kx (list,a.1,a.2) = kx (list,a.1,a.2 || decide (a.1.length < a.1.length))
   rw [dF (p := a.1.length < a.1.length) (Nat.lt_irrefl _),Bool.or_false])
  N (by omega) (l,false)
 have := key ho
 rw [List.drop_zero,Bool.false_or] at this
 exact this
theorem spec_F0 {N : Nat} (hN : Big N) {kx kr} (list : List (Den tCred)) (hl : list.length ≤ 1048576) : ∀ (n : Nat) (l : List (Den tFact)),OkL l → 145 ≤ l.length + n → ∀ M,n < M →
  iter (B_f34_L0 (Ω := List (Den tFact)) N kx kr) M (list,l,true) = kx (closeF list n l)
 | 0,l,ho,h145,_,_ => by have := ho.len; omega
 | n + 1,l,ho,h145,M,hM => by
  obtain ⟨M,rfl⟩ : ∃ m,M = m + 1 := ⟨M - 1,by omega⟩
  have hok := passF_ok list l ho
  have hlen := passF_len list l
  show iter (B_f34_L2 N (fun (x2,x3,x4) => iter (B_f34_L0 N kx kr) M (x2,x3,x4)) (fun ρ5 => kr (ρ5))) N (list,l,false,(0:Int)) = _
  rw [spec_F2 hN list hl l ho]
  unfold closeF
  simp only
  by_cases hg : l.length < (list.foldl stepF l).length
  ·rw [dT hg,cond_true]
   exact spec_F0 hN list hl n _ hok (by omega) M (by omega)
  ·rw [dF hg,cond_false]
   obtain ⟨M,rfl⟩ : ∃ m,M = m + 1 := ⟨M - 1,by omega⟩
   rfl
theorem spec_FactsOf {N : Nat} (hN : Big N) (list : List (Den tCred)) (hl : list.length ≤ 1048576) : x_f34 N list = some (closeF list 145 []) := by
 have hN' := n40f hN
 unfold x_f34
 exact spec_F0 hN list hl 145 [] ⟨List.nodup_nil,fun f h => by cases h⟩ (by simp) N (by omega)
end Go.Proofs.Ytfmlmdnaeonobaa.C
namespace Go.Proofs.Ytfmlmdnaeonobaa.C
open Go Go.Proofs.Ytfmlmdnaeonobaa.Nx Go.RowKit
set_option linter.unusedVariables false
set_option linter.unusedSimpArgs false
theorem closeF_ok (list : List (Den tCred)) : ∀ (n : Nat) (l : List (Den tFact)),OkL l → OkL (closeF list n l)
 | 0,_,h => h
 | n + 1,l,h => by
  unfold closeF
  cases decide (l.length < (list.foldl stepF l).length)
  ·exact passF_ok list l h
  ·exact closeF_ok list n _ (passF_ok list l h)
def memL (r : Den tRole) : List (Den tFact) → List Int
 | [] => []
 | f :: fs => bif decide (f.1.1 = r.1) && decide (f.1.2 = r.2) then f.2 :: memL r fs else memL r fs
def memR (r : Den tRole) (F : List (Den tFact)) : Nat → Nat → List Int
 | _,0 => []
 | i,n + 1 => bif hasF F (r,(i : Int)) then (i : Int) :: memR r F (i + 1) n else memR r F (i + 1) n
theorem memL_iff (r : Den tRole) (x : Int) : ∀ F : List (Den tFact),x ∈ memL r F ↔ ((r,x) : Den tFact) ∈ F
 | [] => by unfold memL; simp
 | f :: fs => by
  unfold memL
  have ih := memL_iff r x fs
  obtain ⟨⟨a,b⟩,w⟩ := f
  obtain ⟨c,d⟩ := r
  cases hb : decide (a = c) && decide (b = d) with
  | true =>
   simp only [Bool.and_eq_true,decide_eq_true_eq] at hb
   obtain ⟨rfl,rfl⟩ := hb
   rw [cond_true,List.mem_cons,ih,List.mem_cons]
   constructor
   ·rintro (rfl | h)
    ·exact .inl rfl
    ·exact .inr h
   ·rintro (h | h)
    ·cases h; exact .inl rfl
    ·exact .inr h
  | false =>
   rw [cond_false,ih,List.mem_cons]
   constructor
   ·intro h; exact .inr h
   ·rintro (h | h)
    ·cases h
     simp at hb
    ·exact h
theorem memL_nodup (r : Den tRole) : ∀ F : List (Den tFact),F.Nodup → (memL r F).Nodup
 | [],_ => List.nodup_nil
 | f :: fs,h => by
  rw [List.nodup_cons] at h
  unfold memL
  have ih := memL_nodup r fs h.2
  obtain ⟨⟨a,b⟩,w⟩ := f
  obtain ⟨c,d⟩ := r
  cases hb : decide (a = c) && decide (b = d) with
  | true =>
   simp only [Bool.and_eq_true,decide_eq_true_eq] at hb
   obtain ⟨rfl,rfl⟩ := hb
   rw [cond_true,List.nodup_cons]
   exact ⟨fun hm => h.1 ((memL_iff (a,b) w fs).1 hm),ih⟩
  | false => exact ih
theorem memR_iff (r : Den tRole) (F : List (Den tFact)) (x : Int) : ∀ (n i : Nat),x ∈ memR r F i n ↔ ((i : Int) ≤ x ∧ x < ((i + n : Nat) : Int)) ∧ ((r,x) : Den tFact) ∈ F
 | 0,i => by
  unfold memR
  constructor
  ·intro h; cases h
  ·rintro ⟨⟨h1,h2⟩,_⟩; omega
 | n + 1,i => by
  unfold memR
  have ih := memR_iff r F x n (i + 1)
  cases hb : hasF F (r,(i : Int)) with
  | true =>
   rw [hasF_iff] at hb
   rw [cond_true,List.mem_cons,ih]
   constructor
   ·rintro (rfl | ⟨⟨h1,h2⟩,h3⟩)
    ·exact ⟨⟨Int.le_refl _,by omega⟩,hb⟩
    ·exact ⟨⟨by omega,by omega⟩,h3⟩
   ·rintro ⟨⟨h1,h2⟩,h3⟩
    by_cases e : x = (i : Int)
    ·exact .inl e
    ·exact .inr ⟨⟨by omega,by omega⟩,h3⟩
  | false =>
   rw [cond_false,ih]
   constructor
   ·rintro ⟨⟨h1,h2⟩,h3⟩; exact ⟨⟨by omega,by omega⟩,h3⟩
   ·rintro ⟨⟨h1,h2⟩,h3⟩
    have : x ≠ (i : Int) := fun e => by
     subst e
     rw [hasF_iff.2 h3] at hb; cases hb
    exact ⟨⟨by omega,by omega⟩,h3⟩
theorem memR_lt (r : Den tRole) (F : List (Den tFact)) : ∀ (n i : Nat),(memR r F i n).Pairwise (· < ·)
 | 0,_ => List.Pairwise.nil
 | n + 1,i => by
  unfold memR
  have ih := memR_lt r F n (i + 1)
  cases hasF F (r,(i : Int)) with
  | false => exact ih
  | true =>
   rw [cond_true,List.pairwise_cons]
   refine ⟨fun y hy => ?_,ih⟩
   have := ((memR_iff r F y n (i + 1)).1 hy).1.1
   omega
theorem srt_uniqueW : ∀ {a b : List Int},a.Pairwise (· ≤ ·) → b.Pairwise (· ≤ ·) → a.Perm b → a = b
 | [],b,_,_,h => by rw [List.nil_perm.1 h]
 | x :: xs,[],_,_,h => by have := List.perm_nil.1 h; cases this
 | x :: xs,y :: ys,p,q,h => by
  obtain ⟨p1,p2⟩ := List.pairwise_cons.1 p
  obtain ⟨q1,q2⟩ := List.pairwise_cons.1 q
  have e : x = y := by
   have h1 : x ∈ y :: ys := h.mem_iff.1 (by simp)
   have h2 : y ∈ x :: xs := h.mem_iff.2 (by simp)
   have l1 : y ≤ x := by
    rcases List.mem_cons.1 h1 with rfl | h1
    ·exact Int.le_refl _
    ·exact q1 x h1
   have l2 : x ≤ y := by
    rcases List.mem_cons.1 h2 with rfl | h2
    ·exact Int.le_refl _
    ·exact p1 y h2
   omega
  subst e
  rw [srt_uniqueW p2 q2 (List.perm_cons _ |>.1 h)]
theorem members_eq {F : List (Den tFact)} (h : OkL F) (r : Den tRole) : sortI (memL r F) = memR r F 0 6 := by
 refine srt_uniqueW ?_ ((memR_lt r F 6 0).imp fun h => by omega) ?_
 ·have := List.pairwise_mergeSort (le := fun x y => decide (x ≤ y)) (fun a b c h1 h2 => by simp only [decide_eq_true_eq] at *; omega) (fun a b => by simp only [Bool.or_eq_true,decide_eq_true_eq]; omega) (memL r F)
  exact this.imp fun h => by simpa using h
 ·refine (List.mergeSort_perm _ _).trans ((List.perm_ext_iff_of_nodup (memL_nodup r F h.1) ?_).2 fun x => ?_)
  ·rw [List.nodup_iff_pairwise_ne]
   exact (memR_lt r F 6 0).imp fun h => by omega
  ·rw [memL_iff,memR_iff]
   constructor
   ·intro hm
    have := (okF_r (h.2 _ hm)).2.2
    exact ⟨⟨this.1,by have h5 : x ≤ 5 := this.2; omega⟩,hm⟩
   ·exact fun h => h.2
theorem impl_MembersOf {N : Nat} (hN : Big N) (list : List (Den tCred)) (hl : list.length ≤ 1048576) (r : Den tRole) : x_f4 N list r = some (memR r (closeF list 145 []) 0 6) := by
 have hN' := n40f hN
 have hok := closeF_ok list 145 [] ⟨List.nodup_nil,fun f h => by cases h⟩
 have hln := hok.len
 unfold x_f4
 rw [impl_FactsOf hN list hl,Option.bind_some,← members_eq hok r]
 generalize closeF list 145 [] = F at hok hln
 have key := iter_to (B := B_f4_L0 N (fun x2 => (x_f31 N x2).bind fun r3 => some r3.2) (fun ρ4 => some (ρ4))) (A := List Int) (fun i a => (r,a,F,(F.length : Int),(i : Int))) (fun i a q => a.length ≤ i → q = some (sortI (a ++ memL r (F.drop i)))) F.length
  (fun i a rec_ hi ih ha => by
   show (bif _ then _ else _) = _
   rw [lt_rows F hi,le_rows i,getD_at F hi,w64_up (Nat.le_refl i) (by omega),drop_cons hi]
   simp only [Bool.and_self,cond_true,List.length_cons,List.length_nil]
   unfold memL
   cases decide ((F[i]).1.1 = r.1) && decide ((F[i]).1.2 = r.2) with
   | false => exact ih a (by omega)
   | true =>
    simp only [cond_true]
    rw [dT (p := (a.length + (0 + 1)) * 8 ≤ 140737488355328) (by omega)]
    have := ih (a ++ [(F[i]).2]) (by simp only [List.length_append,List.length_cons,List.length_nil]; omega)
    rw [List.append_assoc] at this
    exact this)
  (fun a rec_ ha => by
   show (bif _ then _ else _) = _
   rw [dF (Int.lt_irrefl _),List.drop_length]
   unfold x_f31
   simp only [cond_false,memL,List.append_nil]
   rw [dT (p := List.length (α := Int) a ≤ 140737488355328) (by omega)]; rfl)
  N (by omega) []
 exact key (by simp)
def leadsF (F : List (Den tFact)) (c : Den tCred) : List (Den tRole) :=
 bif decide (c.1 = 2) then [c.2.2.2.1] else
 bif decide (c.1 = 3) then c.2.2.2.1 :: (memR c.2.2.2.1 F 0 6).map (fun x => ((x,c.2.2.2.2.1.2) : Den tRole)) else
 bif decide (c.1 = 4) then [c.2.2.2.1,c.2.2.2.2.1] else []
theorem memR_len (r : Den tRole) (F : List (Den tFact)) : ∀ (n i : Nat),(memR r F i n).length ≤ n
 | 0,_ => Nat.le_refl _
 | n + 1,i => by
  unfold memR
  have := memR_len r F n (i + 1)
  cases hasF F (r,(i : Int))
  ·simp only [cond_false]; omega
  ·simp only [cond_true,List.length_cons]; omega
theorem impl_leads {N : Nat} (hN : Big N) (list : List (Den tCred)) (hl : list.length ≤ 1048576) (c : Den tCred) : x_f13 N list c = some (leadsF (closeF list 145 []) c) := by
 have hN' := n40f hN
 unfold x_f13 leadsF
 rw [impl_MembersOf hN list hl,Option.bind_some]
 have hm := memR_len c.2.2.2.1 (closeF list 145 []) 6 0
 generalize memR c.2.2.2.1 (closeF list 145 []) 0 6 = Q at hm
 have key := iter_to (B := B_f13_L1 N (fun x2 => some x2) (fun ρ3 => some (ρ3))) (A := List (Den tRole)) (fun i a => (c,a,Q,(Q.length : Int),(i : Int))) (fun i a q => a.length ≤ 1 + i → q = some (a ++ (Q.drop i).map fun x => ((x,c.2.2.2.2.1.2) : Den tRole))) Q.length
  (fun i a rec_ hi ih ha => by
   show (bif _ then _ else _) = _
   rw [lt_rows Q hi,le_rows i,getD_at Q hi,w64_up (Nat.le_refl i) (by omega),drop_cons hi]
   simp only [Bool.and_self,cond_true,List.length_cons,List.length_nil]
   rw [dT (p := (a.length + (0 + 1)) * 16 ≤ 140737488355328) (by omega)]
   have := ih (a ++ [((Q[i],c.2.2.2.2.1.2) : Den tRole)]) (by simp only [List.length_append,List.length_cons,List.length_nil]; omega)
   rw [List.append_assoc] at this
   exact this)
  (fun a rec_ ha => by
   show (bif _ then _ else _) = _
   rw [dF (Int.lt_irrefl _),List.drop_length]; simp)
  N (by omega) [c.2.2.2.1]
 have key := key (by simp)
 rw [List.drop_zero] at key
 cases decide (c.1 = 2) with
 | true => rfl
 | false =>
  cases decide (c.1 = 3) with
  | true => exact key
  | false => cases decide (c.1 = 4) <;> rfl
def eqR (x r : Den tRole) : Bool := decide (x.1 = r.1) && decide (x.2 = r.2)
def wantR (out : List (Den tRole)) (q : Den tRole) : List (Den tRole) := bif out.any (fun x => eqR x q) then out else bif decide (out.length < 16) then out ++ [q] else out
theorem wantR_len {out : List (Den tRole)} (h : out.length ≤ 16) (q : Den tRole) : (wantR out q).length ≤ 16 ∧ out.length ≤ (wantR out q).length := by
 unfold wantR
 cases out.any (fun x => eqR x q) with
 | true => exact ⟨h,Nat.le_refl _⟩
 | false =>
  by_cases h16 : out.length < 16
  ·rw [dT h16]; simp only [cond_false,cond_true,List.length_append,List.length_cons,List.length_nil]; omega
  ·rw [dF h16]; exact ⟨h,Nat.le_refl _⟩
theorem foldR_len : ∀ (Q : List (Den tRole)) {out : List (Den tRole)},out.length ≤ 16 → (Q.foldl wantR out).length ≤ 16 ∧ out.length ≤ (Q.foldl wantR out).length
 | [],_,h => ⟨h,Nat.le_refl _⟩
 | q :: Q,out,h => by
  have h1 := wantR_len h q
  have h2 := foldR_len Q h1.1
  exact ⟨h2.1,Nat.le_trans h1.2 h2.2⟩
theorem containsR {N : Nat} (hN : Big N) (l : List (Den tRole)) (hl : l.length ≤ 1048576) (q : Den tRole) : x_f28 N l q = some (l.any fun x => eqR x q) := by
 unfold x_f28 x_f30
 have := index_func (d := dft tRole) (L := l) (by omega) q (f := fun x => some (eqR x q)) (fun x => eqR x q) (fun x _ => rfl) hN (B := B_f30_L0 N (fun _ => some (-1:Int)) (fun ρ1 => some (ρ1)))
  (fun rec_ s0 s7 s8 => by
   show (bif _ then (bif _ then (bif _ then _ else _) else _) else _) = _
   generalize s0.getD s8.toNat (dft tRole) = x
   have : (decide (q.1 = x.1) && decide (q.2 = x.2)) = eqR x q := by
    unfold eqR
    rw [decide_eq_decide.2 (eq_comm (a := q.1) (b := x.1)),decide_eq_decide.2 (eq_comm (a := q.2) (b := x.2))]
   rw [this]
   rfl)
 rw [this,Option.bind_some,findI_any]
theorem spec_want {N : Nat} (hN : Big N) (out : List (Den tRole)) (ho : out.length ≤ 16) (q : Den tRole) : x_f41 N out q = some (wantR out q,(),()) := by
 have hN' := n40f hN
 unfold x_f41 wantR
 have key := iter_row (B := B_f41_L0 N (fun (x1,x2) => (bif (decide ((16:Int) ≤ (List.length (α := Den tRole) x1 : Int))) then some (x1,(),()) else (bif (decide ((List.length (α := Den tRole) x1 + [x2].length) * 16 ≤ 140737488355328)) then some ((x1 ++ [x2]),(),()) else none))) (fun ρ3 => some (ρ3))) out (fun i => (out,q,(i : Int))) (fun i l => some ((bif l.any (fun x => eqR x q) then out else bif decide (out.length < 16) then out ++ [q] else out,(),()) : (List (Den tRole)) × DenW (.pr (.mo 0 tRole) (.d 1 tRole))))
  (fun i hi rec_ h => by
   show (bif _ then _ else _) = _
   rw [lt_rows out hi,le_rows i,getD_at out hi,w64_up (Nat.le_refl i) (by omega),h,List.any_cons]
   simp only [Bool.and_self,cond_true]
   change (bif eqR out[i] q then _ else _) = _
   cases eqR out[i] q <;> rfl)
  (fun rec_ => by
   show (bif _ then _ else _) = _
   rw [at_end out]
   simp only [cond_false,List.any_nil,List.length_cons,List.length_nil]
   rw [dT (p := (out.length + (0 + 1)) * 16 ≤ 140737488355328) (by omega)]
   by_cases h16 : out.length < 16
   ·rw [dT h16,dF (p := (16:Int) ≤ (out.length : Int)) (by omega)]; rfl
   ·rw [dF h16,dT (p := (16:Int) ≤ (out.length : Int)) (by omega)]; rfl) (N := N) (by omega)
 refine (congrArg (fun o => Option.bind o _) key).trans ?_
 rfl
def stepW (F : List (Den tFact)) (i : Nat) (out : List (Den tRole)) (c : Den tCred) : List (Den tRole) := bif credOk c && eqR c.2.1 (out.getD i (dft tRole)) then (leadsF F c).foldl wantR out else out
def goW (list : List (Den tCred)) (F : List (Den tFact)) : Nat → Nat → List (Den tRole) → List (Den tRole)
 | 0,_,out => out
 | n + 1,i,out => bif decide (i < out.length) then goW list F n (i + 1) (list.foldl (stepW F i) out) else out
theorem stepW_len (F : List (Den tFact)) (i : Nat) {out : List (Den tRole)} (h : out.length ≤ 16) (c : Den tCred) : (stepW F i out c).length ≤ 16 ∧ out.length ≤ (stepW F i out c).length := by
 unfold stepW
 cases credOk c && eqR c.2.1 (out.getD i (dft tRole))
 ·exact ⟨h,Nat.le_refl _⟩
 ·exact foldR_len _ h
theorem passW_len (F : List (Den tFact)) (i : Nat) : ∀ (list : List (Den tCred)) {out : List (Den tRole)},out.length ≤ 16 → (list.foldl (stepW F i) out).length ≤ 16 ∧ out.length ≤ (list.foldl (stepW F i) out).length
 | [],_,h => ⟨h,Nat.le_refl _⟩
 | c :: cs,out,h => by
  have h1 := stepW_len F i h c
  have h2 := passW_len F i cs h1.1
  exact ⟨h2.1,Nat.le_trans h1.2 h2.2⟩
theorem goW_len (list : List (Den tCred)) (F : List (Den tFact)) : ∀ (n i : Nat) {out : List (Den tRole)},out.length ≤ 16 → (goW list F n i out).length ≤ 16
 | 0,_,_,h => h
 | n + 1,i,out,h => by
  unfold goW
  cases decide (i < out.length)
  ·exact h
  ·exact goW_len list F n (i + 1) (passW_len F i list h).1
theorem impl_W4 {N : Nat} (hN : Big N) {kx kr} (s0 s19 : Den (.sl tCred)) (s6 s20 s21 : Int) (Q : List (Den tRole)) (hQ : Q.length ≤ 1000) (out : List (Den tRole)) (ho : out.length ≤ 16) :
  iter (B_f6_L4 (Ω := List (Den tRole)) N kx kr) N (s0,out,s6,s19,s20,s21,Q,(Q.length : Int),(0:Int)) = kx (s0,Q.foldl wantR out,s6,s19,s20,s21) := by
 have hN' := n40f hN
 have key := iter_to (B := B_f6_L4 (Ω := List (Den tRole)) N kx kr) (A := List (Den tRole)) (fun i a => (s0,a,s6,s19,s20,s21,Q,(Q.length : Int),(i : Int))) (fun i a q => a.length ≤ 16 → q = kx (s0,(Q.drop i).foldl wantR a,s6,s19,s20,s21)) Q.length
  (fun i a rec_ hi ih ha => by
   have eta : ∀ r : Den tRole,((r.1,r.2) : Den tRole) = r := fun _ => rfl
   have hw := ih (wantR a Q[i]) (wantR_len ha _).1
   show (bif _ then _ else _) = _
   rw [lt_rows Q hi,le_rows i,getD_at Q hi,w64_up (Nat.le_refl i) (by omega),drop_cons hi,List.foldl_cons]
   simp only [Bool.and_self,cond_true,eta,List.length_cons,List.length_nil]
   rw [containsR hN a (by omega),Option.bind_some,dT (p := (a.length + (0 + 1)) * 16 ≤ 140737488355328) (by omega)]
   revert hw
   unfold wantR
   cases a.any (fun x => eqR x Q[i]) with
   | true => intro hw; exact hw
   | false =>
    by_cases h16 : a.length < 16
    ·rw [dT h16,dT (p := (a.length : Int) < 16) (by omega)]
     intro hw; exact hw
    ·rw [dF h16,dF (p := (a.length : Int) < 16) (by omega)]
     intro hw; exact hw)
  (fun a rec_ ha => by
   show (bif _ then _ else _) = _
   rw [dF (Int.lt_irrefl _),List.drop_length]; rfl)
  N (by omega) out
 exact key ho
theorem leadsF_len (F : List (Den tFact)) (c : Den tCred) : (leadsF F c).length ≤ 7 := by
 have := memR_len c.2.2.2.1 F 6 0
 unfold leadsF
 cases decide (c.1 = 2)
 ·cases decide (c.1 = 3)
  ·cases decide (c.1 = 4) <;> simp
  ·simp only [cond_false,cond_true,List.length_cons,List.length_map]; omega
 ·simp
theorem impl_W2 {N : Nat} (hN : Big N) {kx kr} (list : List (Den tCred)) (hl : list.length ≤ 1048576) (i : Nat) (out : List (Den tRole)) (ho : out.length ≤ 16) (hi0 : i < out.length) :
  iter (B_f6_L2 (Ω := List (Den tRole)) N kx kr) N (list,out,(i : Int),list,(list.length : Int),(0:Int)) = kx (list,list.foldl (stepW (closeF list 145 []) i) out,(i : Int)) := by
 have hN' := n40f hN
 have key := iter_to (B := B_f6_L2 (Ω := List (Den tRole)) N kx kr) (A := List (Den tRole)) (fun k a => (list,a,(i : Int),list,(list.length : Int),(k : Int))) (fun k a q => a.length ≤ 16 → i < a.length → q = kx (list,(list.drop k).foldl (stepW (closeF list 145 []) i) a,(i : Int))) list.length
  (fun k a rec_ hk ih ha hia => by
   have eta : ∀ c : Den tCred,((c.1,(c.2.1.1,c.2.1.2),c.2.2.1,(c.2.2.2.1.1,c.2.2.2.1.2),(c.2.2.2.2.1.1,c.2.2.2.2.1.2),c.2.2.2.2.2.1,c.2.2.2.2.2.2) : Den tCred) = c := fun _ => rfl
   have hs := stepW_len (closeF list 145 []) i ha list[k]
   have hw := ih (stepW (closeF list 145 []) i a list[k]) hs.1 (by omega)
   have hlf := leadsF_len (closeF list 145 []) list[k]
   have hg : a.getD i (dft tRole) = a[i] := by rw [List.getD_eq_getElem?_getD,List.getElem?_eq_getElem hia]; rfl
   show (bif _ then _ else _) = _
   rw [lt_rows list hk,le_rows k,getD_at list hk,drop_cons hk,List.foldl_cons]
   simp only [Bool.and_self,cond_true,eta]
   rw [credOk_i,Option.bind_some,le_rows i,lt_rows a hia,getD_at a hia,impl_leads hN list hl,Option.bind_some,w64_up (Nat.le_refl k) (by omega)]
   revert hw
   unfold stepW
   rw [hg]
   cases credOk list[k] with
   | false => intro hw; exact hw
   | true =>
    simp only [Bool.not_true,cond_false,Bool.and_self,cond_true,Bool.true_and]
    change _ → (bif !eqR (list[k]).2.1 a[i] then _ else _) = _
    cases eqR (list[k]).2.1 a[i] with
    | false => intro hw; exact hw
    | true =>
     intro hw
     simp only [Bool.not_true,cond_false,cond_true] at hw ⊢
     rw [impl_W4 hN _ _ _ _ _ _ (by omega) a ha]
     simp only
     rw [w64_up (Nat.le_refl k) (by omega)]
     exact hw)
  (fun a rec_ ha hia => by
   show (bif _ then _ else _) = _
   rw [dF (Int.lt_irrefl _),List.drop_length]; rfl)
  N (by omega) out
 exact key ho hi0
theorem impl_W0 {N : Nat} (hN : Big N) {kx kr} (list : List (Den tCred)) (hl : list.length ≤ 1048576) : ∀ (n i : Nat) (out : List (Den tRole)),out.length ≤ 16 → 17 ≤ i + n → i ≤ 20 → ∀ M,n < M →
  iter (B_f6_L0 (Ω := List (Den tRole)) N kx kr) M (list,out,(i : Int)) = kx (goW list (closeF list 145 []) n i out)
 | 0,i,out,ho,hi,_,M,hM => by
  obtain ⟨M,rfl⟩ : ∃ m,M = m + 1 := ⟨M - 1,by omega⟩
  show (bif _ then _ else _) = _
  rw [dF (p := (i : Int) < (out.length : Int)) (by omega)]; rfl
 | n + 1,i,out,ho,hi,hi2,M,hM => by
  obtain ⟨M,rfl⟩ : ∃ m,M = m + 1 := ⟨M - 1,by omega⟩
  show (bif _ then _ else _) = _
  unfold goW
  by_cases hio : i < out.length
  ·rw [dT (p := (i : Int) < (out.length : Int)) (by omega),dT hio]
   simp only [cond_true]
   rw [impl_W2 hN list hl i out ho hio]
   simp only
   rw [w64_up (Nat.le_refl i) (by omega)]
   exact impl_W0 hN list hl n (i + 1) _ (passW_len _ i list ho).1 (by omega) (by omega) M (by omega)
  ·rw [dF (p := (i : Int) < (out.length : Int)) (by omega),dF hio]; rfl
theorem impl_WantsOf {N : Nat} (hN : Big N) (list : List (Den tCred)) (hl : list.length ≤ 1048576) (r : Den tRole) : x_f6 N list r = some (goW list (closeF list 145 []) 17 0 [r]) := by
 have hN' := n40f hN
 unfold x_f6
 exact impl_W0 (kx := fun x15 => some x15) (kr := fun ρ16 => some ρ16) hN list hl 17 0 [r] (by simp) (by omega) (by omega) N (by omega)
end Go.Proofs.Ytfmlmdnaeonobaa.C
namespace Go.Proofs.Ytfmlmdnaeonobaa.C
open Go Go.Proofs.Ytfmlmdnaeonobaa.Nx Go.RowKit
set_option linter.unusedVariables false
set_option linter.unusedSimpArgs false
theorem credOk_kindW {c : Den tCred} (h : credOk c = true) : (c.1 : Int) = 1 ∨ (c.1 : Int) = 2 ∨ (c.1 : Int) = 3 ∨ (c.1 : Int) = 4 := by
 unfold credOk at h
 by_cases h1 : (c.1 : Int) = 1
 ·exact .inl h1
 ·by_cases h2 : (c.1 : Int) = 2
  ·exact .inr (.inl h2)
  ·by_cases h3 : (c.1 : Int) = 3
   ·exact .inr (.inr (.inl h3))
   ·by_cases h4 : (c.1 : Int) = 4
    ·exact .inr (.inr (.inr h4))
    ·rw [dF h1,dF h2,dF h3,dF h4] at h
     simp at h
theorem neI {a x y : Int} (h : a = x) (hne : x ≠ y) : ¬ a = y := fun e => hne (h.symm.trans e)
def linkR (F : List (Den tFact)) (c : Den tCred) (i n : Nat) : List (Den tRole) := bif decide (c.1 = 3) then (memR c.2.2.2.1 F i n).map (fun x => ((x,c.2.2.2.2.1.2) : Den tRole)) else []
theorem spec_W4 {N : Nat} (hN : Big N) {kx kr} (s0 : Den (.sl tCred)) (s7 s8 : Int) (F : List (Den tFact)) (hF : F.length ≤ 144) (c : Den tCred) (out : List (Den tRole)) (ho : out.length ≤ 16) :
  iter (B_f37_L4 (Ω := List (Den tRole)) N kx kr) N (s0,out,F,s7,s8,c,(0:Int)) = kx (s0,(linkR F c 0 6).foldl wantR out,F,s7,s8) := by
 have hN' := n40f hN
 obtain ⟨m,hm⟩ : ∃ m : Nat,m = 6 := ⟨6,rfl⟩
 have key := iter_to (B := B_f37_L4 (Ω := List (Den tRole)) N kx kr) (A := List (Den tRole)) (fun i a => (s0,a,F,s7,s8,c,(i : Int))) (fun i a q => a.length ≤ 16 → q = kx (s0,(linkR F c i (m - i)).foldl wantR a,F,s7,s8)) m
  (fun i a rec_ hi ih ha => by
   have e6 : m - i = (m - (i + 1)) + 1 := by omega
   show (bif _ then _ else _) = _
   rw [dT (p := (i : Int) < 6) (by omega),e6]
   have ih2 := fun b hb => ih b hb
   unfold linkR at ih2 ⊢
   cases hd : decide (c.1 = 3) with
   | false => rfl
   | true =>
    simp only [hd,cond_true] at ih2 ⊢
    unfold memR
    rw [spec_has hN F (by omega),Option.bind_some,spec_want hN a ha,w64_up (Nat.le_refl i) (by omega)]
    cases hasF F (c.2.2.2.1,(i : Int)) with
    | false => exact ih2 a ha
    | true => exact ih2 _ (wantR_len ha _).1)
  (fun a rec_ ha => by
   show (bif _ then _ else _) = _
   rw [dF (p := (m : Int) < 6) (by omega),Nat.sub_self]
   unfold linkR
   cases decide (c.1 = 3) <;> rfl)
  N (by omega) out
 rw [hm] at key
 exact key ho
theorem spec_W2 {N : Nat} (hN : Big N) {kx kr} (list : List (Den tCred)) (hl : list.length ≤ 1048576) (F : List (Den tFact)) (hF : F.length ≤ 144) (i : Nat) (out : List (Den tRole)) (ho : out.length ≤ 16) (hi0 : i < out.length) :
  iter (B_f37_L2 (Ω := List (Den tRole)) N kx kr) N (list,out,F,(i : Int),(0:Int)) = kx (list,list.foldl (stepW F i) out,F,(i : Int)) := by
 have hN' := n40f hN
 have key := iter_to (B := B_f37_L2 (Ω := List (Den tRole)) N kx kr) (A := List (Den tRole)) (fun k a => (list,a,F,(i : Int),(k : Int))) (fun k a q => a.length ≤ 16 → i < a.length → q = kx (list,(list.drop k).foldl (stepW F i) a,F,(i : Int))) list.length
  (fun k a rec_ hk ih ha hia => by
   have eta : ∀ c : Den tCred,((c.1,(c.2.1.1,c.2.1.2),c.2.2.1,(c.2.2.2.1.1,c.2.2.2.1.2),(c.2.2.2.2.1.1,c.2.2.2.2.1.2),c.2.2.2.2.2.1,c.2.2.2.2.2.2) : Den tCred) = c := fun _ => rfl
   have hs := stepW_len F i ha list[k]
   have hw := ih (stepW F i a list[k]) hs.1 (by omega)
   have hg : a.getD i (dft tRole) = a[i] := by rw [List.getD_eq_getElem?_getD,List.getElem?_eq_getElem hia]; rfl
   show (bif _ then _ else _) = _
   rw [lt_rows list hk,le_rows k,getD_at list hk,drop_cons hk,List.foldl_cons,le_rows i,lt_rows a hia,getD_at a hia]
   simp only [Bool.and_self,cond_true,eta]
   rw [credOk_s,Option.bind_some,w64_up (Nat.le_refl k) (by omega)]
   have hst : stepW F i a list[k] = bif credOk list[k] && eqR (list[k]).2.1 a[i] then (leadsF F list[k]).foldl wantR a else a := by unfold stepW; rw [hg]
   rw [hst] at hw ⊢
   generalize list[k] = c at hw ⊢
   have etaR : ∀ r : Den tRole,((r.1,r.2) : Den tRole) = r := fun _ => rfl
   simp only [etaR]
   have d0 : (decide ((c.2.1).1 = (a[i]).1) && decide ((c.2.1).2 = (a[i]).2)) = eqR c.2.1 a[i] := rfl
   rw [d0]
   cases he : eqR c.2.1 a[i] with
   | false =>
    rw [he,Bool.and_false] at hw
    rw [Bool.and_false]
    exact hw
   | true =>
    rw [he] at hw
    cases hc : credOk c with
    | false => rw [hc] at hw; exact hw
    | true =>
     rw [hc] at hw
     have lk : ∀ (b : List (Den tRole)) (hb : b.length ≤ 16),iter (B_f37_L4 (Ω := List (Den tRole)) N (fun (x13,x14,x15,x16,x17) => rec_ (x13,x14,x15,x16,(wrap64 (x17 + (1:Int))))) (fun ρ18 => kr (ρ18))) N (list,b,F,(i : Int),(k : Int),c,(0:Int)) = rec_ (list,(linkR F c 0 6).foldl wantR b,F,(i : Int),((k + 1 : Nat) : Int)) := fun b hb => by
      rw [spec_W4 hN _ _ _ F hF c b hb]
      simp only
      rw [w64_up (Nat.le_refl k) (by omega)]
     have wA := wantR_len ha c.2.2.2.1
     rw [spec_want hN a ha,Option.bind_some]
     simp only
     rw [spec_want hN _ wA.1,Option.bind_some]
     simp only [Bool.not_true,cond_false,Bool.and_self,cond_true] at hw ⊢
     rcases credOk_kindW hc with h | h | h | h
     ·have hlf : leadsF F c = [] := by unfold leadsF; rw [dF (p := (c.1 : Int) = 2) (neI h (by decide)),dF (p := (c.1 : Int) = 3) (neI h (by decide)),dF (p := (c.1 : Int) = 4) (neI h (by decide))]; rfl
      rw [hlf] at hw ⊢
      rw [dT (p := (c.1 : Int) = 1) h]
      exact hw
     ·have hlf : leadsF F c = [c.2.2.2.1] := by unfold leadsF; rw [dT (p := (c.1 : Int) = 2) h]; rfl
      have hlk : linkR F c 0 6 = [] := by unfold linkR; rw [dF (p := (c.1 : Int) = 3) (neI h (by decide))]; rfl
      rw [hlf] at hw ⊢
      rw [dF (p := (c.1 : Int) = 1) (neI h (by decide)),dF (p := (c.1 : Int) = 4) (neI h (by decide))]
      refine (lk _ wA.1).trans ?_
      rw [hlk]
      exact hw
     ·have hlf : leadsF F c = c.2.2.2.1 :: linkR F c 0 6 := by unfold leadsF linkR; rw [dF (p := (c.1 : Int) = 2) (neI h (by decide)),dT (p := (c.1 : Int) = 3) h]; rfl
      rw [hlf] at hw ⊢
      rw [dF (p := (c.1 : Int) = 1) (neI h (by decide)),dF (p := (c.1 : Int) = 4) (neI h (by decide))]
      refine (lk _ wA.1).trans ?_
      exact hw
     ·have hlf : leadsF F c = [c.2.2.2.1,c.2.2.2.2.1] := by unfold leadsF; rw [dF (p := (c.1 : Int) = 2) (neI h (by decide)),dF (p := (c.1 : Int) = 3) (neI h (by decide)),dT (p := (c.1 : Int) = 4) h]; rfl
      have hlk : linkR F c 0 6 = [] := by unfold linkR; rw [dF (p := (c.1 : Int) = 3) (neI h (by decide))]; rfl
      rw [hlf] at hw ⊢
      rw [dF (p := (c.1 : Int) = 1) (neI h (by decide)),dT (p := (c.1 : Int) = 4) h]
      refine (lk _ (wantR_len wA.1 _).1).trans ?_
      rw [hlk]
      exact hw)
  (fun a rec_ ha hia => by
   show (bif _ then _ else _) = _
   rw [at_end list,List.drop_length]; rfl)
  N (by omega) out
 exact key ho hi0
theorem spec_W0 {N : Nat} (hN : Big N) {kx kr} (list : List (Den tCred)) (hl : list.length ≤ 1048576) (F : List (Den tFact)) (hF : F.length ≤ 144) : ∀ (n i : Nat) (out : List (Den tRole)),out.length ≤ 16 → 17 ≤ i + n → i ≤ 20 → ∀ M,n < M →
  iter (B_f37_L0 (Ω := List (Den tRole)) N kx kr) M (list,out,F,(i : Int)) = kx (goW list F n i out)
 | 0,i,out,ho,hi,_,M,hM => by
  obtain ⟨M,rfl⟩ : ∃ m,M = m + 1 := ⟨M - 1,by omega⟩
  show (bif _ then _ else _) = _
  rw [dF (p := (i : Int) < (out.length : Int)) (by omega)]; rfl
 | n + 1,i,out,ho,hi,hi2,M,hM => by
  obtain ⟨M,rfl⟩ : ∃ m,M = m + 1 := ⟨M - 1,by omega⟩
  show (bif _ then _ else _) = _
  unfold goW
  by_cases hio : i < out.length
  ·rw [dT (p := (i : Int) < (out.length : Int)) (by omega),dT hio]
   simp only [cond_true]
   rw [spec_W2 hN list hl F hF i out ho hio]
   simp only
   rw [w64_up (Nat.le_refl i) (by omega)]
   exact spec_W0 hN list hl F hF n (i + 1) _ (passW_len _ i list ho).1 (by omega) (by omega) M (by omega)
  ·rw [dF (p := (i : Int) < (out.length : Int)) (by omega),dF hio]; rfl
theorem spec_WantsOf {N : Nat} (hN : Big N) (list : List (Den tCred)) (hl : list.length ≤ 1048576) (r : Den tRole) : x_f37 N list r = some (goW list (closeF list 145 []) 17 0 [r]) := by
 have hN' := n40f hN
 have hok := closeF_ok list 145 [] ⟨List.nodup_nil,fun f h => by cases h⟩
 unfold x_f37
 rw [spec_FactsOf hN list hl,Option.bind_some]
 exact spec_W0 (kx := fun x24 => some x24) (kr := fun ρ25 => some ρ25) hN list hl _ hok.len 17 0 [r] (by simp) (by omega) (by omega) N (by omega)
def mkRole (x : Den tRole) (k : Int) : Den tRole × Int := ((k,k + 1),k + 1 + 1)
theorem grow_Role : Grow (fun _ : Den tRole => True) mkRole 2 := fun x k _ => by unfold mkRole; dsimp only; omega
theorem mk_RoleS {N : Nat} (hN : Big N) (L : List (Den tRole)) (hL : L.length ≤ 1048576) (k : Int) (h0 : 0 ≤ k) (hk : k + ((2 * L.length : Nat) : Int) ≤ 9223372036854775806) : x_f21 N L k = some ((mkL mkRole L k).2,(mkL mkRole L k).1,()) := by
 have hN' : 1099511627776 ≤ N := hN
 have e := mark_rows (B := B_f21_L0 N (fun (x2,x3) => some (x3,x2,())) (fun ρ4 => some (ρ4))) (kx := fun s => some (s.2,s.1,())) grow_Role
  (fun rec_ pre x post k _ h0 hk hl => by
   have w1 := w64 (x := k + 1) (by omega) (by omega)
   have w2 := w64 (x := k + 1 + 1) (by omega) (by omega)
   have wp := w64_up (i := pre.length) (Nat.le_refl _) (by omega)
   show (bif _ then _ else _) = _
   simp only [at_lt,at_le,Int.toNat_natCast,st0,gD0,Bool.and_self,cond_true,w1,w2,wp]
   rfl)
  (fun rec_ L k => by
   show (bif _ then _ else _) = _
   simp only [at_end,cond_false])
  L [] k N (by omega) (fun _ _ => trivial) h0 hk (by simp; omega)
 unfold x_f21
 refine (congrArg (fun o => Option.bind o _) e).trans ?_
 rw [Option.bind_some]
 dsimp only
 rw [List.nil_append,beq_len (mkL_len _ _ _)]; rfl
theorem hd_RoleS {N : Nat} (hN : Big N) (L : List (Den tRole)) (hL : L.length ≤ 1048576) (k : Int) (h0 : 0 ≤ k) (hk : k + ((2 * L.length : Nat) : Int) ≤ 9223372036854775806) : x_f19 N (mkL mkRole L k).1 k = some (mkL mkRole L k).2 := by
 have hN' : 1099511627776 ≤ N := hN
 exact held_rows (B := B_f19_L0 N (fun x1 => some x1) (fun ρ2 => some (ρ2))) (kx := fun s => some s) grow_Role
  (fun rec_ pre x post k _ h0 hk hl => by
   have w1 := w64 (x := k + 1) (by omega) (by omega)
   have w2 := w64 (x := k + 1 + 1) (by omega) (by omega)
   have wp := w64_up (i := pre.length) (Nat.le_refl _) (by omega)
   show (bif _ then _ else _) = _
   simp only [at_lt,at_le,Int.toNat_natCast,gD0,Bool.and_self,cond_true,w1,w2,wp]
   generalize hy : (mkRole x k).1 = y
   have e : y = (mkRole x k).1 := hy.symm
   unfold mkRole at e
   dsimp only at e
   subst e
   simp only [decide_true,Bool.not_true,cond_false]
   rfl)
  (fun rec_ L k => by
   show (bif _ then _ else _) = _
   simp only [at_end,cond_false])
  L [] k N (by omega) (fun _ _ => trivial) h0 hk (by simp; omega)
theorem pure_FnExactWantsOf (a0 : Den (.sl tCred)) (a1 : Den tRole) (g0 : good (.sl tCred) a0) (g1 : good tRole a1) : ∃ N,x_laws_FnExactWantsOf N a0 a1 = some true := by
 refine ⟨1099511627776,?_⟩
 have hN : Big 1099511627776 := Nat.le_refl _
 generalize 1099511627776 = N at hN
 unfold x_laws_FnExactWantsOf
 obtain ⟨k,e,hk⟩ := sz_CredS hN a0 g0 1048576 (by omega) (by omega)
 rw [e,Option.bind_some]
 rcases hk with hk | ⟨h1,h2,h⟩
 ·rw [dT hk]; rfl
 ·rw [dF (by omega)]
  have hl := h.1
  have hr : okz tRole a1 := by simp [okz]
  have hlen := goW_len a0 (closeF a0 145 []) 17 0 (out := [a1]) (by simp)
  have hs : okz (.sl tRole) (goW a0 (closeF a0 145 []) 17 0 [a1]) := ⟨by omega,fun x _ => by simp [okz]⟩
  have g1 := mkL_grow grow_Cred a0 1 (fun _ _ => trivial)
  have g2 := mkL_grow grow_Role (goW a0 (closeF a0 145 []) 17 0 [a1]) 1 (fun _ _ => trivial)
  simp only [cond_false,to_CredS hN a0 h,to_Role hN a1 hr,Option.bind_some,spec_WantsOf hN a0 hl,impl_WantsOf hN a0 hl,eq_CredS hN a0 h,eq_RoleS hN _ hs,mk_CredS hN a0 hl 1 (by omega) (by omega),mk_RoleS hN _ hs.1 1 (by omega) (by omega),hd_RoleS hN _ hs.1 1 (by omega) (by omega),Bool.not_true]
  rw [dF (by omega),dF (by omega),dT trivial]
  rfl
end Go.Proofs.Ytfmlmdnaeonobaa.C
