/- The data that the functions compute, further: for all arguments that memory can hold. -/
import Derived.Test.YtfmlmdnaeonobaaGreatPFnPeersa
set_option linter.unusedVariables false
set_option linter.unusedSimpArgs false
namespace Go.Proofs.YtfmlmdnaeonobaaGreat.C
open Go Go.Proofs.YtfmlmdnaeonobaaGreat.Nx Go.RowKit
set_option linter.unusedVariables false
set_option linter.unusedSimpArgs false
def fHold (L : List (Den tPeer)) : List Int → List Int → List Int
 | out,[] => out
 | out,x :: xs => bif decide (0 ≤ fPeerAt x 0 L) && (!(out.any fun y => decide (y = x)) && decide ((out.length : Int) < 3)) then fHold L (out ++ [x]) xs else fHold L out xs
theorem fHold_full (L : List (Den tPeer)) : ∀ (xs out : List Int),¬ (out.length : Int) < 3 → fHold L out xs = out
 | [],_,_ => rfl
 | x :: xs,out,h => by
  unfold fHold
  rw [dF h,Bool.and_false,Bool.and_false]
  exact fHold_full L xs out h
theorem fHold_len (L : List (Den tPeer)) : ∀ (xs out : List Int),(fHold L out xs).length ≤ out.length + xs.length
 | [],_ => Nat.le_refl _
 | x :: xs,out => by
  unfold fHold
  have h1 := fHold_len L xs out
  have h2 := fHold_len L xs (out ++ [x])
  simp only [List.length_append,List.length_cons,List.length_nil] at h1 h2 ⊢
  cases (decide (0 ≤ fPeerAt x 0 L) && (!(out.any fun y => decide (y = x)) && decide ((out.length : Int) < 3)))
  ·simp only [cond_false]; omega
  ·simp only [cond_true]; omega
theorem has_hold {N : Nat} (hN : Big N) (L : List Int) (x : Int) (hL : L.length ≤ 2097152) : x_f83 N L x = some (L.any fun y => decide (y = x)) := by
 have hN' : 1099511627776 ≤ N := hN
 unfold x_f83
 refine iter_row L (fun i => (L,x,(i : Int))) (fun i l => some (l.any fun y => decide (y = x))) (fun i hi rec_ h => ?_) (fun rec_ => ?_) (by omega)
 ·show (bif _ then _ else _) = _
  rw [lt_rows L hi,le_rows i,getD_at L hi,w64_up (Nat.le_refl i) (by omega),h,List.any_cons]
  cases decide (L[i] = x) <;> rfl
 ·show (bif _ then _ else _) = _
  rw [dF (Int.lt_irrefl _)]; rfl
def fHolders (L : List (Den tPeer)) (n : Int) : List Int :=
 bif decide (fPeerAt n 0 L < 0) then [] else fHold L [n] (L.getD (fPeerAt n 0 L).toNat (dft tPeer)).2.2.2.1
theorem spec_HoldersOf {N : Nat} (hN : Big N) (L : List (Den tPeer)) (hL : okz tRing L) (n : Int) : x_f62 N L n = some (fHolders L n) := by
 have hl := hL.1
 have hN' : 1099511627776 ≤ N := hN
 unfold x_f62 fHolders
 rw [spec_PeerAt hN L hL,Option.bind_some]
 rcases fPeerAt_or n L 0 with h | ⟨j,h1,h2,h3⟩
 ·rw [h]; rfl
 ·rw [h3]
  have hj : j < L.length := by omega
  have gj : L.getD j (dft tPeer) = L[j] := by rw [← getD_at L hj,Int.toNat_natCast]
  rw [dF (by omega),getD_at L hj]
  have hp : okz tPeer L[j] := hL.2 _ (List.getElem_mem hj)
  obtain ⟨F,hF⟩ : ∃ F : List Int,F = L[j].2.2.2.1 := ⟨_,rfl⟩
  have hF2 : F.length ≤ 1048576 := by rw [hF]; exact hp.2.2.2.1.1
  rw [← hF]
  have key : ∀ (R pre out : List Int) (M : Nat),F = pre ++ R → R.length < M → out.length ≤ pre.length + 1 →
    iter (B_f62_L0 N (fun x4 => some x4) (fun ρ5 => some (ρ5))) M (L,(j : Int),out,(pre.length : Int)) = some (fHold L out R) := by
   intro R
   induction R with
   | nil =>
    intro pre out M ho hM hn
    obtain ⟨M,rfl⟩ : ∃ K,M = K + 1 := ⟨M - 1,by omega⟩
    show (bif _ then _ else _) = _
    simp only [lt_rows L hj,le_rows j,Bool.and_self,cond_true,getD_at L hj,← hF]
    rw [dF (by rw [ho]; simp)]; rfl
   | cons x R ih =>
    intro pre out M ho hM hn
    obtain ⟨M,rfl⟩ : ∃ K,M = K + 1 := ⟨M - 1,by omega⟩
    simp only [List.length_cons] at hM
    have hpo : pre.length < F.length := by rw [ho]; simp
    have g1 : F.getD pre.length 0 = x := by rw [ho]; exact gD0 _ _ _ _
    have ho' : F = (pre ++ [x]) ++ R := by rw [ho]; simp
    have ih' : ∀ o : List Int,o.length ≤ pre.length + 2 → _ := fun o h => ih (pre ++ [x]) o M ho' (by omega) (by simp; omega)
    rw [List.length_append] at ih'
    show (bif _ then _ else _) = _
    simp only [lt_rows L hj,le_rows j,Bool.and_self,cond_true,Int.toNat_natCast,gj,← hF,lt_rows F hpo,le_rows pre.length,Int.toNat_natCast,g1,spec_PeerAt hN L hL,has_hold hN out x (by omega),Option.bind_some,w64_up (Nat.le_refl pre.length) (by omega : pre.length ≤ 140737488355328)]
    unfold fHold
    by_cases h3 : (out.length : Int) < 3
    ·rw [dT h3,dT (p := (out.length + [x].length) * 8 ≤ 140737488355328) (by simp only [List.length_cons,List.length_nil]; omega)]
     simp only [cond_true,Bool.and_true]
     cases decide (0 ≤ fPeerAt x 0 L)
     ·exact ih' out (by omega)
     ·cases out.any fun y => decide (y = x)
      ·exact ih' (out ++ [x]) (by simp; omega)
      ·exact ih' out (by omega)
    ·rw [dF h3]
     simp only [cond_false,Bool.and_false]
     rw [fHold_full L R out h3]
  exact key F [] [n] N rfl (by omega) (by simp)
end Go.Proofs.YtfmlmdnaeonobaaGreat.C
namespace Go.Proofs.YtfmlmdnaeonobaaGreat.C
open Go Go.Proofs.YtfmlmdnaeonobaaGreat.Nx Go.RowKit
set_option linter.unusedVariables false
set_option linter.unusedSimpArgs false
end Go.Proofs.YtfmlmdnaeonobaaGreat.C
namespace Go.Proofs.YtfmlmdnaeonobaaGreat.C
open Go Go.Proofs.YtfmlmdnaeonobaaGreat.Nx Go.RowKit
set_option linter.unusedVariables false
set_option linter.unusedSimpArgs false
theorem cc_or {α : Type} (c d : Bool) (x y : α) : (bif c then x else bif d then x else y) = bif c || d then x else y := by cases c <;> cases d <;> rfl
theorem cc_same {α : Type} (c : Bool) (x : α) : (bif c then x else x) = x := by cases c <;> rfl
theorem cc_pair {α β : Type} (c : Bool) (x y : α) (z : β) : (bif c then some (x,z) else some (y,z)) = some (bif c then x else y,z) := by cases c <;> rfl
def fBehind (L : List (Den tPeer)) (n but : Int) : List Int :=
 ((n :: (L.getD (fPeerAt n 0 L).toNat (dft tPeer)).2.2.2.1).filter fun x => !decide (x = but)).take 3
theorem spec_Not {N : Nat} (hN : Big N) (L : List Int) (hL : L.length ≤ 2097152) (n : Int) : x_f93 N L n = some (L.filter fun x => !decide (x = n)) := by
 have hN' : 1099511627776 ≤ N := hN
 unfold x_f93
 have key := iter_to (B := B_f93_L0 N (fun x1 => some x1) (fun ρ2 => some (ρ2))) (A := {l : List Int // l.length ≤ 2097152}) (fun i a => (L,n,a.1,(i : Int))) (fun i a r => a.1.length ≤ i → r = some (a.1 ++ (L.drop i).filter fun x => !decide (x = n))) L.length
  (fun i a rec_ hi h ha => by
   show (bif _ then _ else _) = _
   rw [lt_rows _ hi,le_rows i,getD_at _ hi,w64_up (Nat.le_refl i) (by omega),drop_cons hi,List.filter_cons]
   simp only [Bool.and_self,cond_true]
   cases hd : decide (L[i] = n) with
   | true =>
    have := h a (by omega)
    simpa using this
   | false =>
    have := h ⟨a.1 ++ [L[i]],by simp only [List.length_append,List.length_cons,List.length_nil]; omega⟩ (by simp only [List.length_append,List.length_cons,List.length_nil]; omega)
    rw [dT (p := (a.1.length + [L[i]].length) * 8 ≤ 140737488355328) (by simp only [List.length_cons,List.length_nil]; omega)]
    simpa using this)
  (fun a rec_ ha => by
   show (bif _ then _ else _) = _
   rw [dF (Int.lt_irrefl _),List.drop_length]; simp)
  N (by omega) ⟨[],by simp⟩ (by simp)
 simpa using key
theorem spec_Few (N : Nat) (L : List Int) (hL : L.length ≤ 2097152) : x_f88 N L = some (L.take 3) := by
 unfold x_f88
 simp only [List.length_nil,List.nil_append]
 by_cases h : 3 < L.length
 ·have e : inB (0:Int) (3:Int) (L.length : Int) = true := by unfold inB; simp; omega
  rw [dT (by omega),e]
  simp only [cond_true]
  have e2 : ((L.drop (0:Int).toNat).take ((3:Int).toNat - (0:Int).toNat)) = L.take 3 := rfl
  have h3 : (L.take 3).length ≤ 3 := by rw [List.length_take]; omega
  rw [e2,dT (p := (0 + (L.take 3).length) * 8 ≤ 140737488355328) (by omega)]; rfl
 ·have e : L.take 3 = L := List.take_of_length_le (by omega)
  rw [dF (by omega),dT (p := (0 + L.length) * 8 ≤ 140737488355328) (by omega),e]; rfl
theorem spec_Behind {N : Nat} (hN : Big N) (L : List (Den tPeer)) (hL : okz tRing L) (n but : Int) (hn : 0 ≤ fPeerAt n 0 L) : x_f92 N L n but = some (fBehind L n but) := by
 have hl := hL.1
 unfold x_f92
 rw [agree_self,spec_PeerAt hN L hL,Option.bind_some]
 rcases fPeerAt_or n L 0 with h | ⟨j,h1,h2,h3⟩
 ·omega
 ·have hj : j < L.length := by omega
  have hp : okz tPeer L[j] := hL.2 _ (List.getElem_mem hj)
  have hb : (L[j]).2.2.2.1.length ≤ 1048576 := hp.2.2.2.1.1
  rw [h3,lt_rows _ hj,le_rows j,getD_at _ hj,dT (p := ([n].length + (L[j]).2.2.2.1.length) * 8 ≤ 140737488355328) (by simp only [List.length_cons,List.length_nil]; omega)]
  simp only [Bool.and_self,cond_true]
  rw [spec_Not hN _ (by simp only [List.length_append,List.length_cons,List.length_nil]; omega),Option.bind_some,spec_Few N _ (by have := List.length_filter_le (fun x => !decide (x = but)) ([n] ++ (L[j]).2.2.2.1); simp only [List.length_append,List.length_cons,List.length_nil] at this; omega)]
  unfold fBehind
  rw [h3,getD_at _ hj]; rfl
def setB (p : Den tPeer) (l : List Int) : Den tPeer := (p.1,p.2.1,p.2.2.1,l,p.2.2.2.2)
def setA (p : Den tPeer) (a : Int) : Den tPeer := (p.1,p.2.1,a,p.2.2.2)
theorem fNext_at (L : List (Den tPeer)) : ∀ l : List Int,fNext L l = -1 ∨ 0 ≤ fPeerAt (fNext L l) 0 L
 | [] => .inl rfl
 | x :: xs => by
  unfold fNext
  cases h : decide (0 ≤ fPeerAt x 0 L) with
  | true => exact .inr (of_decide_eq_true h)
  | false => exact fNext_at L xs
def fSettle (L : List (Den tPeer)) (id : Int) : List (Den tPeer) × Bool :=
 bif decide (fPeerAt id 0 L < 0) then (L,false) else bif decide (fNextOf L id < 0) then (L,false) else
  let i := (fPeerAt id 0 L).toNat
  let n := fNextOf L id
  let p := (L.getD (fPeerAt n 0 L).toNat (dft tPeer)).2.2.1
  let n' := bif decide (0 ≤ fPeerAt p 0 L) && (!decide (p = n) && (!decide (p = id) && betw id p n)) then p else n
  let k := (fPeerAt n' 0 L).toNat
  let a := (L.getD k (dft tPeer)).2.2.1
  let L1 := L.set i (setB (L.getD i (dft tPeer)) (fBehind L n' id))
  (bif decide (fPeerAt a 0 L < 0) || betw a id n' then L1.set k (setA (L1.getD k (dft tPeer)) id) else L1,true)
theorem spec_Settle {N : Nat} (hN : Big N) (L : List (Den tPeer)) (hL : okz tRing L) (id : Int) : x_f74 N L id = some (fSettle L id) := by
 have hl := hL.1
 unfold x_f74 fSettle
 simp only [spec_Copy hN L hL,spec_PeerAt hN L hL,spec_NextOf hN L hL,Option.bind_some,spec_Betw]
 rcases fPeerAt_or id L 0 with h | ⟨i,_,hi,h3⟩
 ·rw [h]; rfl
 rw [h3,dF (p := (i : Int) < 0) (by omega),cond_false,cond_false,Int.toNat_natCast]
 have hi : i < L.length := by omega
 by_cases hn : fNextOf L id < 0
 ·rw [dT hn]; rfl
 rw [dF hn,cond_false,cond_false]
 have hnx : 0 ≤ fPeerAt (fNextOf L id) 0 L := by
  unfold fNextOf at hn ⊢
  rw [h3,dF (p := (i : Int) < 0) (by omega)] at hn ⊢
  simp only [cond_false] at hn ⊢
  rcases fNext_at L (L.getD ((i : Int)).toNat (dft tPeer)).2.2.2.1 with h | h
  ·omega
  ·exact h
 obtain ⟨n,en⟩ : ∃ n,n = fNextOf L id := ⟨_,rfl⟩
 rw [← en] at hnx ⊢
 rcases fPeerAt_or n L 0 with h | ⟨j,_,hj,hj3⟩
 ·omega
 have hj : j < L.length := by omega
 have dj : (decide (0 ≤ (j : Int)) && decide ((j : Int) < (L.length : Int))) = true := in_rows L hj
 have di : (decide (0 ≤ (i : Int)) && decide ((i : Int) < (L.length : Int))) = true := in_rows L hi
 have sBn := spec_Behind hN L hL n id hnx
 have lj := lt_rows L hj
 have li := lt_rows L hi
 have lst : ∀ (l : List (Den tPeer)) (x : Den tPeer) (k : Nat),(l.set k x).length = l.length := fun l x k => List.length_set ..
 have set1 : ∀ F : List Int,L.set i ((L.getD i (dft tPeer)).1,(L.getD i (dft tPeer)).2.1,(L.getD i (dft tPeer)).2.2.1,F,(L.getD i (dft tPeer)).2.2.2.2) = L.set i (setB (L.getD i (dft tPeer)) F) := fun _ => rfl
 have set2 : ∀ (l : List (Den tPeer)) (k : Nat),l.set k ((l.getD k (dft tPeer)).1,(l.getD k (dft tPeer)).2.1,id,(l.getD k (dft tPeer)).2.2.2) = l.set k (setA (l.getD k (dft tPeer)) id) := fun _ _ => rfl
 generalize hp : (L.getD j (dft tPeer)).2.2.1 = p at *
 by_cases h1 : 0 ≤ fPeerAt p 0 L
 ·rcases fPeerAt_or p L 0 with h | ⟨k,_,hk,hk3⟩
  ·omega
  have hk : k < L.length := by omega
  have lk := lt_rows L hk
  have sBp := spec_Behind hN L hL p id h1
  by_cases h2 : p = n
  ·simp only [hj3,hp,le_rows,lj,li,lk,h2,sBn,Option.bind_some,Int.toNat_natCast,Bool.and_self,Bool.and_true,Bool.true_and,cond_true,cond_false,decide_true,Bool.not_true,Bool.false_and,Bool.and_false,lst,set1,set2,cc_or,cc_same,cc_pair]
  ·by_cases h4 : p = id
   ·have h4' : ¬ id = n := fun e => h2 (h4.trans e)
    simp only [hj3,hk3,hp,le_rows,lj,li,lk,dF h2,dF h4',h4,sBn,Option.bind_some,Int.toNat_natCast,Bool.and_self,Bool.and_true,Bool.true_and,cond_true,cond_false,decide_true,Bool.not_true,Bool.not_false,Bool.false_and,Bool.and_false,lst,set1,set2,cc_or,cc_same,cc_pair]
   ·cases h5 : betw id p n with
    | true => simp only [hj3,hk3,hp,le_rows,lj,li,lk,dF h2,dF h4,sBn,sBp,h5,Option.bind_some,Int.toNat_natCast,Bool.and_self,Bool.and_true,Bool.true_and,cond_true,cond_false,decide_true,Bool.not_true,Bool.not_false,Bool.false_and,Bool.and_false,lst,set1,set2,cc_or,cc_same,cc_pair]
    | false => simp only [hj3,hk3,hp,le_rows,lj,li,lk,dF h2,dF h4,sBn,sBp,h5,Option.bind_some,Int.toNat_natCast,Bool.and_self,Bool.and_true,Bool.true_and,cond_true,cond_false,decide_true,Bool.not_true,Bool.not_false,Bool.false_and,Bool.and_false,lst,set1,set2,cc_or,cc_same,cc_pair]
 ·simp only [hj3,hp,le_rows,lj,li,dF h1,sBn,Option.bind_some,Int.toNat_natCast,Bool.and_self,Bool.and_true,Bool.true_and,cond_true,cond_false,decide_true,Bool.not_true,Bool.not_false,Bool.false_and,Bool.and_false,lst,set1,set2,cc_or,cc_same,cc_pair]
theorem okz_at {L : List (Den tPeer)} (h : okz (.sl tPeer) L) (i : Nat) : okz tPeer (L.getD i (dft tPeer)) := by
 rw [List.getD_eq_getElem?_getD]
 cases hi : L[i]? with
 | some x => exact h.2 x (List.mem_of_getElem? hi)
 | none => simp [okz,dft]
end Go.Proofs.YtfmlmdnaeonobaaGreat.C
namespace Go.Proofs.YtfmlmdnaeonobaaGreat.C
open Go Go.Proofs.YtfmlmdnaeonobaaGreat.Nx Go.RowKit
set_option linter.unusedVariables false
set_option linter.unusedSimpArgs false
def fOwn : List Int → List Int → List Int
 | out,[] => out
 | out,x :: xs => fOwn (bif (decide (0 ≤ x) && decide (x ≤ 255)) && (!(out.any fun y => decide (y = x)) && decide ((out.length : Int) < 8)) then out ++ [x] else out) xs
theorem fOwn_step (out : List Int) (x : Int) (b : Bool) (h : out.length ≤ 8) : (bif b && (!(out.any fun y => decide (y = x)) && decide ((out.length : Int) < 8)) then out ++ [x] else out).length ≤ 8 := by
 cases hb : (b && (!(out.any fun y => decide (y = x)) && decide ((out.length : Int) < 8))) with
 | false => exact h
 | true =>
  simp only [Bool.and_eq_true,decide_eq_true_eq] at hb
  simp only [cond_true,List.length_append,List.length_cons,List.length_nil]; omega
theorem fOwn_len : ∀ (L out : List Int),out.length ≤ 8 → (fOwn out L).length ≤ 8
 | [],out,h => h
 | x :: xs,out,h => fOwn_len xs _ (fOwn_step out x _ h)
theorem fOwn_nodup : ∀ (L out : List Int),out.Nodup → (fOwn out L).Nodup
 | [],out,h => h
 | x :: xs,out,h => by
  refine fOwn_nodup xs _ ?_
  cases hb : ((decide (0 ≤ x) && decide (x ≤ 255)) && (!(out.any fun y => decide (y = x)) && decide ((out.length : Int) < 8))) with
  | false => exact h
  | true =>
   simp only [Bool.and_eq_true,Bool.not_eq_true',List.any_eq_false,decide_eq_true_eq] at hb
   simp only [cond_true]
   rw [List.nodup_append]
   refine ⟨h,List.nodup_cons.2 ⟨by simp,List.nodup_nil⟩,fun a ha b hb' e => ?_⟩
   simp only [List.mem_singleton] at hb'
   exact hb.2.1 a ha (e.trans hb')
theorem spec_In (N : Nat) (x : Int) : x_f79 N x 0 255 = some (decide (0 ≤ x) && decide (x ≤ 255)) := by
 unfold x_f79; cases decide ((0:Int) ≤ x) <;> rfl
theorem impl_Place (N : Nat) (x : Int) : x_f19 N x = some (decide (0 ≤ x) && decide (x ≤ 255)) := by
 unfold x_f19 x_f18; cases decide ((0:Int) ≤ x) <;> rfl
theorem spec_own {N : Nat} (hN : Big N) {kx kr} (L : List Int) (hL : L.length ≤ 1048576) : iter (B_f72_L0 (Ω := Den tRing) N kx kr) N (L,[],[],(0:Int)) = kx ([],fOwn [] L) := by
 have hN' := n40 hN
 have key := iter_rowA (B := B_f72_L0 (Ω := Den tRing) N kx kr) (A := {l : List Int // l.length ≤ 8}) L (fun i a => (L,[],a.1,(i : Int))) (fun i a l => kx ([],fOwn a.1 l))
  (fun i hi a rec_ h => by
   show (bif _ then _ else _) = _
   have ha := a.2
   rw [lt_rows _ hi,le_rows i,getD_at _ hi,w64_up (Nat.le_refl i) (by omega),spec_In,Option.bind_some,has_ord hN a.1 _ (by omega),Option.bind_some]
   simp only [Bool.and_self,cond_true]
   unfold fOwn
   have := h ⟨_,fOwn_step a.1 L[i] (decide (0 ≤ L[i]) && decide (L[i] ≤ 255)) ha⟩
   simp only at this
   rw [← this]
   cases (decide (0 ≤ L[i]) && decide (L[i] ≤ 255))
   ·rfl
   ·cases (a.1.any fun y => decide (y = L[i]))
    ·cases h8 : decide ((a.1.length : Int) < 8)
     ·rfl
     ·have h9 := of_decide_eq_true h8
      simp only [Bool.not_false,cond_true,Bool.and_self]
      rw [dT (p := (a.1.length + [L[i]].length) * 8 ≤ 140737488355328) (by simp only [List.length_cons,List.length_nil]; omega)]
      rfl
    ·rfl)
  (fun a rec_ => by
   show (bif _ then _ else _) = _
   rw [at_end]; rfl)
  (N := N) (by omega) ⟨[],by simp⟩
 exact key
theorem impl_own {N : Nat} (hN : Big N) {kx kr} (L : List Int) (hL : L.length ≤ 1048576) : iter (B_f12_L0 (Ω := Den tRing) N kx kr) N ([],[],L,(L.length : Int),(0:Int)) = kx ([],fOwn [] L) := by
 have hN' := n40 hN
 have key := iter_rowA (B := B_f12_L0 (Ω := Den tRing) N kx kr) (A := {l : List Int // l.length ≤ 8}) L (fun i a => ([],a.1,L,(L.length : Int),(i : Int))) (fun i a l => kx ([],fOwn a.1 l))
  (fun i hi a rec_ h => by
   show (bif _ then _ else _) = _
   have ha := a.2
   rw [lt_rows _ hi,le_rows i,getD_at _ hi,w64_up (Nat.le_refl i) (by omega),impl_Place,Option.bind_some,contains_ord hN a.1 _ (by omega),Option.bind_some]
   simp only [Bool.and_self,cond_true]
   unfold fOwn
   have := h ⟨_,fOwn_step a.1 L[i] (decide (0 ≤ L[i]) && decide (L[i] ≤ 255)) ha⟩
   simp only at this
   rw [← this]
   cases (decide (0 ≤ L[i]) && decide (L[i] ≤ 255))
   ·rfl
   ·cases (a.1.any fun y => decide (y = L[i]))
    ·cases h8 : decide ((a.1.length : Int) < 8)
     ·rfl
     ·have h9 := of_decide_eq_true h8
      simp only [Bool.not_false,cond_true,Bool.and_self]
      rw [dT (p := (a.1.length + [L[i]].length) * 8 ≤ 140737488355328) (by simp only [List.length_cons,List.length_nil]; omega)]
      rfl
    ·rfl)
  (fun a rec_ => by
   show (bif _ then _ else _) = _
   rw [at_end]; rfl)
  (N := N) (by omega) ⟨[],by simp⟩
 exact key
def fBest (key : Int) (L : List Int) : Nat → Int → List Int → Int
 | _,b,[] => b
 | i,b,x :: xs => fBest key L (i + 1) (bif decide (b < 0) then (i : Int) else bif decide (aheadI key x < aheadI key (L.getD b.toNat 0)) then (i : Int) else b) xs
def fOwner (L : List Int) (key : Int) : Int :=
 bif decide (fBest key L 0 (-1) L < 0) then -1 else L.getD (fBest key L 0 (-1) L).toNat 0
theorem spec_OwnerOf {N : Nat} (hN : Big N) (L : List Int) (hL : L.length ≤ 1048576) (key : Int) : x_f67 N L key = some (fOwner L key) := by
 have hN' := n40 hN
 unfold x_f67
 have key := iter_rowA (B := B_f67_L0 N (fun (x3,x4) => (bif (decide (x4 < (0:Int))) then some (-1:Int) else (bif (decide (0 ≤ x4) && decide (x4 < x3.length)) then some (x3.getD x4.toNat (0:Int)) else none))) (fun ρ5 => some (ρ5))) (A := {b : Int // b < 0 ∨ b < (L.length : Int)}) L (fun i a => (L,key,a.1,(i : Int))) (fun i a l => some (bif decide (fBest key L i a.1 l < 0) then -1 else L.getD (fBest key L i a.1 l).toNat 0))
  (fun i hi a rec_ h => by
   show (bif _ then _ else _) = _
   have ha := a.2
   rw [lt_rows _ hi,le_rows i,getD_at _ hi,w64_up (Nat.le_refl i) (by omega),spec_Ahead_ord,Option.bind_some,spec_Ahead_ord,Option.bind_some]
   simp only [Bool.and_self,cond_true]
   unfold fBest
   cases hb : decide (a.1 < 0)
   ·have hb' := of_decide_eq_false hb
    rw [dT (p := 0 ≤ a.1) (by omega),dT (p := a.1 < (L.length : Int)) (by omega)]
    simp only [Bool.and_self,cond_true,cond_false]
    cases decide (aheadI key L[i] < aheadI key (L.getD a.1.toNat 0))
    ·exact h a
    ·exact h ⟨(i : Int),.inr (by omega)⟩
   ·exact h ⟨(i : Int),.inr (by omega)⟩)
  (fun a rec_ => by
   show (bif _ then _ else _) = _
   have ha := a.2
   rw [at_end]
   simp only [cond_false]
   unfold fBest
   cases hb : decide (a.1 < 0)
   ·have hb' := of_decide_eq_false hb
    rw [dT (p := 0 ≤ a.1) (by omega),dT (p := a.1 < (L.length : Int)) (by omega)]
    rfl
   ·rfl)
  (N := N) (by omega) ⟨-1,.inl (by omega)⟩
 exact key
theorem impl_OwnerOf {N : Nat} (hN : Big N) (L : List Int) (hL : L.length ≤ 1048576) (key : Int) : x_f7 N L key = some (fOwner L key) := by
 have hN' := n40 hN
 unfold x_f7
 have key := iter_rowA (B := B_f7_L0 N (fun (x3,x4) => (bif (decide (x4 < (0:Int))) then some (-1:Int) else (bif (decide (0 ≤ x4) && decide (x4 < x3.length)) then some (x3.getD x4.toNat (0:Int)) else none))) (fun ρ5 => some (ρ5))) (A := {b : Int // b < 0 ∨ b < (L.length : Int)}) L (fun i a => (L,key,a.1,L,(L.length : Int),(i : Int))) (fun i a l => some (bif decide (fBest key L i a.1 l < 0) then -1 else L.getD (fBest key L i a.1 l).toNat 0))
  (fun i hi a rec_ h => by
   show (bif _ then _ else _) = _
   have ha := a.2
   rw [lt_rows _ hi,le_rows i,getD_at _ hi,w64_up (Nat.le_refl i) (by omega),impl_Ahead_ord,Option.bind_some,impl_Ahead_ord,Option.bind_some]
   simp only [Bool.and_self,cond_true]
   unfold fBest
   cases hb : decide (a.1 < 0)
   ·have hb' := of_decide_eq_false hb
    rw [dT (p := 0 ≤ a.1) (by omega),dT (p := a.1 < (L.length : Int)) (by omega)]
    simp only [Bool.and_self,cond_true,cond_false]
    cases decide (aheadI key L[i] < aheadI key (L.getD a.1.toNat 0))
    ·exact h a
    ·exact h ⟨(i : Int),.inr (by omega)⟩
   ·exact h ⟨(i : Int),.inr (by omega)⟩)
  (fun a rec_ => by
   show (bif _ then _ else _) = _
   have ha := a.2
   rw [at_end]
   simp only [cond_false]
   unfold fBest
   cases hb : decide (a.1 < 0)
   ·have hb' := of_decide_eq_false hb
    rw [dT (p := 0 ≤ a.1) (by omega),dT (p := a.1 < (L.length : Int)) (by omega)]
    rfl
   ·rfl)
  (N := N) (by omega) ⟨-1,.inl (by omega)⟩
 exact key
def fng (base : List Int) (x : Int) : Nat → Nat → List Int
 | _,0 => []
 | i,n + 1 => fOwner base (wrap64 (x + shlI .i64 (1:Int) (i : Int))) :: fng base x (i + 1) n
theorem fng_len (base : List Int) (x : Int) : ∀ n i,(fng base x i n).length = n
 | 0,i => rfl
 | n + 1,i => by unfold fng; rw [List.length_cons,fng_len base x n]
theorem spec_fng {N : Nat} (hN : Big N) {kx kr} (r : Den tRing) (m base : List Int) (hb : base.length ≤ 1048576) (s6 : Den tRing) {i : Nat} (hi : i < m.length) (p : Den tPeer) (hp : p.2.2.2.2.1 = []) :
  iter (B_f72_L4 (Ω := Den tRing) N kx kr) N (r,m,base,s6,(i : Int),p,(0:Int)) = kx (r,m,base,s6,(i : Int),(p.1,p.2.1,p.2.2.1,p.2.2.2.1,fng base m[i] 0 8,p.2.2.2.2.2)) := by
 have hN' := n40 hN
 obtain ⟨n,hn⟩ : ∃ n : Nat,n = 8 := ⟨8,rfl⟩
 have key := iter_to (B := B_f72_L4 (Ω := Den tRing) N kx kr) (A := List Int) (fun k a => (r,m,base,s6,(i : Int),(p.1,p.2.1,p.2.2.1,p.2.2.2.1,a,p.2.2.2.2.2),(k : Int))) (fun k a q => a.length = k → q = kx (r,m,base,s6,(i : Int),(p.1,p.2.1,p.2.2.1,p.2.2.2.1,a ++ fng base m[i] k (n - k),p.2.2.2.2.2))) n
  (fun k a rec_ hk h ha => by
   show (bif _ then _ else _) = _
   have e : (k : Int) % 18446744073709551616 = (k : Int) := by omega
   rw [dT (p := (k : Int) < 8) (by omega),lt_rows _ hi,le_rows i,e,le_rows k,getD_at _ hi,w64_up (Nat.le_refl k) (by omega),spec_OwnerOf hN base hb,Option.bind_some]
   simp only [Bool.and_self,cond_true]
   rw [dT (p := (a.length + [fOwner base (wrap64 (m[i] + shlI .i64 (1:Int) (k : Int)))].length) * 8 ≤ 140737488355328) (by simp only [List.length_cons,List.length_nil]; omega)]
   simp only [cond_true]
   rw [h (a ++ [fOwner base (wrap64 (m[i] + shlI .i64 (1:Int) (k : Int)))]) (by simp [ha])]
   have e8 : n - k = (n - (k + 1)) + 1 := by omega
   rw [e8]
   simp only [fng,List.append_assoc,List.singleton_append])
  (fun a rec_ ha => by
   show (bif _ then _ else _) = _
   rw [dF (p := (n : Int) < 8) (by omega),Nat.sub_self]; simp [fng])
  N (by omega) []
 have := key rfl
 subst hn
 obtain ⟨p1,p2,p3,p4,p5,p6⟩ := p
 simp only at hp
 subst hp
 exact this
theorem impl_fng {N : Nat} (hN : Big N) (base : List Int) (hb : base.length ≤ 1048576) (x : Int) (q p : Den tPeer) (hp : p.2.2.2.2.1 = []) :
  iter (B_f17_L0 N (fun (x4,x5) => some x5) (fun ρ6 => some (ρ6))) N (base,x,q,p,(0:Int)) = some (p.1,p.2.1,p.2.2.1,p.2.2.2.1,fng base x 0 8,p.2.2.2.2.2) := by
 have hN' := n40 hN
 obtain ⟨n,hn⟩ : ∃ n : Nat,n = 8 := ⟨8,rfl⟩
 have key := iter_to (B := B_f17_L0 N (fun (x4,x5) => some x5) (fun ρ6 => some (ρ6))) (A := List Int) (fun k a => (base,x,q,(p.1,p.2.1,p.2.2.1,p.2.2.2.1,a,p.2.2.2.2.2),(k : Int))) (fun k a r => a.length = k → r = some (p.1,p.2.1,p.2.2.1,p.2.2.2.1,a ++ fng base x k (n - k),p.2.2.2.2.2)) n
  (fun k a rec_ hk h ha => by
   show (bif _ then _ else _) = _
   have ef : x_f16 N x (k : Int) = some (wrap64 (x + shlI .i64 (1:Int) (k : Int))) := by unfold x_f16; rw [le_rows k]; rfl
   rw [dT (p := (k : Int) < 8) (by omega),ef,Option.bind_some,w64_up (Nat.le_refl k) (by omega),impl_OwnerOf hN base hb,Option.bind_some]
   simp only [cond_true]
   rw [dT (p := (a.length + [fOwner base (wrap64 (x + shlI .i64 (1:Int) (k : Int)))].length) * 8 ≤ 140737488355328) (by simp only [List.length_cons,List.length_nil]; omega)]
   simp only [cond_true]
   rw [h (a ++ [fOwner base (wrap64 (x + shlI .i64 (1:Int) (k : Int)))]) (by simp [ha])]
   have e8 : n - k = (n - (k + 1)) + 1 := by omega
   rw [e8]
   simp only [fng,List.append_assoc,List.singleton_append])
  (fun a rec_ ha => by
   show (bif _ then _ else _) = _
   rw [dF (p := (n : Int) < 8) (by omega),Nat.sub_self]; simp [fng])
  N (by omega) []
 have := key rfl
 subst hn
 obtain ⟨p1,p2,p3,p4,p5,p6⟩ := p
 simp only at hp
 subst hp
 exact this
theorem ordS_more (lt : Int → Int → Bool) (a : Int) : ∀ (L o : List Int),o.length ≤ (ordS lt a o L).length
 | [],o => Nat.le_refl _
 | x :: L,o => by
  unfold ordS
  have h1 := ordS_more lt a L o
  have h2 := ordS_more lt a L (insL lt x o)
  rw [insL_len] at h2
  cases decide (x = a)
  ·cases o.any fun y => decide (y = x)
   ·simp only [cond_false]; omega
   ·exact h1
  ·exact h1
theorem ordS_pos (lt : Int → Int → Bool) (a : Int) : ∀ (L o : List Int),(∃ x ∈ L,x ≠ a) → 1 ≤ (ordS lt a o L).length
 | [],o,⟨x,hx,_⟩ => by cases hx
 | x :: L,o,⟨y,hy,hn⟩ => by
  unfold ordS
  by_cases hx : x = a
  ·rw [dT hx]
   rcases List.mem_cons.1 hy with rfl | hy
   ·exact absurd hx hn
   ·exact ordS_pos lt a L o ⟨y,hy,hn⟩
  ·rw [dF hx]
   simp only [cond_false]
   cases ho : o.any fun y => decide (y = x) with
   | true =>
    have : 1 ≤ o.length := by cases o with
     | nil => cases ho
     | cons => simp
    exact Nat.le_trans this (ordS_more lt a L o)
   | false =>
    have := ordS_more lt a L (insL lt x o)
    rw [insL_len] at this
    simp only [cond_false]; omega
theorem ordS_lenR (lt : Int → Int → Bool) (a : Int) : ∀ (L o : List Int),(ordS lt a o L).length ≤ o.length + L.length
 | [],o => Nat.le_refl _
 | x :: L,o => by
  unfold ordS
  have h1 := ordS_lenR lt a L o
  have h2 := ordS_lenR lt a L (insL lt x o)
  rw [insL_len] at h2
  simp only [List.length_cons] at h1 h2 ⊢
  cases decide (x = a)
  ·cases o.any fun y => decide (y = x)
   ·simp only [cond_false]; omega
   ·simp only [cond_false,cond_true]; omega
  ·simp only [cond_true]; omega
def fIdeal (base : List Int) (x : Int) : Den tPeer :=
 (x,true,(ordS (aLt x) x [] base).getD ((ordS (aLt x) x [] base).length - 1) 0,(ordS (aLt x) x [] base).take 3,fng base x 0 8,[])
theorem w64_last {n : Nat} (h : 1 ≤ n) (hn : n ≤ 140737488355328) : wrap64 ((n : Int) - 1) = ((n - 1 : Nat) : Int) := by
 rw [w64 (by omega) (by omega)]; omega
theorem impl_ideal {N : Nat} (hB : Big N) (hN : 4398046511104 < N) (base : List Int) (hb : base.length ≤ 1048576) (x : Int) (hx : ∃ y ∈ base,y ≠ x) : x_f17 N base x = some (fIdeal base x) := by
 unfold x_f17 fIdeal
 have h1 := ordS_pos (aLt x) x base [] hx
 have h2 := ordS_lenR (aLt x) x base []
 simp only [List.length_nil] at h2
 rw [impl_OrderedFrom hN base hb,Option.bind_some]
 generalize ordS (aLt x) x [] base = o at h1 h2
 rw [dT (p := (0:Int) < (o.length : Int)) (by omega),w64_last h1 (by omega),le_rows,dT (p := ((o.length - 1 : Nat) : Int) < (o.length : Int)) (by omega)]
 have e : inB (0:Int) (if (o.length : Int) < (3:Int) then (o.length : Int) else (3:Int)) (o.length : Int) = true := by
  unfold inB; split <;> simp <;> omega
 have e2 : o.take ((if (o.length : Int) < (3:Int) then (o.length : Int) else (3:Int)).toNat - (0:Int).toNat) = o.take 3 := by
  split
  ·rw [List.take_of_length_le (by simp),List.take_of_length_le (by omega)]
  ·rfl
 rw [e,e2]
 simp only [cond_true,Bool.and_self,Int.toNat_natCast]
 rw [impl_fng hB base hb x _ _ rfl]
theorem few_R (N : Nat) (L : List Int) (hL : L.length ≤ 2097152) : x_f88 N L = some (L.take 3) := by
 unfold x_f88
 simp only [List.length_nil,List.nil_append]
 by_cases h : 3 < L.length
 ·have e : inB (0:Int) (3:Int) (L.length : Int) = true := by unfold inB; simp; omega
  rw [dT (by omega),e]
  simp only [cond_true]
  have e2 : ((L.drop (0:Int).toNat).take ((3:Int).toNat - (0:Int).toNat)) = L.take 3 := rfl
  have h3 : (L.take 3).length ≤ 3 := by rw [List.length_take]; omega
  rw [e2,dT (p := (0 + (L.take 3).length) * 8 ≤ 140737488355328) (by omega)]; rfl
 ·have e : L.take 3 = L := List.take_of_length_le (by omega)
  rw [dF (by omega),dT (p := (0 + L.length) * 8 ≤ 140737488355328) (by omega),e]; rfl
theorem fIdeal_ok (base : List Int) (x : Int) : okz tPeer (fIdeal base x) :=
 ⟨trivial,trivial,trivial,⟨by show ((ordS (aLt x) x [] base).take 3).length ≤ 1048576; rw [List.length_take]; omega,fun _ _ => trivial⟩,
  ⟨by show (fng base x 0 8).length ≤ 1048576; rw [fng_len]; omega,fun _ _ => trivial⟩,⟨by simp [fIdeal],fun _ h => by cases h⟩⟩
def fPs (base : List Int) : Nat → List Int → List (Den tPeer)
 | _,[] => []
 | i,x :: xs => (bif decide ((4:Int) ≤ (i : Int)) then (x,false,(0:Int),[],[],[]) else fIdeal base x) :: fPs base (i + 1) xs
theorem fPs_len (base : List Int) : ∀ l i,(fPs base i l).length = l.length
 | [],_ => rfl
 | x :: xs,i => by unfold fPs; simp only [List.length_cons,fPs_len base xs]
theorem fPs_ok (base : List Int) : ∀ l i,∀ y ∈ fPs base i l,okz tPeer y
 | [],_,y,h => by cases h
 | x :: xs,i,y,h => by
  unfold fPs at h
  rcases List.mem_cons.1 h with rfl | h
  ·cases decide ((4:Int) ≤ (i : Int))
   ·exact fIdeal_ok base x
   ·exact ⟨trivial,trivial,trivial,⟨by simp,fun _ h => by cases h⟩,⟨by simp,fun _ h => by cases h⟩,⟨by simp,fun _ h => by cases h⟩⟩
  ·exact fPs_ok base xs _ y h
def fRing (L : List Int) : List (Den tPeer) :=
 bif decide (((fOwn [] L).length : Int) < 4) then [] else fPs ((fOwn [] L).take 4) 0 (fOwn [] L)
theorem fRing_ok (L : List Int) : okz tRing (fRing L) := by
 unfold fRing
 cases decide (((fOwn [] L).length : Int) < 4)
 ·refine ⟨?_,fPs_ok _ _ _⟩
  show (fPs _ _ _).length ≤ _
  rw [fPs_len]
  have := fOwn_len L [] (by simp)
  omega
 ·exact ⟨by simp,fun _ h => by cases h⟩
theorem nd_ne {m : List Int} (hd : m.Nodup) {i j : Nat} (hi : i < m.length) (hj : j < m.length) (h : i < j) : m[i] ≠ m[j] := by
 rw [List.nodup_iff_pairwise_ne] at hd
 exact List.pairwise_iff_getElem.1 hd i j hi hj h
theorem other {m : List Int} (hd : m.Nodup) (h4 : 4 ≤ m.length) {i : Nat} (hi : i < m.length) : ∃ y ∈ m.take 4,y ≠ m[i] := by
 have hl : (m.take 4).length = 4 := by rw [List.length_take]; omega
 by_cases h0 : i = 0
 ·refine ⟨(m.take 4)[1],List.getElem_mem _,fun e => ?_⟩
  rw [List.getElem_take] at e
  exact nd_ne hd hi (by omega) (by omega) e.symm
 ·refine ⟨(m.take 4)[0],List.getElem_mem _,fun e => ?_⟩
  rw [List.getElem_take] at e
  exact nd_ne hd (by omega) hi (by omega) e
theorem spec_RingNew {N : Nat} (hN : Big N) (L : List Int) (hL : L.length ≤ 1048576) : x_f72 N L = some (fRing L) := by
 have hN' := n40 hN
 unfold x_f72
 rw [spec_own hN L hL]
 unfold fRing
 have hm := fOwn_len L [] (by simp)
 have hd := fOwn_nodup L [] List.nodup_nil
 generalize fOwn [] L = m at hm hd
 simp only
 cases h4 : decide ((m.length : Int) < 4) with
 | true => rfl
 | false =>
  have h4' := of_decide_eq_false h4
  have e : inB (0:Int) (4:Int) (m.length : Int) = true := by unfold inB; simp; omega
  rw [e]
  simp only [cond_true,cond_false]
  have e2 : ((m.drop ((0:Int).toNat)).take ((4:Int).toNat - (0:Int).toNat)) = m.take 4 := rfl
  rw [e2]
  have hb : (m.take 4).length ≤ 4 := by rw [List.length_take]; omega
  have key := iter_to (B := B_f72_L2 N (fun (x23,x24) => some x24) (fun ρ25 => some (ρ25))) (A := List (Den tPeer)) (fun i a => ([],m,m.take 4,a,(i : Int))) (fun i a q => a.length = i → q = some (a ++ fPs (m.take 4) i (m.drop i))) m.length
   (fun i a rec_ hi h ha => by
    have ho := other hd (by omega) hi
    show (bif _ then _ else _) = _
    rw [lt_rows _ hi,le_rows i,getD_at _ hi,w64_up (Nat.le_refl i) (by omega),drop_cons hi]
    simp only [Bool.and_self,cond_true]
    unfold fPs
    cases hc : decide ((4:Int) ≤ (i : Int)) with
    | true =>
     have hs := h (a ++ [(m[i],false,(0:Int),[],[],[])]) (by simp [ha])
     simp only [cond_true]
     rw [dT (p := _ * 96 ≤ 140737488355328) (by simp only [List.length_cons,List.length_nil]; omega)]
     simp only [cond_true]
     rw [hs]; simp
    | false =>
     have hc' := of_decide_eq_false hc
     have h1 := ordS_pos (aLt m[i]) m[i] (m.take 4) [] ho
     have h2 := ordS_lenR (aLt m[i]) m[i] (m.take 4) []
     simp only [List.length_nil] at h2
     have hs := h (a ++ [fIdeal (m.take 4) m[i]]) (by simp [ha])
     simp only [cond_false]
     rw [spec_OrderedFrom hN _ (by omega),Option.bind_some,w64_last h1 (by omega),le_rows,dT (p := ((((ordS (aLt m[i]) m[i] [] (m.take 4)).length - 1 : Nat)) : Int) < ((ordS (aLt m[i]) m[i] [] (m.take 4)).length : Int)) (by omega)]
     simp only [Bool.and_self,cond_true,agree_self]
     rw [few_R N _ (by omega),Option.bind_some,spec_fng hN _ _ _ (by omega) _ hi _ rfl]
     simp only
     rw [dT (p := _ * 96 ≤ 140737488355328) (by simp only [List.length_cons,List.length_nil]; omega)]
     simp only [cond_true,Int.toNat_natCast]
     rw [w64_up (Nat.le_refl i) (by omega)]
     refine Eq.trans hs ?_
     simp)
   (fun a rec_ ha => by
    show (bif _ then _ else _) = _
    rw [at_end,List.drop_length]; simp [fPs])
   N (by omega) []
  exact key rfl
theorem impl_RingNew {N : Nat} (hN : Big N) (hM : 4398046511104 < N) (L : List Int) (hL : L.length ≤ 1048576) : x_f12 N L = some (fRing L) := by
 have hN' := n40 hN
 unfold x_f12
 rw [impl_own hN L hL]
 unfold fRing
 have hm := fOwn_len L [] (by simp)
 have hd := fOwn_nodup L [] List.nodup_nil
 generalize fOwn [] L = m at hm hd
 simp only
 cases h4 : decide ((m.length : Int) < 4) with
 | true => rfl
 | false =>
  have h4' := of_decide_eq_false h4
  have e : inB (0:Int) (4:Int) (m.length : Int) = true := by unfold inB; simp; omega
  simp only [cond_true,cond_false]
  have e2 : ((m.drop (0:Int).toNat).take ((4:Int).toNat - (0:Int).toNat)) = m.take 4 := rfl
  have hb : (m.take 4).length ≤ 4 := by rw [List.length_take]; omega
  have key := iter_to (B := B_f12_L2 N (fun (x7,x8) => some x8) (fun ρ9 => some (ρ9))) (A := List (Den tPeer)) (fun i a => ([],m,a,m,(m.length : Int),(i : Int))) (fun i a q => a.length = i → q = some (a ++ fPs (m.take 4) i (m.drop i))) m.length
   (fun i a rec_ hi h ha => by
    have ho := other hd (by omega) hi
    show (bif _ then _ else _) = _
    rw [lt_rows _ hi,le_rows i,getD_at _ hi,w64_up (Nat.le_refl i) (by omega),drop_cons hi,e,e2]
    simp only [Bool.and_self,cond_true]
    unfold fPs
    by_cases hc : (4:Int) ≤ (i : Int)
    ·have hs := h (a ++ [(m[i],false,(0:Int),[],[],[])]) (by simp [ha])
     rw [dF (p := (i : Int) < 4) (by omega),dT hc]
     simp only [cond_true,cond_false]
     rw [dT (p := _ * 96 ≤ 140737488355328) (by simp only [List.length_cons,List.length_nil]; omega)]
     simp only [cond_true]
     rw [hs]; simp
    ·have hs := h (a ++ [fIdeal (m.take 4) m[i]]) (by simp [ha])
     rw [dT (p := (i : Int) < 4) (by omega),dF hc,impl_ideal hN hM _ (by omega) _ ho]
     simp only [cond_true,cond_false,Option.bind_some]
     rw [impl_clonePeer hN _ (fIdeal_ok _ _),Option.bind_some,dT (p := _ * 96 ≤ 140737488355328) (by simp only [List.length_cons,List.length_nil]; omega)]
     simp only [cond_true]
     rw [hs]; simp)
   (fun a rec_ ha => by
    show (bif _ then _ else _) = _
    rw [at_end,List.drop_length]; simp [fPs])
   N (by omega) []
  exact key rfl
end Go.Proofs.YtfmlmdnaeonobaaGreat.C
namespace Go.Proofs.YtfmlmdnaeonobaaGreat.C
open Go Go.Proofs.YtfmlmdnaeonobaaGreat.Nx Go.RowKit
set_option linter.unusedVariables false
set_option linter.unusedSimpArgs false
theorem and255 (a : Int) : 0 ≤ andI .i64 a 255 ∧ andI .i64 a 255 ≤ 255 := by
 unfold andI
 rw [pin_eq]
 have h : (BitVec.ofInt 64 a &&& BitVec.ofInt 64 255).toNat ≤ 255 := by
  rw [BitVec.toNat_and]
  exact Nat.and_le_right
 show 0 ≤ IntKind.i64.wrap ((BitVec.ofInt 64 a &&& BitVec.ofInt 64 255).toNat : Int) ∧ IntKind.i64.wrap ((BitVec.ofInt 64 a &&& BitVec.ofInt 64 255).toNat : Int) ≤ 255
 generalize (BitVec.ofInt 64 a &&& BitVec.ofInt 64 255).toNat = x at h
 rw [IntWalk.i64_left,w64 (by omega) (by omega)]
 omega
def okC (c : Den tL01Cur) : Prop := 0 ≤ c.2.1 ∧ c.1.length ≤ 1048576
theorem byte_ok (N : Nat) (c : Den tL01Cur) (h : okC c) : ∃ x c',x_f78 N c = some (x,c') ∧ 0 ≤ x ∧ x ≤ 255 ∧ okC c' := by
 obtain ⟨b,i,s⟩ : List Int × Int × Int := c
 have h0 : 0 ≤ i := h.1
 have hb : b.length ≤ 1048576 := h.2
 unfold x_f78
 simp only
 cases hd : decide (i < (b.length : Int)) with
 | true =>
  have hd' : i < (b.length : Int) := of_decide_eq_true hd
  rw [dT h0]
  simp only [cond_true,Bool.and_self,Option.bind_some]
  refine ⟨_,_,rfl,(and255 _).1,(and255 _).2,?_,hb⟩
  show (0:Int) ≤ wrap64 (i + 1)
  rw [w64 (by omega) (by omega)]; omega
 | false =>
  simp only [cond_false,cond_true,Option.bind_some]
  exact ⟨_,_,rfl,(and255 _).1,(and255 _).2,h0,hb⟩
theorem below_ok (N : Nat) (c : Den tL01Cur) (h : okC c) (n : Int) (hn : 0 < n) : ∃ x c',x_f77 N c n = some (x,c',()) ∧ 0 ≤ x ∧ x < n ∧ okC c' := by
 unfold x_f77
 rw [dF (p := n ≤ 0) (by omega),dF (p := n = 0) (by omega)]
 simp only [cond_false,Bool.not_false,cond_true]
 cases hd : decide (n ≤ 256) with
 | true =>
  obtain ⟨x,c',e,h0,h1,hc⟩ := byte_ok N c h
  rw [e]
  exact ⟨x.tmod n,c',rfl,Int.tmod_nonneg _ h0,Int.tmod_lt_of_pos _ hn,hc⟩
 | false =>
  obtain ⟨x,c1,e1,a0,a1,hc1⟩ := byte_ok N c h
  obtain ⟨y,c2,e2,b0,b1,hc2⟩ := byte_ok N c1 hc1
  obtain ⟨z,c3,e3,d0,d1,hc3⟩ := byte_ok N c2 hc2
  obtain ⟨u,c4,e4,f0,f1,hc4⟩ := byte_ok N c3 hc3
  simp only [e1,e2,e3,e4,Option.bind_some,cond_false]
  have hw : 0 ≤ wrap64 ((wrap64 ((wrap64 ((wrap64 (x * (16777216:Int))) + (wrap64 (y * (65536:Int))))) + (wrap64 (z * (256:Int))))) + u) := by
   rw [w64 (x := x * 16777216) (by omega) (by omega),w64 (x := y * 65536) (by omega) (by omega),w64 (x := z * 256) (by omega) (by omega),w64 (x := x * 16777216 + y * 65536) (by omega) (by omega),w64 (x := x * 16777216 + y * 65536 + z * 256) (by omega) (by omega),w64 (by omega) (by omega)]
   omega
  exact ⟨_,c4,rfl,Int.tmod_nonneg _ hw,Int.tmod_lt_of_pos _ hn,hc4⟩
theorem new_ok {N : Nat} (hN : Big N) (L : List Int) (hL : L.length ≤ 1048576) : ∃ c,x_f80 N L = some (c,()) ∧ okC c := by
 have hN' : 1099511627776 ≤ N := hN
 unfold x_f80
 have key := iter_to (B := B_f80_L0 N (fun (x1,x2) => some ((x1,(0:Int),x2),())) (fun ρ3 => some (ρ3))) (A := Int) (fun i a => (L,a,(i : Int))) (fun i a r => ∃ s : Int,r = some ((L,(0:Int),s),())) L.length
  (fun i a rec_ hi h => by
   show ∃ s : Int,(bif _ then _ else _) = _
   rw [lt_rows _ hi,le_rows i,w64_up (Nat.le_refl i) (by omega)]
   simp only [cond_true,Bool.and_self]
   cases decide ((i : Int) < 4000)
   ·exact ⟨a,rfl⟩
   ·exact h _)
  (fun a rec_ => by
   show ∃ s : Int,(bif _ then _ else _) = _
   rw [at_end]
   exact ⟨a,rfl⟩)
  N (by omega) (wrap64 ((95501:Int) + (L.length : Int)))
 obtain ⟨s,e⟩ := key
 have e' : iter (B_f80_L0 N (fun (x1,x2) => some ((x1,(0:Int),x2),())) (fun ρ3 => some (ρ3))) N (L,wrap64 ((95501:Int) + (L.length : Int)),(0:Int)) = some ((L,(0:Int),s),()) := e
 rw [e']
 exact ⟨_,rfl,Int.le_refl _,hL⟩
def startS : List (List Int) := [[(10:Int),(80:Int),(150:Int),(220:Int),(30:Int),(100:Int),(200:Int),(250:Int)],[(1:Int),(2:Int),(3:Int),(4:Int),(5:Int),(6:Int),(7:Int),(8:Int)],[(250:Int),(5:Int),(60:Int),(130:Int),(255:Int),(0:Int),(90:Int),(128:Int)],[(64:Int),(128:Int),(192:Int),(0:Int),(32:Int),(96:Int)],[(9:Int),(99:Int),(199:Int),(249:Int)]]
theorem start_ok (N : Nat) (c : Den tL01Cur) (h : okC c) : ∃ L c',x_f91 N c = some (L,c') ∧ L ∈ startS ∧ okC c' := by
 unfold x_f91
 obtain ⟨x,c',e,h0,h1,hc⟩ := below_ok N c h 5 (by omega)
 have e' : x_f77 N c ((5 : Nat) : Int) = some (x,c',()) := e
 rw [e']
 have hl : x < (startS.length : Int) := h1
 have hl' : decide (x < (startS.length : Int)) = true := dT hl
 simp only [Option.bind_some]
 have hx : ∃ n : Nat,x = (n : Int) ∧ n < startS.length := ⟨x.toNat,by omega,by omega⟩
 obtain ⟨n,rfl,hn⟩ := hx
 refine ⟨startS.getD n [],c',?_,?_,hc⟩
 ·rw [dT h0]
  show ((bif true && decide ((n : Int) < (startS.length : Int)) then _ else _) : Option (List Int × Den tL01Cur)).bind _ = _
  rw [hl']
  simp only [Bool.and_self,cond_true,Int.toNat_natCast]
  rw [Nat.beq_refl n]
  rfl
 ·rw [List.getD_eq_getElem?_getD,List.getElem?_eq_getElem hn]
  exact List.getElem_mem _
theorem draw_ids {N : Nat} (hN : Big N) (L : List Int) (hL : L.length ≤ 1048576) : ∃ l,x_f54 N L = some l ∧ l ∈ startS := by
 unfold x_f54
 obtain ⟨c,e,hc⟩ := new_ok hN L hL
 obtain ⟨l,c',e1,hl,_⟩ := start_ok N c hc
 rw [e,Option.bind_some]
 simp only
 rw [e1]
 exact ⟨l,rfl,hl⟩
end Go.Proofs.YtfmlmdnaeonobaaGreat.C
namespace Go.Proofs.YtfmlmdnaeonobaaGreat.C
open Go Go.Proofs.YtfmlmdnaeonobaaGreat.Nx Go.RowKit
set_option linter.unusedVariables false
set_option linter.unusedSimpArgs false
theorem n40b {N : Nat} (hN : Big N) : 1099511627776 ≤ N := hN
theorem fPeerAt_idF (n : Int) : ∀ (l : List (Den tPeer)) (i j : Nat),fPeerAt n i l = ((i + j : Nat) : Int) → ∃ h : j < l.length,(l[j]).1 = n ∧ (l[j]).2.1 = true
 | [],i,j,h => by unfold fPeerAt at h; omega
 | p :: ps,i,j,h => by
  unfold fPeerAt at h
  cases hp : (p.2.1 && decide (p.1 = n)) with
  | true =>
   rw [hp,cond_true] at h
   have : j = 0 := by omega
   subst this
   simp only [Bool.and_eq_true,decide_eq_true_eq] at hp
   exact ⟨by simp,hp.2,hp.1⟩
  | false =>
   rw [hp,cond_false] at h
   cases j with
   | zero => rcases fPeerAt_or n ps (i + 1) with h' | ⟨j',h1,h2,h3⟩ <;> omega
   | succ j =>
    obtain ⟨q,r⟩ := fPeerAt_idF n ps (i + 1) j (by rw [h]; congr 1; omega)
    exact ⟨by simp only [List.length_cons]; omega,by simpa using r⟩
theorem here_at {L : List (Den tPeer)} {n : Int} (h : 0 ≤ fPeerAt n 0 L) : ∃ j,∃ hj : j < L.length,fPeerAt n 0 L = (j : Int) ∧ (L[j]).1 = n ∧ (L[j]).2.1 = true := by
 rcases fPeerAt_or n L 0 with e | ⟨j,h1,h2,h3⟩
 ·omega
 ·obtain ⟨q,r⟩ := fPeerAt_idF n L 0 j (by rw [h3,Nat.zero_add])
  exact ⟨j,q,h3,r⟩
def fSt (L : List (Den tPeer)) (id key : Int) : Int → List Int → Int
 | b,[] => b
 | b,x :: xs => fSt L id key (bif !decide (x = key) && (decide (0 ≤ fPeerAt x 0 L) && (betw id x key && decide (aheadI id b < aheadI id x))) then x else b) xs
def fStep (L : List (Den tPeer)) (id key : Int) : Int × Bool :=
 bif decide (fPeerAt id 0 L < 0) then (-1,false) else bif decide (fNextOf L id < 0) then (-1,false) else bif decide (key % 256 = id) then (id,true) else
  bif betw id (key % 256) (fNextOf L id) then (fNextOf L id,true) else
   (fSt L id (key % 256) (fNextOf L id) ((L.getD (fPeerAt id 0 L).toNat (dft tPeer)).2.2.2.1 ++ (L.getD (fPeerAt id 0 L).toNat (dft tPeer)).2.2.2.2.1),false)
theorem spec_best {N : Nat} (hN : Big N) (L : List (Den tPeer)) (hL : okz tRing L) (id key : Int) (l : List Int) (hl : l.length ≤ 2097152) (b : Int) :
  iter (B_f76_L0 N (fun x9 => some (x9,false)) (fun ρ10 => some (ρ10))) N (id,key,L,b,l,(0:Int)) = some (fSt L id key b l,false) := by
 have hN' := n40b hN
 have key := iter_rowA (B := B_f76_L0 N (fun x9 => some (x9,false)) (fun ρ10 => some (ρ10))) (A := Int) l (fun i a => (id,key,L,a,l,(i : Int))) (fun i a r => some (fSt L id key a r,false))
  (fun i hi a rec_ h => by
   show (bif _ then _ else _) = _
   rw [lt_rows _ hi,le_rows i,getD_at _ hi,w64_up (Nat.le_refl i) (by omega),spec_PeerAt hN L hL,Option.bind_some,spec_Betw,Option.bind_some,spec_Ahead_ord,Option.bind_some,spec_Ahead_ord,Option.bind_some]
   simp only [Bool.and_self,cond_true]
   unfold fSt
   cases decide (l[i] = key)
   ·cases decide (0 ≤ fPeerAt l[i] 0 L)
    ·exact h a
    ·cases betw id l[i] key
     ·exact h a
     ·cases decide (aheadI id a < aheadI id l[i])
      ·exact h a
      ·exact h l[i]
   ·exact h a)
  (fun a rec_ => by
   show (bif _ then _ else _) = _
   rw [at_end]; rfl)
  (N := N) (by omega) b
 exact key
theorem spec_StepTo {N : Nat} (hN : Big N) (L : List (Den tPeer)) (hL : okz tRing L) (id key : Int) : x_f76 N L id key = some (fStep L id key) := by
 have hl := hL.1
 unfold x_f76 fStep
 rw [spec_PeerAt hN L hL,Option.bind_some,spec_NextOf hN L hL,Option.bind_some,spec_mod_ord,Option.bind_some]
 rcases fPeerAt_or id L 0 with h | ⟨j,h1,h2,h3⟩
 ·rw [h]; rfl
 ·have hj : j < L.length := by omega
  have hp : okz tPeer L[j] := hL.2 _ (List.getElem_mem hj)
  have hb : (L[j]).2.2.2.1.length ≤ 1048576 := hp.2.2.2.1.1
  have hf : (L[j]).2.2.2.2.1.length ≤ 1048576 := hp.2.2.2.2.1.1
  rw [h3,dF (p := (j : Int) < 0) (by omega)]
  cases decide (fNextOf L id < 0)
  ·cases decide (key % 256 = id)
   ·rw [spec_Betw,Option.bind_some]
    cases betw id (key % 256) (fNextOf L id)
    ·simp only [cond_false]
     rw [lt_rows _ hj,le_rows j,getD_at _ hj]
     simp only [Bool.and_self,cond_true,List.nil_append,List.length_nil]
     rw [dT (p := (0 + (L[j]).2.2.2.1.length) * 8 ≤ 140737488355328) (by omega),dT (p := ((L[j]).2.2.2.1.length + (L[j]).2.2.2.2.1.length) * 8 ≤ 140737488355328) (by omega)]
     simp only [Bool.and_self,cond_true,agree_self]
     rw [spec_best hN L hL _ _ _ (by rw [List.length_append]; omega)]
    ·rfl
   ·rfl
  ·rfl
def InvF (L : List (Den tPeer)) : Prop := okz tRing L ∧ ∀ p ∈ L,0 ≤ p.1 ∧ p.1 ≤ 255 ∧ ∀ x ∈ p.2.2.2.1,x ≠ p.1
theorem here_in {L : List (Den tPeer)} (hI : InvF L) {n : Int} (h : 0 ≤ fPeerAt n 0 L) : 0 ≤ n ∧ n ≤ 255 := by
 obtain ⟨j,hj,_,e,_⟩ := here_at h
 have := hI.2 _ (List.getElem_mem hj)
 rw [e] at this
 exact ⟨this.1,this.2.1⟩
theorem fNext_mem {L : List (Den tPeer)} : ∀ l : List Int,0 ≤ fNext L l → fNext L l ∈ l ∧ 0 ≤ fPeerAt (fNext L l) 0 L
 | [],h => by unfold fNext at h; omega
 | x :: xs,h => by
  unfold fNext at h ⊢
  by_cases hx : 0 ≤ fPeerAt x 0 L
  ·rw [dT hx] at h ⊢
   exact ⟨by simp,hx⟩
  ·rw [dF hx] at h ⊢
   obtain ⟨a,b⟩ := fNext_mem xs h
   exact ⟨List.mem_cons_of_mem _ a,b⟩
theorem next_ok {L : List (Den tPeer)} (hI : InvF L) {id : Int} (h : 0 ≤ fNextOf L id) : 0 ≤ fPeerAt id 0 L ∧ 0 ≤ fPeerAt (fNextOf L id) 0 L ∧ fNextOf L id ≠ id ∧ fNextOf L id = fNext L (L.getD (fPeerAt id 0 L).toNat (dft tPeer)).2.2.2.1 := by
 unfold fNextOf at h ⊢
 by_cases hp : fPeerAt id 0 L < 0
 ·rw [dT hp,cond_true] at h; omega
 ·rw [dF hp,cond_false] at h ⊢
  obtain ⟨j,hj,e1,e2,_⟩ := here_at (L := L) (n := id) (by omega)
  have := fNext_mem _ h
  rw [e1,getD_at _ hj] at this h ⊢
  have hq := (hI.2 _ (List.getElem_mem hj)).2.2 _ this.1
  rw [e2] at hq
  exact ⟨by omega,this.2,hq,rfl⟩
def fFind (L : List (Den tPeer)) (key : Int) : Nat → Int → Int → (Int × Int) × Bool
 | 0,_,_ => ((-1,0),false)
 | n + 1,at_,h => bif decide ((fStep L at_ key).1 < 0) then ((-1,0),false) else
   bif (fStep L at_ key).2 then (((fStep L at_ key).1,bif decide ((fStep L at_ key).1 = at_) then h else h + 1),true) else
   fFind L key n (fStep L at_ key).1 (bif decide ((fStep L at_ key).1 = at_) then h else h + 1)
theorem step_on {L : List (Den tPeer)} (hI : InvF L) {id key : Int} (h0 : 0 ≤ (fStep L id key).1) (hf : (fStep L id key).2 = false) : (fStep L id key).1 ≠ id ∧ (fStep L id key).1 ≠ key % 256 := by
 unfold fStep at h0 hf ⊢
 by_cases hp : fPeerAt id 0 L < 0
 ·rw [dT hp] at h0; have h0 : (0:Int) ≤ -1 := h0; omega
 ·rw [dF hp] at h0 hf ⊢
  by_cases hn : fNextOf L id < 0
  ·rw [dT hn] at h0; have h0 : (0:Int) ≤ -1 := h0; omega
  ·rw [dF hn] at h0 hf ⊢
   obtain ⟨n1,n2,n3,n4⟩ := next_ok hI (id := id) (by omega)
   have hr := here_in hI n1
   have hr2 := here_in hI n2
   by_cases hk : key % 256 = id
   ·rw [dT hk] at hf; cases hf
   ·rw [dF hk] at h0 hf ⊢
    cases hc : betw id (key % 256) (fNextOf L id) with
    | true => rw [hc] at hf; cases hf
    | false =>
     simp only [cond_false]
     have hkk : 0 < aheadI id (key % 256) := by unfold aheadI; omega
     have hnk : fNextOf L id ≠ key % 256 := fun e => by
      unfold betw at hc
      rw [e,dT hkk,Bool.true_and,Bool.or_eq_false_iff] at hc
      have := of_decide_eq_false hc.1
      omega
     have gen : ∀ (l : List Int) (b : Int),b ≠ id ∧ b ≠ key % 256 → fSt L id (key % 256) b l ≠ id ∧ fSt L id (key % 256) b l ≠ key % 256 := by
      intro l
      induction l with
      | nil => exact fun b h => h
      | cons x xs ih =>
       intro b h
       unfold fSt
       refine ih _ ?_
       cases hx : (!decide (x = key % 256) && (decide (0 ≤ fPeerAt x 0 L) && (betw id x (key % 256) && decide (aheadI id b < aheadI id x)))) with
       | false => exact h
       | true =>
        simp only [Bool.and_eq_true,Bool.not_eq_true',decide_eq_false_iff_not,decide_eq_true_eq] at hx
        obtain ⟨h1,h2,h3,h4⟩ := hx
        refine ⟨fun e => ?_,h1⟩
        have e : x = id := e
        subst e
        unfold betw at h3
        simp only [Bool.and_eq_true,decide_eq_true_eq] at h3
        have := h3.1
        unfold aheadI at this; omega
     exact gen _ _ ⟨n3,hnk⟩
theorem spec_Find {N : Nat} (hN : Big N) (L : List (Den tPeer)) (hI : InvF L) (by_ key : Int) : x_f58 N L by_ key = some (fFind L key 65 by_ 0) := by
 have hN' := n40b hN
 unfold x_f58
 have last : ∀ rec_ : DenS (.pr (.d 2 I) (.pr (.ip 3 tRing) (.pr (.bx 6 tTrip) (.pr (.d 8 I) (.d 9 I))))) → Option ((Den tTrip) × Bool),∀ a : Int,B_f58_L0 N (fun x2 => some (((-1:Int),(0:Int)),false)) (fun ρ3 => some (ρ3)) rec_ (key,L,((0:Int),(0:Int)),a,(66:Int)) = some (((-1:Int),(0:Int)),false) := fun rec_ a => rfl
 have main : ∀ (n : Nat) (M : Nat),n + 2 ≤ M → n ≤ 65 → ∀ (a : Int) (h : Int),h = 65 - (n : Int) → (h = 0 ∨ a ≠ key % 256) →
   iter (B_f58_L0 N (fun x2 => some (((-1:Int),(0:Int)),false)) (fun ρ3 => some (ρ3))) M (key,L,((0:Int),(0:Int)),a,h) = some (fFind L key n a h) := by
  intro n
  induction n with
  | zero =>
   intro M hM _ a h hh ha
   obtain ⟨M,rfl⟩ : ∃ M',M = M' + 2 := ⟨M - 2,by omega⟩
   have hh : h = 65 := by omega
   show (bif _ then _ else _) = _
   rw [dT (p := h ≤ 65) (by omega),spec_StepTo hN L hI.1,Option.bind_some]
   simp only [cond_true]
   have e66 : wrap64 (h + 1) = 66 := by rw [w64 (by omega) (by omega)]; omega
   rw [e66]
   by_cases h0 : (fStep L a key).1 < 0
   ·rw [dT h0]; rfl
   ·rw [dF h0]
    cases h2 : (fStep L a key).2 with
    | false =>
     have := (step_on hI (by omega) h2).1
     rw [dF this]
     exact last (iter (B_f58_L0 N (fun x2 => some (((-1:Int),(0:Int)),false)) (fun ρ3 => some (ρ3))) M) (fStep L a key).1
    | true =>
     have hne : (fStep L a key).1 ≠ a := fun e => by
      have ha' : a ≠ key % 256 := by rcases ha with h | h; omega; exact h
      unfold fStep at h0 h2 e
      by_cases hp : fPeerAt a 0 L < 0
      ·rw [dT hp] at h2; cases h2
      ·rw [dF hp] at h2 e h0
       by_cases hn : fNextOf L a < 0
       ·rw [dT hn] at h2; cases h2
       ·rw [dF hn,dF (p := key % 256 = a) (fun e => ha' e.symm)] at h2 e
        obtain ⟨n1,n2,n3,n4⟩ := next_ok hI (id := a) (by omega)
        cases hc : betw a (key % 256) (fNextOf L a) with
        | true => rw [hc] at e; exact n3 e
        | false => rw [hc] at h2; cases h2
     rw [dF hne]; rfl
  | succ n ih =>
   intro M hM hn a h hh ha
   obtain ⟨M,rfl⟩ : ∃ M',M = M' + 1 := ⟨M - 1,by omega⟩
   show (bif _ then _ else _) = _
   rw [dT (p := h ≤ 65) (by omega),spec_StepTo hN L hI.1,Option.bind_some,w64 (x := h + 1) (by omega) (by omega)]
   simp only [cond_true]
   unfold fFind
   by_cases h0 : (fStep L a key).1 < 0
   ·rw [dT h0]; rfl
   ·rw [dF h0,dF (p := (65:Int) < h + 1) (by omega),dF (p := (65:Int) < h) (by omega)]
    cases h2 : (fStep L a key).2 with
    | false =>
     obtain ⟨g1,g2⟩ := step_on hI (id := a) (key := key) (by omega) h2
     rw [dF g1]
     simp only [Bool.not_false,cond_true,cond_false]
     exact ih M (by omega) (by omega) _ _ (by omega) (.inr g2)
    | true => cases decide ((fStep L a key).1 = a) <;> rfl
 exact main 65 N (by omega) (by omega) by_ 0 (by omega) (.inl rfl)
end Go.Proofs.YtfmlmdnaeonobaaGreat.C
namespace Go.Proofs.YtfmlmdnaeonobaaGreat.C
open Go Go.Proofs.YtfmlmdnaeonobaaGreat.Nx Go.RowKit
set_option linter.unusedVariables false
set_option linter.unusedSimpArgs false
def insB (x : Int) : List Int → List Int
 | [] => [x]
 | y :: ys => bif decide (x < y) then x :: y :: ys else y :: insB x ys
theorem insB_perm (x : Int) : ∀ l : List Int,(insB x l).Perm (x :: l)
 | [] => List.Perm.refl _
 | y :: ys => by
  unfold insB
  cases decide (x < y)
  ·exact ((insB_perm x ys).cons y).trans (List.Perm.swap x y ys)
  ·exact List.Perm.refl _
theorem insB_srt (x : Int) : ∀ l : List Int,l.Pairwise (· ≤ ·) → (insB x l).Pairwise (· ≤ ·)
 | [],_ => by simp [insB]
 | y :: ys,h => by
  unfold insB
  obtain ⟨h1,h2⟩ := List.pairwise_cons.1 h
  by_cases hc : x < y
  ·rw [dT hc,cond_true]
   refine List.pairwise_cons.2 ⟨fun z hz => ?_,h⟩
   rcases List.mem_cons.1 hz with rfl | hz
   ·omega
   ·have := h1 z hz; omega
  ·rw [dF hc,cond_false]
   refine List.pairwise_cons.2 ⟨fun z hz => ?_,insB_srt x ys h2⟩
   rcases List.mem_cons.1 ((insB_perm x ys).mem_iff.1 hz) with rfl | hz
   ·omega
   ·exact h1 z hz
theorem insB_len (x : Int) (l : List Int) : (insB x l).length = l.length + 1 := by
 rw [(insB_perm x l).length_eq,List.length_cons]
theorem insB_last (x : Int) : ∀ l : List Int,(l.any fun y => decide (x < y)) = false → insB x l = l ++ [x]
 | [],_ => rfl
 | y :: ys,h => by
  rw [List.any_cons,Bool.or_eq_false_iff] at h
  unfold insB
  rw [h.1,cond_false,insB_last x ys h.2]; rfl
def insAll : List Int → List Int → List Int
 | out,[] => out
 | out,x :: xs => insAll (insB x out) xs
theorem insAll_srt : ∀ (l out : List Int),out.Pairwise (· ≤ ·) → (insAll out l).Pairwise (· ≤ ·)
 | [],out,h => h
 | x :: xs,out,h => insAll_srt xs _ (insB_srt x out h)
theorem insAll_perm : ∀ (l out : List Int),(insAll out l).Perm (out ++ l)
 | [],out => by rw [List.append_nil]; exact List.Perm.refl _
 | x :: xs,out => by
  refine (insAll_perm xs _).trans ?_
  refine ((insB_perm x out).append_right xs).trans ?_
  exact List.perm_middle.symm
def fHereL : List (Den tPeer) → List Int
 | [] => []
 | p :: ps => bif p.2.1 then p.1 :: fHereL ps else fHereL ps
theorem fHereL_len : ∀ l,(fHereL l).length ≤ l.length
 | [] => Nat.le_refl _
 | p :: ps => by
  have := fHereL_len ps
  unfold fHereL
  cases p.2.1
  ·simp only [cond_false,List.length_cons]; omega
  ·simp only [cond_true,List.length_cons]; omega
theorem spec_ins {N : Nat} (hN : Big N) {kx kr} (L : Den tRing) {i : Nat} (hi : i < List.length (α := Den tPeer) L) (out : List Int) (ho : out.length ≤ 1048576) :
  iter (B_f61_L2 (Ω := List Int) N kx kr) N (L,out,(i : Int),[],false,(0:Int)) =
   kx (L,(i : Int),(bif (out.any fun y => decide ((List.getD (α := Den tPeer) L i (dft tPeer)).1 < y)) then insB (List.getD (α := Den tPeer) L i (dft tPeer)).1 out else out),(out.any fun y => decide ((List.getD (α := Den tPeer) L i (dft tPeer)).1 < y))) := by
 have hN' : 1099511627776 ≤ N := hN
 have hi' := lt_rows (α := Den tPeer) L hi
 have hg : (List.getD (α := Den tPeer) L ((i : Int)).toNat (dft tPeer)) = List.getD (α := Den tPeer) L i (dft tPeer) := by rw [Int.toNat_natCast]
 have key := iter_to (B := B_f61_L2 (Ω := List Int) N kx kr) (A := List Int × Bool) (fun k a => (L,out,(i : Int),a.1,a.2,(k : Int)))
  (fun k a r => a.1.length ≤ 2 * k → r = kx (L,(i : Int),a.1 ++ (bif a.2 then out.drop k else bif ((out.drop k).any fun y => decide ((List.getD (α := Den tPeer) L i (dft tPeer)).1 < y)) then insB (List.getD (α := Den tPeer) L i (dft tPeer)).1 (out.drop k) else out.drop k),a.2 || ((out.drop k).any fun y => decide ((List.getD (α := Den tPeer) L i (dft tPeer)).1 < y)))) out.length
  (fun k a rec_ hk h ha => by
   obtain ⟨next,put⟩ := a
   simp only at ha
   show (bif _ then _ else _) = _
   rw [lt_rows _ hk,le_rows k,le_rows i,hi',hg,getD_at _ hk,w64_up (Nat.le_refl k) (by omega),drop_cons hk]
   generalize (List.getD (α := Den tPeer) L i (dft tPeer)).1 = x at h ⊢
   simp only [Bool.and_self,cond_true,List.length_append,List.length_cons,List.length_nil]
   rw [dT (p := (next.length + (0 + 1)) * 8 ≤ 140737488355328) (by omega),dT (p := (next.length + (0 + 1) + (0 + 1)) * 8 ≤ 140737488355328) (by omega)]
   simp only [cond_true]
   cases put with
   | true =>
    have := h (next ++ [out[k]],true) (by simp only [List.length_append,List.length_cons,List.length_nil]; omega)
    simp only [Bool.not_true,cond_false,cond_true,Bool.true_or] at this ⊢
    rw [this,List.append_assoc]; rfl
   | false =>
    simp only [Bool.not_false,cond_true,Bool.false_or,cond_false,List.any_cons]
    unfold insB
    cases hx : decide (x < out[k]) with
    | true =>
     have := h ((next ++ [x]) ++ [out[k]],true) (by simp only [List.length_append,List.length_cons,List.length_nil]; omega)
     simp only [cond_true,Bool.true_or] at this ⊢
     rw [this,List.append_assoc,List.append_assoc]; rfl
    | false =>
     have := h (next ++ [out[k]],false) (by simp only [List.length_append,List.length_cons,List.length_nil]; omega)
     simp only [cond_false,Bool.false_or] at this ⊢
     rw [this,List.append_assoc]
     cases ((out.drop (k + 1)).any fun y => decide (x < y)) <;> rfl)
  (fun a rec_ ha => by
   obtain ⟨next,put⟩ := a
   show (bif _ then _ else _) = _
   rw [at_end,List.drop_length]
   cases put <;> simp)
  N (by omega) ([],false)
 have := key (by simp)
 simpa using this
theorem spec_HereOf {N : Nat} (hN : Big N) (L : Den tRing) (hL : okz tRing L) : x_f61 N L = some (insAll [] (fHereL L)) := by
 have hN' : 1099511627776 ≤ N := hN
 have hl : List.length (α := Den tPeer) L ≤ 1048576 := hL.1
 unfold x_f61
 have key := iter_to (B := B_f61_L0 N (fun x6 => some x6) (fun ρ7 => some (ρ7))) (A := List Int) (fun i a => (L,a,(i : Int))) (fun i a r => a.length ≤ i → r = some (insAll a (fHereL (List.drop (α := Den tPeer) i L)))) (List.length (α := Den tPeer) L)
  (fun i out rec_ hi h ho => by
   show (bif _ then _ else _) = _
   have hi' := lt_rows (α := Den tPeer) L hi
   have hg : (List.getD (α := Den tPeer) L ((i : Int)).toNat (dft tPeer)) = L[i] := getD_at (α := Den tPeer) L hi (dft tPeer)
   rw [hi',le_rows i,hg,w64_up (Nat.le_refl i) (by omega),drop_cons (α := Den tPeer) hi]
   simp only [Bool.and_self,cond_true]
   unfold fHereL
   cases hp : (L[i]).2.1 with
   | false =>
    simp only [Bool.not_false,cond_true,cond_false]
    exact h out (by omega)
   | true =>
    simp only [Bool.not_true,cond_true,cond_false]
    have e := spec_ins hN (kx := fun (x1,x2,x3,x4) => (bif (!x4) then (bif (decide (0 ≤ x2) && decide (x2 < (List.length (α := Den tPeer) x1 : Int))) then (bif (decide ((x3.length + [((List.getD (α := Den tPeer) x1 x2.toNat (dft tPeer)).1 : Int)].length) * 8 ≤ 140737488355328)) then rec_ (x1,(x3 ++ [((List.getD (α := Den tPeer) x1 x2.toNat (dft tPeer)).1 : Int)]),(wrap64 (x2 + (1:Int)))) else none) else none) else rec_ (x1,x3,(wrap64 (x2 + (1:Int)))))) (kr := fun ρ5 => some ρ5) L hi out (by omega)
    refine Eq.trans e ?_
    simp only
    have hg' : (List.getD (α := Den tPeer) L i (dft tPeer)) = L[i] := by rw [← hg,Int.toNat_natCast]
    rw [hi',le_rows i,hg,hg',w64_up (Nat.le_refl i) (by omega)]
    unfold insAll
    cases ha : (out.any fun y => decide ((L[i]).1 < y)) with
    | true =>
     simp only [Bool.not_true,cond_false,cond_true]
     exact h _ (by rw [insB_len]; omega)
    | false =>
     simp only [Bool.not_false,cond_true,cond_false,Bool.and_self]
     rw [dT (p := (out.length + [(L[i]).1].length) * 8 ≤ 140737488355328) (by simp only [List.length_cons,List.length_nil]; omega),insB_last _ _ ha]
     exact h _ (by simp only [List.length_append,List.length_cons,List.length_nil]; omega))
  (fun out rec_ ho => by
   show (bif _ then _ else _) = _
   rw [at_end (α := Den tPeer) L,List.drop_length]; rfl)
  N (by omega) []
 exact key (by simp)
end Go.Proofs.YtfmlmdnaeonobaaGreat.C
namespace Go.Proofs.YtfmlmdnaeonobaaGreat.C
open Go Go.Proofs.YtfmlmdnaeonobaaGreat.Nx Go.RowKit
set_option linter.unusedVariables false
set_option linter.unusedSimpArgs false
def okp (k : Nat) (p : Den tPeer) : Prop := (0 ≤ p.1 ∧ p.1 ≤ 255) ∧ (∀ x ∈ p.2.2.2.1,x ≠ p.1) ∧ (p.2.2.2.1.length ≤ 3 ∧ p.2.2.2.2.1.length ≤ 8) ∧ (List.length (α := Den tShelf) p.2.2.2.2.2 ≤ k ∧ ∀ s ∈ p.2.2.2.2.2,List.length (α := Den tItem) s.2 ≤ k ∧ ∀ t ∈ s.2,t.1.size ≤ 1)
def InvR (k : Nat) (L : List (Den tPeer)) : Prop := (4 ≤ L.length ∧ L.length ≤ 8) ∧ (L.map fun p => p.1).Nodup ∧ ∀ p ∈ L,okp k p
theorem okp_ok {k : Nat} (hk : k ≤ 1048576) {p : Den tPeer} (h : okp k p) : okz tPeer p := by
 obtain ⟨_,_,⟨h1,h2⟩,h3,h4⟩ := h
 refine ⟨trivial,trivial,trivial,⟨by omega,fun _ _ => trivial⟩,⟨by omega,fun _ _ => trivial⟩,⟨by omega,fun s hs => ⟨trivial,?_⟩⟩⟩
 obtain ⟨a,b⟩ := h4 s hs
 exact ⟨by omega,fun t ht => ⟨by have := b t ht; omega,trivial⟩⟩
theorem InvR.f {k : Nat} (hk : k ≤ 1048576) {L : List (Den tPeer)} (h : InvR k L) : InvF L :=
 ⟨⟨by have := h.1.2; omega,fun p hp => okp_ok hk (h.2.2 p hp)⟩,fun p hp => ⟨(h.2.2 p hp).1.1,(h.2.2 p hp).1.2,(h.2.2 p hp).2.1⟩⟩
theorem InvR.set {k : Nat} {L : List (Den tPeer)} (h : InvR k L) {i : Nat} (hi : i < L.length) {q : Den tPeer} (hq : okp k q) (he : q.1 = (L[i]).1) : InvR k (L.set i q) := by
 refine ⟨by rw [List.length_set]; exact h.1,?_,fun p hp => ?_⟩
 ·have e : (L.set i q).map (fun p => p.1) = L.map fun p => p.1 := by
   rw [List.map_set,he]
   have : (L[i]).1 = (L.map fun p => p.1)[i]'(by rw [List.length_map]; exact hi) := by simp
   rw [this,List.set_getElem_self]
  rw [e]; exact h.2.1
 ·rcases List.mem_or_eq_of_mem_set hp with hp | rfl
  ·exact h.2.2 p hp
  ·exact hq
theorem fBehind_but (L : List (Den tPeer)) (n but : Int) : ∀ x ∈ fBehind L n but,x ≠ but := by
 intro x hx
 unfold fBehind at hx
 have := List.mem_of_mem_take hx
 rw [List.mem_filter] at this
 simpa using this.2
theorem fBehind_len (L : List (Den tPeer)) (n but : Int) : (fBehind L n but).length ≤ 3 := by unfold fBehind; rw [List.length_take]; omega
theorem draw_Joined {N k : Nat} (hN : Big N) (hk : k ≤ 1048576) (L : List (Den tPeer)) (h : InvR k L) (id by_ : Int) (hid : 0 ≤ id ∧ id ≤ 255) : ∃ q,x_f63 N L id by_ = some q ∧ InvR k q.1 := by
 have hN' := n40b hN
 have hF := h.f hk
 have hL := hF.1
 have hl := hL.1
 unfold x_f63
 rw [spec_Copy hN L hL,Option.bind_some]
 have fin : ∀ i : Nat,∀ hi : i < L.length,(L[i]).1 = id → ∀ n : Int,∃ q : (Den tRing) × Bool,iter (B_f63_L2 N (fun (x12,x13,x14,x15) => (bif (decide (0 ≤ x14) && decide (x14 < (List.length (α := Den tPeer) x13 : Int))) then some ((List.set (α := Den tPeer) x13 x14.toNat x15),true) else none)) (fun ρ16 => some (ρ16))) N ([],L,(i : Int),(id,true,(-1:Int),fBehind L n id,[],[]),(0:Int)) = some q ∧ InvR k q.1 := by
  intro i hi he n
  obtain ⟨m,hm⟩ : ∃ m : Nat,m = 8 := ⟨8,rfl⟩
  have key := iter_to (B := B_f63_L2 N (fun (x12,x13,x14,x15) => (bif (decide (0 ≤ x14) && decide (x14 < (List.length (α := Den tPeer) x13 : Int))) then some ((List.set (α := Den tPeer) x13 x14.toNat x15),true) else none)) (fun ρ16 => some (ρ16))) (A := List Int) (fun j a => ([],L,(i : Int),(id,true,(-1:Int),fBehind L n id,a,[]),(j : Int))) (fun j a r => a.length = j → ∃ q : (Den tRing) × Bool,r = some q ∧ InvR k q.1) m
   (fun j a rec_ hj ih ha => by
    show ∃ q : (Den tRing) × Bool,(bif _ then _ else _) = _ ∧ _
    rw [dT (p := (j : Int) < 8) (by omega),w64_up (Nat.le_refl j) (by omega),dT (p := (a.length + [(-1:Int)].length) * 8 ≤ 140737488355328) (by simp only [List.length_cons,List.length_nil]; omega)]
    exact ih (a ++ [-1]) (by simp [ha]))
   (fun a rec_ ha => by
    show ∃ q : (Den tRing) × Bool,(bif _ then _ else _) = _ ∧ _
    rw [dF (p := (m : Int) < 8) (by omega)]
    simp only [cond_false]
    rw [le_rows i,lt_rows L hi,Int.toNat_natCast]
    exact ⟨_,rfl,h.set hi ⟨hid,fBehind_but L n id,⟨fBehind_len L n id,by show a.length ≤ 8; omega⟩,by simp,fun s hs => by cases hs⟩ he.symm⟩)
   N (by omega) []
  exact key rfl
 have key := iter_to (B := B_f63_L0 N (fun (x2,x3,x4,x5,x6,x7) => (x_f58 N x4 x3 x2).bind fun r8 => (bif (decide (x7 < (0:Int))) then some (x6,false) else (bif (!r8.2) then some (x6,false) else (x_f68 N x4 x2).bind fun r9 => (bif (decide ((0:Int) ≤ r9)) then some (x6,false) else (x_f68 N x4 r8.1.1).bind fun r10 => (bif (decide (r10 < (0:Int))) then some (x6,false) else (x_f92 N x4 r8.1.1 x2).bind fun r11 => iter (B_f63_L2 N (fun (x12,x13,x14,x15) => (bif (decide (0 ≤ x14) && decide (x14 < (List.length (α := Den tPeer) x13 : Int))) then some ((List.set (α := Den tPeer) x13 x14.toNat x15),true) else none)) (fun ρ16 => some (ρ16))) N (x5,x6,x7,(x2,true,(-1:Int),r11,[],[]),(0:Int))))))) (fun ρ17 => some (ρ17))) (A := {a : Int // a = -1 ∨ ∃ i : Nat,∃ hi : i < L.length,a = (i : Int) ∧ (L[i]).1 = id}) (fun j a => (id,by_,L,[],L,a.1,(j : Int))) (fun j a r => ∃ q : (Den tRing) × Bool,r = some q ∧ InvR k q.1) L.length
  (fun j a rec_ hj ih => by
   show ∃ q : (Den tRing) × Bool,(bif _ then _ else _) = _ ∧ _
   rw [lt_rows L hj,le_rows j,getD_at L hj,w64_up (Nat.le_refl j) (by omega)]
   simp only [Bool.and_self,cond_true]
   cases hd : decide ((L[j]).1 = id) with
   | false => exact ih a
   | true =>
    cases (L[j]).2.1 with
    | false => exact ih ⟨(j : Int),.inr ⟨j,hj,rfl,of_decide_eq_true hd⟩⟩
    | true => exact ih a)
  (fun a rec_ => by
   show ∃ q : (Den tRing) × Bool,(bif _ then _ else _) = _ ∧ _
   rw [at_end L]
   simp only [cond_false]
   rw [spec_Find hN L hF,Option.bind_some]
   have self : ∃ q : (Den tRing) × Bool,some ((L,false) : (Den tRing) × Bool) = some q ∧ InvR k q.1 := ⟨_,rfl,h⟩
   rcases a.2 with e | ⟨i,hi,e,hid'⟩
   ·rw [e]; exact self
   ·rw [e,dF (p := (i : Int) < 0) (by omega)]
    cases (fFind L id 65 by_ 0).2 with
    | false => exact self
    | true =>
     simp only [Bool.not_true,cond_false]
     rw [spec_PeerAt hN L hL,Option.bind_some]
     cases decide (0 ≤ fPeerAt id 0 L) with
     | true => exact self
     | false =>
      simp only [cond_false]
      rw [spec_PeerAt hN L hL,Option.bind_some]
      by_cases ho : fPeerAt (fFind L id 65 by_ 0).1.1 0 L < 0
      ·rw [dT ho]; exact self
      ·rw [dF ho]
       simp only [cond_false]
       rw [spec_Behind hN L hL _ _ (by omega),Option.bind_some]
       exact fin i hi hid' _)
  N (by omega) ⟨-1,.inl rfl⟩
 exact key
theorem draw_Gone {N k : Nat} (hN : Big N) (hk : k ≤ 1048576) (L : List (Den tPeer)) (h : InvR k L) (id : Int) : ∃ q,x_f60 N L id = some q ∧ InvR k q.1 := by
 have hN' := n40b hN
 have hF := h.f hk
 have hL := hF.1
 have hl := hL.1
 unfold x_f60
 rw [spec_Copy hN L hL,Option.bind_some,spec_PeerAt hN L hL,Option.bind_some]
 by_cases h4 : fPeerAt id 0 L < 4
 ·rw [dT h4]; exact ⟨_,rfl,h⟩
 ·rw [dF h4]
  obtain ⟨j,hj,e1,e2,_⟩ := here_at (L := L) (n := id) (by omega)
  rw [e1,le_rows j,lt_rows L hj,Int.toNat_natCast]
  simp only [Bool.and_self,cond_true,cond_false]
  have hid := (h.2.2 _ (List.getElem_mem hj)).1
  rw [e2] at hid
  have hg : InvR k (L.set j (id,false,(0:Int),[],[],[])) := h.set hj ⟨hid,fun x hx => (by cases hx),⟨by simp,by simp⟩,by simp,fun s hs => by cases hs⟩ e2.symm
  have hgL := (hg.f hk).1
  generalize L.set j (id,false,(0:Int),[],[],[]) = L2 at hg hgL
  have hl2 := hgL.1
  have key := iter_to (B := B_f60_L0 N (fun (x5,x6) => some (x6,true)) (fun ρ7 => some (ρ7))) (A := Unit) (fun i _ => (L,[],L2,(i : Int))) (fun i _ r => ∃ q : (Den tRing) × Bool,r = some q ∧ InvR k q.1) L2.length
   (fun i a rec_ hi ih => by
    show ∃ q : (Den tRing) × Bool,(bif _ then _ else _) = _ ∧ _
    rw [lt_rows L2 hi,le_rows i,getD_at L2 hi,w64_up (Nat.le_refl i) (by omega)]
    simp only [Bool.and_self,cond_true]
    cases (L2[i]).2.1 with
    | false => exact ih ()
    | true =>
     simp only [cond_true]
     rw [spec_NextOf hN L2 hgL,Option.bind_some]
     cases decide (fNextOf L2 (L2[i]).1 < 0) with
     | true =>
      simp only [cond_true]
      rw [spec_Copy hN L hL,Option.bind_some]
      exact ⟨_,rfl,h⟩
     | false => exact ih ())
   (fun a rec_ => by
    show ∃ q : (Den tRing) × Bool,(bif _ then _ else _) = _ ∧ _
    rw [at_end L2]
    exact ⟨_,rfl,hg⟩)
   N (by omega) ()
  exact key
def addF (p : Den tPeer) (v : Int) : Den tPeer := (p.1,p.2.1,p.2.2.1,p.2.2.2.1,p.2.2.2.2.1 ++ [v],p.2.2.2.2.2)
theorem draw_Fingered {N k : Nat} (hN : Big N) (hk : k ≤ 1048576) (L : List (Den tPeer)) (h : InvR k L) (id : Int) : ∃ q,x_f59 N L id = some q ∧ InvR k q.1 := by
 have hN' := n40b hN
 have hF := h.f hk
 have hL := hF.1
 have hl := hL.1
 unfold x_f59
 rw [spec_Copy hN L hL,Option.bind_some,spec_PeerAt hN L hL,Option.bind_some]
 by_cases h4 : fPeerAt id 0 L < 0
 ·rw [dT h4]; exact ⟨_,rfl,h⟩
 ·rw [dF h4]
  obtain ⟨j,hj,e1,e2,_⟩ := here_at (L := L) (n := id) (by omega)
  rw [e1,le_rows j,lt_rows L hj]
  simp only [Bool.and_self,cond_true,cond_false]
  rw [getD_at L hj,Int.toNat_natCast]
  have hp := h.2.2 _ (List.getElem_mem hj)
  obtain ⟨p1,p2,⟨p3,p4⟩,p5⟩ := hp
  have hg : InvR k (L.set j ((L[j]).1,(L[j]).2.1,(L[j]).2.2.1,(L[j]).2.2.2.1,[],(L[j]).2.2.2.2.2)) := h.set hj ⟨p1,p2,⟨p3,by simp⟩,p5⟩ rfl
  have hgl : (L.set j ((L[j]).1,(L[j]).2.1,(L[j]).2.2.1,(L[j]).2.2.2.1,[],(L[j]).2.2.2.2.2)).length = L.length := List.length_set
  have hgf : ((L.set j ((L[j]).1,(L[j]).2.1,(L[j]).2.2.1,(L[j]).2.2.2.1,[],(L[j]).2.2.2.2.2)).getD j (dft tPeer)).2.2.2.2.1.length = 0 := by
   rw [List.getD_eq_getElem?_getD,List.getElem?_set_self hj]; rfl
  generalize L.set j ((L[j]).1,(L[j]).2.1,(L[j]).2.2.1,(L[j]).2.2.2.1,[],(L[j]).2.2.2.2.2) = L2 at hg hgl hgf
  obtain ⟨m,hm⟩ : ∃ m : Nat,m = 8 := ⟨8,rfl⟩
  have key := iter_to (B := B_f59_L0 N (fun (x5,x6) => some (x6,true)) (fun ρ7 => some (ρ7))) (A := List (Den tPeer)) (fun i a => (id,L,[],a,(j : Int),(i : Int))) (fun i a r => InvR k a → a.length = L.length → (a.getD j (dft tPeer)).2.2.2.2.1.length = i → ∃ q : (Den tRing) × Bool,r = some q ∧ InvR k q.1) m
   (fun i a rec_ hi ih ha hal hai => by
    have hja : j < a.length := by omega
    have e : (i : Int) % 18446744073709551616 = (i : Int) := by omega
    have hq := ha.2.2 _ (List.getElem_mem hja)
    have hgd : a.getD j (dft tPeer) = a[j] := by rw [List.getD_eq_getElem?_getD,List.getElem?_eq_getElem hja]; rfl
    have nxt : ∀ v : Int,∃ q : (Den tRing) × Bool,rec_ (id,L,[],a.set j (addF a[j] v),(j : Int),((i + 1 : Nat) : Int)) = some q ∧ InvR k q.1 := fun v => by
     refine ih (a.set j (addF a[j] v)) (ha.set hja ⟨hq.1,hq.2.1,⟨hq.2.2.1.1,?_⟩,hq.2.2.2⟩ rfl) (by rw [List.length_set]; exact hal) ?_
     ·show ((a[j]).2.2.2.2.1 ++ [v]).length ≤ 8
      rw [hgd] at hai
      simp only [List.length_append,List.length_cons,List.length_nil]; omega
     ·rw [List.getD_eq_getElem?_getD,List.getElem?_set_self hja]
      show ((a[j]).2.2.2.2.1 ++ [v]).length = i + 1
      rw [hgd] at hai
      simp only [List.length_append,List.length_cons,List.length_nil]; omega
    show ∃ q : (Den tRing) × Bool,(bif _ then _ else _) = _ ∧ _
    rw [dT (p := (i : Int) < 8) (by omega),e,le_rows i,spec_Find hN L hF,Option.bind_some,le_rows j,lt_rows a hja,getD_at a hja,Int.toNat_natCast,Nat.beq_refl,w64_up (Nat.le_refl i) (by omega)]
    rw [hgd] at hai
    simp only [Bool.and_self,cond_true,agree_self]
    rw [dT (p := ((a[j]).2.2.2.2.1.length + [(-1:Int)].length) * 8 ≤ 140737488355328) (by simp only [List.length_cons,List.length_nil]; omega),dT (p := ((a[j]).2.2.2.2.1.length + [(fFind L (wrap64 (id + shlI .i64 (1:Int) (i : Int))) 65 id 0).1.1].length) * 8 ≤ 140737488355328) (by simp only [List.length_cons,List.length_nil]; omega)]
    simp only [cond_true]
    cases (fFind L (wrap64 (id + shlI .i64 (1:Int) (i : Int))) 65 id 0).2 with
    | false => exact nxt _
    | true => exact nxt _)
   (fun a rec_ ha hal hai => by
    show ∃ q : (Den tRing) × Bool,(bif _ then _ else _) = _ ∧ _
    rw [dF (p := (m : Int) < 8) (by omega)]
    exact ⟨_,rfl,ha⟩)
   N (by omega) L2
  exact key hg hgl hgf
theorem draw_Settle {N k : Nat} (hN : Big N) (hk : k ≤ 1048576) (L : List (Den tPeer)) (h : InvR k L) (id : Int) : ∃ q,x_f74 N L id = some q ∧ InvR k q.1 := by
 have hF := h.f hk
 rw [spec_Settle hN L hF.1]
 refine ⟨_,rfl,?_⟩
 unfold fSettle
 by_cases h0 : fPeerAt id 0 L < 0
 ·rw [dT h0]; exact h
 ·rw [dF h0]
  by_cases h1 : fNextOf L id < 0
  ·rw [dT h1]; exact h
  ·rw [dF h1]
   simp only [cond_false]
   obtain ⟨j,hj,e1,e2,_⟩ := here_at (L := L) (n := id) (by omega)
   rw [e1,Int.toNat_natCast]
   generalize (bif decide (0 ≤ fPeerAt (List.getD L (fPeerAt (fNextOf L id) 0 L).toNat (dft tPeer)).2.2.1 0 L) && (!decide ((List.getD L (fPeerAt (fNextOf L id) 0 L).toNat (dft tPeer)).2.2.1 = fNextOf L id) && (!decide ((List.getD L (fPeerAt (fNextOf L id) 0 L).toNat (dft tPeer)).2.2.1 = id) && betw id (List.getD L (fPeerAt (fNextOf L id) 0 L).toNat (dft tPeer)).2.2.1 (fNextOf L id))) then (List.getD L (fPeerAt (fNextOf L id) 0 L).toNat (dft tPeer)).2.2.1 else fNextOf L id) = n'
   have hgd : L.getD j (dft tPeer) = L[j] := by rw [List.getD_eq_getElem?_getD,List.getElem?_eq_getElem hj]; rfl
   have hq := h.2.2 _ (List.getElem_mem hj)
   have h1 : InvR k (L.set j (setB (L.getD j (dft tPeer)) (fBehind L n' id))) := by
    rw [hgd]
    refine h.set hj ⟨hq.1,?_,⟨fBehind_len L n' id,hq.2.2.1.2⟩,hq.2.2.2⟩ rfl
    intro x hx
    have := fBehind_but L n' id x hx
    rw [← e2] at this; exact this
   generalize L.set j (setB (L.getD j (dft tPeer)) (fBehind L n' id)) = L1 at h1
   cases (decide (fPeerAt (List.getD L (fPeerAt n' 0 L).toNat (dft tPeer)).2.2.1 0 L < 0) || betw (List.getD L (fPeerAt n' 0 L).toNat (dft tPeer)).2.2.1 id n') with
   | false => exact h1
   | true =>
    simp only [cond_true]
    by_cases hi : (fPeerAt n' 0 L).toNat < L1.length
    ·have hgd : L1.getD (fPeerAt n' 0 L).toNat (dft tPeer) = L1[(fPeerAt n' 0 L).toNat] := by rw [List.getD_eq_getElem?_getD,List.getElem?_eq_getElem hi]; rfl
     rw [hgd]
     have hq := h1.2.2 _ (List.getElem_mem hi)
     exact h1.set hi ⟨hq.1,hq.2.1,hq.2.2.1,hq.2.2.2⟩ rfl
    ·rw [List.set_eq_of_length_le (by omega)]; exact h1
end Go.Proofs.YtfmlmdnaeonobaaGreat.C
namespace Go.Proofs.YtfmlmdnaeonobaaGreat.C
open Go Go.Proofs.YtfmlmdnaeonobaaGreat.Nx Go.RowKit
set_option linter.unusedVariables false
set_option linter.unusedSimpArgs false
def oki (k : Nat) (l : List (Den tItem)) : Prop := l.length ≤ k ∧ ∀ t ∈ l,t.1.size ≤ 1
theorem draw_ShelfOf {N k : Nat} (hN : Big N) (hk : k ≤ 1048576) (p : Den tPeer) (h : okp k p) (key : Int) : ∃ l,x_f75 N p key = some l ∧ oki k l := by
 have hN' := n40b hN
 unfold x_f75
 obtain ⟨S,hS⟩ : ∃ S : List (Den tShelf),S = p.2.2.2.2.2 := ⟨_,rfl⟩
 have h4 := h.2.2.2
 rw [← hS] at h4
 have hl : S.length ≤ k := h4.1
 have key := iter_to (B := B_f75_L0 N (fun _ => some []) (fun ρ1 => some (ρ1))) (A := Unit) (fun i _ => (key,p,(i : Int))) (fun i _ r => ∃ l,r = some l ∧ oki k l) S.length
  (fun i a rec_ hi ih => by
   have hs := h4.2 _ (List.getElem_mem hi)
   show ∃ l,(bif _ then _ else _) = _ ∧ _
   rw [← hS,lt_rows S hi,le_rows i,getD_at S hi,w64_up (Nat.le_refl i) (by omega)]
   simp only [Bool.and_self,cond_true]
   cases decide ((S[i]).1 = key) with
   | false => exact ih ()
   | true =>
    have hlen : List.length (α := Den tItem) (S[i]).2 ≤ k := hs.1
    simp only [cond_true,List.length_nil,List.nil_append]
    rw [dT (p := (0 + List.length (α := Den tItem) (S[i]).2) * 24 ≤ 140737488355328) (by omega)]
    exact ⟨_,rfl,hs.1,hs.2⟩)
  (fun a rec_ => by
   show ∃ l,(bif _ then _ else _) = _ ∧ _
   rw [← hS,at_end S]
   exact ⟨[],rfl,by simp,fun t ht => by cases ht⟩)
  N (by omega) ()
 exact key
theorem merged_small {k : Nat} : ∀ (l acc : List (Den tItem)),(∀ t ∈ l,t.1.size ≤ 1) → (∀ t ∈ acc,t.1.size ≤ 1) → ∀ t ∈ l.foldl (fun acc x => insM x acc) acc,t.1.size ≤ 1
 | [],acc,_,h => h
 | x :: xs,acc,h1,h2 => merged_small (k := k) xs (insM x acc) (fun t ht => h1 t (List.mem_cons_of_mem _ ht)) (fun t ht => by
  rcases insM_mem x acc t ht with e | ⟨y,hy,e⟩
  ·rw [e]; exact h1 x (by simp)
  ·rw [e]; exact h2 y hy)
theorem oki_merged {k : Nat} {a b : List (Den tItem)} (ha : oki k a) (hb : oki 1 b) : oki (k + 1) (fMerged a b) := by
 refine ⟨?_,?_⟩
 ·have := fMerged_len (a ++ b) []
  have h1 := ha.1
  have h2 := hb.1
  unfold fMerged
  simp only [List.length_nil,List.length_append] at this
  omega
 ·unfold fMerged
  exact merged_small (k := k) (a ++ b) [] (fun t ht => by
   rcases List.mem_append.1 ht with h | h
   ·exact ha.2 t h
   ·exact hb.2 t h) (fun t ht => by cases ht)
theorem okp_more {k : Nat} {p : Den tPeer} (h : okp k p) : okp (k + 1) p := by
 obtain ⟨h1,h2,h3,h4,h5⟩ := h
 exact ⟨h1,h2,h3,by omega,fun s hs => ⟨by have := (h5 s hs).1; omega,(h5 s hs).2⟩⟩
theorem put_loop {N k : Nat} (hN : Big N) (hk : k ≤ 1000000) {kx kr} (R : Option ((Den tPeer) × Bool) → Prop) (p e0 : Den tPeer) (key : Int) (M : List (Den tItem)) (hM : oki (k + 1) M) (S : List (Den tShelf)) (hS : S = p.2.2.2.2.2) (hl : S.length ≤ k) (hs : ∀ s ∈ S,oki (k + 1) s.2)
  (hx : ∀ (T : List (Den tShelf)) (b : Bool),T.length ≤ k + (bif b then 1 else 0) → (∀ s ∈ T,oki (k + 1) s.2) → R (kx (p,e0,(p.1,p.2.1,p.2.2.1,p.2.2.2.1,p.2.2.2.2.1,T),(key,M),b))) :
  R (iter (B_f71_L0 (Ω := (Den tPeer) × Bool) N kx kr) N (key,p,e0,(p.1,p.2.1,p.2.2.1,p.2.2.2.1,p.2.2.2.2.1,[]),(key,M),false,(0:Int))) := by
 have hN' := n40b hN
 have key := iter_to (B := B_f71_L0 (Ω := (Den tPeer) × Bool) N kx kr) (A := List (Den tShelf) × Bool) (fun i a => (key,p,e0,(p.1,p.2.1,p.2.2.1,p.2.2.2.1,p.2.2.2.2.1,a.1),(key,M),a.2,(i : Int))) (fun i a r => a.1.length ≤ i + (bif a.2 then 1 else 0) → (∀ s ∈ a.1,oki (k + 1) s.2) → R r) S.length
  (fun i a rec_ hi ih h1 h2 => by
   obtain ⟨T,b⟩ := a
   simp only at h1 h2
   have hsi := hs _ (List.getElem_mem hi)
   have happ : ∀ (U : List (Den tShelf)) (x : Den tShelf),(∀ s ∈ U,oki (k + 1) s.2) → oki (k + 1) x.2 → ∀ s ∈ U ++ [x],oki (k + 1) s.2 := fun U x h3 h4 s hs' => by
    rcases List.mem_append.1 hs' with h | h
    ·exact h3 s h
    ·rw [List.mem_singleton.1 h]; exact h4
   show R (bif _ then _ else _)
   rw [← hS,lt_rows S hi,le_rows i,getD_at S hi,w64_up (Nat.le_refl i) (by omega)]
   simp only [Bool.and_self,cond_true,List.length_append,List.length_cons,List.length_nil]
   cases b with
   | true =>
    simp only [cond_true] at h1
    simp only [Bool.not_true,cond_false]
    rw [dT (p := (T.length + (0 + 1)) * 32 ≤ 140737488355328) (by omega)]
    exact ih (T ++ [S[i]],true) (by simp only [List.length_append,List.length_cons,List.length_nil,cond_true]; omega) (happ T _ h2 hsi)
   | false =>
    simp only [cond_false] at h1
    simp only [Bool.not_false,cond_true]
    rw [dT (p := (T.length + (0 + 1)) * 32 ≤ 140737488355328) (by omega),dT (p := (T.length + (0 + 1) + (0 + 1)) * 32 ≤ 140737488355328) (by omega)]
    simp only [cond_true]
    cases decide (key ≤ (S[i]).1) with
    | false => exact ih (T ++ [S[i]],false) (by simp only [List.length_append,List.length_cons,List.length_nil,cond_false]; omega) (happ T _ h2 hsi)
    | true =>
     simp only [cond_true]
     cases decide ((S[i]).1 = key) with
     | true => exact ih (T ++ [(key,M)],true) (by simp only [List.length_append,List.length_cons,List.length_nil,cond_true]; omega) (happ T _ h2 hM)
     | false => exact ih (T ++ [(key,M)] ++ [S[i]],true) (by simp only [List.length_append,List.length_cons,List.length_nil,cond_true]; omega) (happ _ _ (happ T _ h2 hM) hsi))
  (fun a rec_ h1 h2 => by
   obtain ⟨T,b⟩ := a
   show R (bif _ then _ else _)
   rw [← hS,at_end S]
   exact hx T b (by simp only at h1; cases b <;> simp only [cond_true,cond_false] at h1 ⊢ <;> omega) h2)
  N (by omega) ([],false)
 exact key (by simp) (fun s hs => by cases hs)
theorem draw_Put {N k : Nat} (hN : Big N) (hk : k ≤ 1000000) (p : Den tPeer) (h : okp k p) (key : Int) (list : List (Den tItem)) (hl : oki 1 list) : ∃ q,x_f71 N p key list = some q ∧ okp (k + 1) q.1 ∧ q.1.1 = p.1 ∧ q.1.2.1 = p.2.1 ∧ q.1.2.2.2.1 = p.2.2.2.1 ∧ (q.1 = p ∨ peerOk q.1 = true) := by
 have hN' := n40b hN
 have hp := okp_ok (by omega) h
 unfold x_f71
 rw [spec_CopyPeer hN p hp,Option.bind_some]
 obtain ⟨l,e,hlk⟩ := draw_ShelfOf hN (by omega) p h key
 rw [e,Option.bind_some,spec_Merged hN l list (by have := hlk.1; omega) (by have := hl.1; omega),Option.bind_some]
 have hm := oki_merged hlk hl
 generalize fMerged l list = M at hm
 obtain ⟨S,hS⟩ : ∃ S : List (Den tShelf),S = p.2.2.2.2.2 := ⟨_,rfl⟩
 have h4 := h.2.2.2
 rw [← hS] at h4
 have hSl : S.length ≤ k := h4.1
 have okS : ∀ T : List (Den tShelf),T.length ≤ k + 1 → (∀ s ∈ T,oki (k + 1) s.2) → okp (k + 1) (p.1,p.2.1,p.2.2.1,p.2.2.2.1,p.2.2.2.2.1,T) := fun T h1 h2 => ⟨h.1,h.2.1,h.2.2.1,h1,fun s hs => h2 s hs⟩
 have endd : ∀ T : List (Den tShelf),T.length ≤ k + 1 → (∀ s ∈ T,oki (k + 1) s.2) → ∃ q : (Den tPeer) × Bool,((x_f69 N (p.1,p.2.1,p.2.2.1,p.2.2.2.1,p.2.2.2.2.1,T)).bind fun r9 => (bif (!r9) then (x_f87 N p).bind fun r10 => some (r10,false) else (x_f87 N (p.1,p.2.1,p.2.2.1,p.2.2.2.1,p.2.2.2.2.1,T)).bind fun r11 => some (r11,true))) = some q ∧ okp (k + 1) q.1 ∧ q.1.1 = p.1 ∧ q.1.2.1 = p.2.1 ∧ q.1.2.2.2.1 = p.2.2.2.1 ∧ (q.1 = p ∨ peerOk q.1 = true) := fun T h1 h2 => by
  have ho := okS T h1 h2
  have hz := okp_ok (by omega) ho
  rw [spec_PeerOk hN _ hz,Option.bind_some,spec_CopyPeer hN p hp,spec_CopyPeer hN _ hz]
  cases hpk : peerOk (p.1,p.2.1,p.2.2.1,p.2.2.2.1,p.2.2.2.2.1,T) with
  | false => exact ⟨_,rfl,okp_more h,rfl,rfl,rfl,.inl rfl⟩
  | true => exact ⟨_,rfl,ho,rfl,rfl,rfl,.inr hpk⟩
 refine put_loop hN hk (fun r => ∃ q : (Den tPeer) × Bool,r = some q ∧ okp (k + 1) q.1 ∧ q.1.1 = p.1 ∧ q.1.2.1 = p.2.1 ∧ q.1.2.2.2.1 = p.2.2.2.1 ∧ (q.1 = p ∨ peerOk q.1 = true)) p _ key M hm S hS hSl (fun s hs => ⟨by have := (h4.2 s hs).1; omega,(h4.2 s hs).2⟩) (fun T b h1 h2 => ?_)
 cases b with
 | true =>
  simp only [cond_true] at h1
  exact endd T h1 h2
 | false =>
  simp only [cond_false] at h1
  simp only [Bool.not_false,cond_true,List.length_cons,List.length_nil]
  rw [dT (p := (T.length + (0 + 1)) * 32 ≤ 140737488355328) (by omega)]
  exact endd (T ++ [(key,M)]) (by simp only [List.length_append,List.length_cons,List.length_nil]; omega) (fun s hs => by
   rcases List.mem_append.1 hs with h | h
   ·exact h2 s h
   ·rw [List.mem_singleton.1 h]; exact hm)
theorem fPeerAt_set (n : Int) : ∀ (L : List (Den tPeer)) (i j : Nat) (q : Den tPeer),(∀ hj : j < L.length,q.1 = (L[j]).1 ∧ q.2.1 = (L[j]).2.1) → fPeerAt n i (L.set j q) = fPeerAt n i L
 | [],_,_,_,_ => rfl
 | p :: ps,i,0,q,h => by
  have := h (by simp)
  simp only [List.getElem_cons_zero] at this
  rw [List.set_cons_zero]
  unfold fPeerAt
  rw [this.1,this.2]
 | p :: ps,i,j + 1,q,h => by
  rw [List.set_cons_succ]
  unfold fPeerAt
  rw [fPeerAt_set n ps (i + 1) j q (fun hj => by have := h (by simpa using hj); simpa using this)]
theorem fHold_here (L : List (Den tPeer)) : ∀ (xs out : List Int),(∀ x ∈ out,0 ≤ fPeerAt x 0 L) → ∀ x ∈ fHold L out xs,0 ≤ fPeerAt x 0 L
 | [],out,h => h
 | y :: ys,out,h => by
  unfold fHold
  cases hb : (decide (0 ≤ fPeerAt y 0 L) && (!(out.any fun z => decide (z = y)) && decide ((out.length : Int) < 3))) with
  | false => exact fHold_here L ys out h
  | true =>
   simp only [Bool.and_eq_true,decide_eq_true_eq] at hb
   refine fHold_here L ys _ fun x hx => ?_
   rcases List.mem_append.1 hx with hx | hx
   ·exact h x hx
   ·rw [List.mem_singleton.1 hx]; exact hb.1
theorem fHolders_here (L : List (Den tPeer)) (n : Int) : ∀ x ∈ fHolders L n,0 ≤ fPeerAt x 0 L := by
 intro x hx
 unfold fHolders at hx
 by_cases h : fPeerAt n 0 L < 0
 ·rw [dT h] at hx; cases hx
 ·rw [dF h] at hx
  exact fHold_here L _ [n] (fun y hy => by rw [List.mem_singleton.1 hy]; omega) x hx
theorem fHolders_four {k : Nat} {L : List (Den tPeer)} (h : InvR k L) (n : Int) : (fHolders L n).length ≤ 4 := by
 unfold fHolders
 by_cases h0 : fPeerAt n 0 L < 0
 ·rw [dT h0]; simp
 ·rw [dF h0]
  obtain ⟨j,hj,e1,_,_⟩ := here_at (L := L) (n := n) (by omega)
  have := fHold_len L (L.getD (fPeerAt n 0 L).toNat (dft tPeer)).2.2.2.1 [n]
  rw [e1,getD_at L hj] at this ⊢
  have h3 := (h.2.2 _ (List.getElem_mem hj)).2.2.1.1
  simp only [List.length_cons,List.length_nil] at this
  simp only [cond_false]; omega
theorem InvR.more {k k' : Nat} (hk : k ≤ k') {L : List (Den tPeer)} (h : InvR k L) : InvR k' L :=
 ⟨h.1,h.2.1,fun p hp => by
  obtain ⟨h1,h2,h3,h4,h5⟩ := h.2.2 p hp
  exact ⟨h1,h2,h3,by omega,fun s hs => ⟨by have := (h5 s hs).1; omega,(h5 s hs).2⟩⟩⟩
theorem draw_Publish {N k : Nat} (hN : Big N) (hk : k ≤ 1000) (L : List (Den tPeer)) (h : InvR k L) (by_ key : Int) (list : List (Den tItem)) (hl : oki 1 list)
  (W : List (Den tPeer) → Prop) (hW : ∀ (a : List (Den tPeer)) (j : Nat) (hj : j < a.length) (q : Den tPeer),W a → q.1 = (a[j]).1 → q.2.1 = (a[j]).2.1 → q.2.2.2.1 = (a[j]).2.2.2.1 → (q = a[j] ∨ peerOk q = true) → W (a.set j q)) (hw : W L) : ∃ q,x_f70 N L by_ key list = some q ∧ InvR (k + 4) q.1 ∧ W q.1 := by
 have hN' := n40b hN
 have hF := h.f (by omega)
 have hL := hF.1
 unfold x_f70 x_f95
 rw [spec_Copy hN L hL,Option.bind_some,spec_Find hN L hF,Option.bind_some]
 cases (fFind L key 65 by_ 0).2 with
 | false => exact ⟨_,rfl,h.more (by omega),hw⟩
 | true =>
  simp only [Bool.not_true,cond_false]
  rw [spec_HoldersOf hN L hL,Option.bind_some]
  have hh := fHolders_here L (fFind L key 65 by_ 0).1.1
  have h4 := fHolders_four h (fFind L key 65 by_ 0).1.1
  generalize fHolders L (fFind L key 65 by_ 0).1.1 = H at hh h4
  have kk := iter_to (B := B_f95_L0 N (fun (x6,x7,x8) => some ((x7,x8),x6,(),(),())) (fun ρ9 => some (ρ9))) (A := List (Den tPeer) × Int) (fun i a => (a.1,key,list,a.2,H,(i : Int))) (fun i a r => InvR (k + i) a.1 → (∀ n,fPeerAt n 0 a.1 = fPeerAt n 0 L) → W a.1 → ∃ q,r = some q ∧ InvR (k + 4) q.2.1 ∧ W q.2.1) H.length
   (fun i a rec_ hi ih h1 h2 h3 => by
    obtain ⟨a,c⟩ := a
    simp only at h1 h2 h3
    have hx := hh _ (List.getElem_mem hi)
    rw [← h2] at hx
    obtain ⟨j,hj,e1,e2,e3⟩ := here_at hx
    have hp := h1.2.2 _ (List.getElem_mem hj)
    obtain ⟨q,eq,q1,q2,q3,q4,q5⟩ := draw_Put hN (by omega) (a[j]) hp key list hl
    show ∃ q,(bif _ then _ else _) = _ ∧ _
    rw [lt_rows H hi,le_rows i,getD_at H hi,w64_up (Nat.le_refl i) (by omega),spec_PeerAt hN a (h1.f (by omega)).1,Option.bind_some,e1,le_rows j,lt_rows a hj,getD_at a hj,Int.toNat_natCast,Nat.beq_refl]
    have hself : (a.set j ((a[j]).1,(a[j]).2.1,(a[j]).2.2.1,(a[j]).2.2.2.1,(a[j]).2.2.2.2.1,(a[j]).2.2.2.2.2)) = a := List.set_getElem_self hj
    simp only [Bool.and_self,cond_true]
    rw [hself,lt_rows a hj]
    have eq' : x_f71 N ((a[j]).1,(a[j]).2.1,(a[j]).2.2.1,(a[j]).2.2.2.1,(a[j]).2.2.2.2.1,(a[j]).2.2.2.2.2) key list = some q := eq
    rw [eq',Option.bind_some]
    simp only [Bool.and_self,cond_true]
    cases q.2 with
    | false => exact ih (a,c) (h1.more (by omega)) h2 h3
    | true => exact ih (a.set j q.1,_) (by
      have := (h1.more (k' := k + i + 1) (by omega)).set hj q1 q2
      exact this) (fun n => by rw [fPeerAt_set n a 0 j q.1 (fun _ => ⟨q2,q3⟩)]; exact h2 n) (hW a j hj q.1 h3 q2 q3 q4 q5))
   (fun a rec_ h1 h2 h3 => by
    show ∃ q,(bif _ then _ else _) = _ ∧ _
    rw [at_end H]
    exact ⟨_,rfl,h1.more (by omega),h3⟩)
   N (by omega) (L,0)
  obtain ⟨q,e,hq⟩ := kk h (fun _ => rfl) hw
  have e' : iter (B_f95_L0 N (fun (x6,x7,x8) => some ((x7,x8),x6,(),(),())) (fun ρ9 => some (ρ9))) N (L,key,list,(0:Int),H,(0:Int)) = some q := e
  rw [e']
  exact ⟨_,rfl,hq⟩
end Go.Proofs.YtfmlmdnaeonobaaGreat.C
namespace Go.Proofs.YtfmlmdnaeonobaaGreat.C
open Go Go.Proofs.YtfmlmdnaeonobaaGreat.Nx Go.RowKit
set_option linter.unusedVariables false
set_option linter.unusedSimpArgs false
theorem step_here {L : List (Den tPeer)} (hI : InvF L) {id key : Int} (h : (fStep L id key).2 = true) : 0 ≤ fPeerAt (fStep L id key).1 0 L := by
 unfold fStep at h ⊢
 by_cases hp : fPeerAt id 0 L < 0
 ·rw [dT hp] at h; cases h
 ·rw [dF hp] at h ⊢
  by_cases hn : fNextOf L id < 0
  ·rw [dT hn] at h; cases h
  ·rw [dF hn] at h ⊢
   obtain ⟨n1,n2,_,_⟩ := next_ok hI (id := id) (by omega)
   cases hk : decide (key % 256 = id) with
   | true => exact n1
   | false =>
    rw [hk] at h
    cases hc : betw id (key % 256) (fNextOf L id) with
    | true => exact n2
    | false => rw [hc] at h; cases h
theorem find_here {L : List (Den tPeer)} (hI : InvF L) (key : Int) : ∀ (n : Nat) (a h : Int),(fFind L key n a h).2 = true → 0 ≤ fPeerAt (fFind L key n a h).1.1 0 L ∧ (fFind L key n a h).1.2 ≤ h + (n : Int)
 | 0,a,h,e => by cases e
 | n + 1,a,h,e => by
  unfold fFind at e ⊢
  cases h0 : decide ((fStep L a key).1 < 0) with
  | true => rw [h0] at e; cases e
  | false =>
   rw [h0] at e
   simp only [cond_false] at e ⊢
   cases h2 : (fStep L a key).2 with
   | true =>
    refine ⟨step_here hI h2,?_⟩
    show (bif _ then h else h + 1) ≤ _
    cases decide ((fStep L a key).1 = a) <;> simp only [cond_true,cond_false] <;> omega
   | false =>
    rw [h2] at e
    simp only [cond_false] at e ⊢
    have := find_here hI key n _ _ e
    refine ⟨this.1,?_⟩
    have h3 := this.2
    revert h3
    cases decide ((fStep L a key).1 = a) <;> simp only [cond_true,cond_false] <;> intro h3 <;> omega
end Go.Proofs.YtfmlmdnaeonobaaGreat.C
namespace Go.Proofs.YtfmlmdnaeonobaaGreat.C
open Go Go.Proofs.YtfmlmdnaeonobaaGreat.Nx Go.RowKit
set_option linter.unusedVariables false
set_option linter.unusedSimpArgs false
theorem nodup_inj {L : List (Den tPeer)} (h : (L.map fun p => p.1).Nodup) {i j : Nat} (hi : i < L.length) (hj : j < L.length) (e : (L[i]).1 = (L[j]).1) : i = j := by
 rw [List.nodup_iff_pairwise_ne,List.pairwise_iff_getElem] at h
 rcases Nat.lt_trichotomy i j with hlt | he | hlt
 ·exact (h i j (by simpa using hi) (by simpa using hj) hlt (by simpa using e)).elim
 ·exact he
 ·exact (h j i (by simpa using hj) (by simpa using hi) hlt (by simpa using e.symm)).elim
def fAwayAt (id : Int) : Nat → List (Den tPeer) → Int
 | _,[] => -1
 | j,p :: ps => bif !p.2.1 && decide (p.1 = id) then (j : Int) else fAwayAt id (j + 1) ps
def fLast (id : Int) : Nat → Int → List (Den tPeer) → Int
 | _,a,[] => a
 | j,a,p :: ps => fLast id (j + 1) (bif decide (p.1 = id) then (bif p.2.1 then a else (j : Int)) else a) ps
theorem fLast_none (id : Int) : ∀ (L : List (Den tPeer)) (j : Nat) (a : Int),(∀ p ∈ L,p.1 ≠ id) → fLast id j a L = a
 | [],_,_,_ => rfl
 | p :: ps,j,a,h => by
  unfold fLast
  rw [dF (h p (by simp))]
  exact fLast_none id ps (j + 1) a fun q hq => h q (by simp [hq])
theorem fAway_none (id : Int) : ∀ (L : List (Den tPeer)) (j : Nat),(∀ p ∈ L,p.1 ≠ id) → fAwayAt id j L = -1
 | [],_,_ => rfl
 | p :: ps,j,h => by
  unfold fAwayAt
  rw [dF (h p (by simp)),Bool.and_false]
  exact fAway_none id ps (j + 1) fun q hq => h q (by simp [hq])
theorem fLast_eq (id : Int) : ∀ (L : List (Den tPeer)) (j : Nat),(L.map fun p => p.1).Nodup → fLast id j (-1) L = fAwayAt id j L
 | [],_,_ => rfl
 | p :: ps,j,h => by
  rw [List.map_cons,List.nodup_cons] at h
  unfold fLast fAwayAt
  by_cases he : p.1 = id
  ·have hn : ∀ q ∈ ps,q.1 ≠ id := fun q hq e => h.1 (by rw [he,← e]; exact List.mem_map.2 ⟨q,hq,rfl⟩)
   rw [dT he,Bool.and_true,cond_true,fLast_none id ps _ _ hn,fAway_none id ps _ hn]
   cases p.2.1 <;> rfl
  ·rw [dF he,Bool.and_false]
   exact fLast_eq id ps (j + 1) h.2
theorem fAway_or (id : Int) : ∀ (L : List (Den tPeer)) (j : Nat),fAwayAt id j L = -1 ∨ ∃ i : Nat,∃ hi : i < L.length,fAwayAt id j L = ((j + i : Nat) : Int) ∧ (L[i]).1 = id ∧ (L[i]).2.1 = false
 | [],_ => .inl rfl
 | p :: ps,j => by
  unfold fAwayAt
  cases hp : (!p.2.1 && decide (p.1 = id)) with
  | true =>
   simp only [Bool.and_eq_true,Bool.not_eq_true',decide_eq_true_eq] at hp
   exact .inr ⟨0,by simp,rfl,hp.2,hp.1⟩
  | false =>
   rcases fAway_or id ps (j + 1) with h | ⟨i,hi,h1,h2,h3⟩
   ·exact .inl h
   ·exact .inr ⟨i + 1,by simpa using hi,by rw [cond_false,h1]; congr 1; omega,by simpa using h2,by simpa using h3⟩
theorem away_here {L : List (Den tPeer)} (h : (L.map fun p => p.1).Nodup) {id : Int} {i : Nat} (hi : i < L.length) (h1 : (L[i]).1 = id) (h2 : (L[i]).2.1 = false) : fPeerAt id 0 L < 0 := by
 rcases Int.lt_or_le (fPeerAt id 0 L) 0 with h0 | h0
 ·exact h0
 ·obtain ⟨j,hj,e1,e2,e3⟩ := here_at h0
  have := nodup_inj h hi hj (by rw [h1,e2])
  subst this
  rw [h2] at e3; cases e3
def fJoined (L : List (Den tPeer)) (id by_ : Int) : List (Den tPeer) × Bool :=
 bif decide (fAwayAt id 0 L < 0) || !(fFind L id 65 by_ 0).2 then (L,false) else
  (L.set (fAwayAt id 0 L).toNat (id,true,(-1:Int),fBehind L (fFind L id 65 by_ 0).1.1 id,List.replicate 8 (-1),[]),true)
theorem spec_Joined {N : Nat} (hN : Big N) (L : List (Den tPeer)) (hF : InvF L) (hn : (L.map fun p => p.1).Nodup) (id by_ : Int) : x_f63 N L id by_ = some (fJoined L id by_) := by
 have hN' := n40b hN
 have hL := hF.1
 have hl := hL.1
 unfold x_f63
 rw [spec_Copy hN L hL,Option.bind_some]
 have fin : ∀ i : Nat,∀ hi : i < L.length,∀ F : List Int,iter (B_f63_L2 N (fun (x12,x13,x14,x15) => (bif (decide (0 ≤ x14) && decide (x14 < (List.length (α := Den tPeer) x13 : Int))) then some ((List.set (α := Den tPeer) x13 x14.toNat x15),true) else none)) (fun ρ16 => some (ρ16))) N ([],L,(i : Int),(id,true,(-1:Int),F,[],[]),(0:Int)) = some (L.set i (id,true,(-1:Int),F,List.replicate 8 (-1),[]),true) := by
  intro i hi F
  obtain ⟨m,hm⟩ : ∃ m : Nat,m = 8 := ⟨8,rfl⟩
  have key := iter_to (B := B_f63_L2 N (fun (x12,x13,x14,x15) => (bif (decide (0 ≤ x14) && decide (x14 < (List.length (α := Den tPeer) x13 : Int))) then some ((List.set (α := Den tPeer) x13 x14.toNat x15),true) else none)) (fun ρ16 => some (ρ16))) (A := List Int) (fun j a => ([],L,(i : Int),(id,true,(-1:Int),F,a,[]),(j : Int))) (fun j a r => a = List.replicate j (-1) → r = some (L.set i (id,true,(-1:Int),F,List.replicate m (-1),[]),true)) m
   (fun j a rec_ hj ih ha => by
    have hal : a.length = j := by rw [ha]; simp
    show (bif _ then _ else _) = _
    rw [dT (p := (j : Int) < 8) (by omega),w64_up (Nat.le_refl j) (by omega),dT (p := (a.length + [(-1:Int)].length) * 8 ≤ 140737488355328) (by simp only [List.length_cons,List.length_nil]; omega)]
    exact ih (a ++ [-1]) (by rw [ha,List.replicate_succ']))
   (fun a rec_ ha => by
    show (bif _ then _ else _) = _
    rw [dF (p := (m : Int) < 8) (by omega)]
    simp only [cond_false]
    rw [le_rows i,lt_rows L hi,Int.toNat_natCast,ha]; rfl)
   N (by omega) []
  have := key rfl
  rw [hm] at this; exact this
 have key := iter_to (B := B_f63_L0 N (fun (x2,x3,x4,x5,x6,x7) => (x_f58 N x4 x3 x2).bind fun r8 => (bif (decide (x7 < (0:Int))) then some (x6,false) else (bif (!r8.2) then some (x6,false) else (x_f68 N x4 x2).bind fun r9 => (bif (decide ((0:Int) ≤ r9)) then some (x6,false) else (x_f68 N x4 r8.1.1).bind fun r10 => (bif (decide (r10 < (0:Int))) then some (x6,false) else (x_f92 N x4 r8.1.1 x2).bind fun r11 => iter (B_f63_L2 N (fun (x12,x13,x14,x15) => (bif (decide (0 ≤ x14) && decide (x14 < (List.length (α := Den tPeer) x13 : Int))) then some ((List.set (α := Den tPeer) x13 x14.toNat x15),true) else none)) (fun ρ16 => some (ρ16))) N (x5,x6,x7,(x2,true,(-1:Int),r11,[],[]),(0:Int))))))) (fun ρ17 => some (ρ17))) (A := Int) (fun j a => (id,by_,L,[],L,a,(j : Int))) (fun j a r => fLast id j a (L.drop j) = fAwayAt id 0 L → r = some (fJoined L id by_)) L.length
  (fun j a rec_ hj ih ha => by
   show (bif _ then _ else _) = _
   rw [lt_rows L hj,le_rows j,getD_at L hj,w64_up (Nat.le_refl j) (by omega)]
   rw [drop_cons hj] at ha
   unfold fLast at ha
   simp only [Bool.and_self,cond_true]
   cases hd : decide ((L[j]).1 = id) with
   | false => rw [hd] at ha; exact ih a ha
   | true =>
    rw [hd] at ha
    cases hh : (L[j]).2.1 with
    | false => rw [hh] at ha; exact ih (j : Int) ha
    | true => rw [hh] at ha; exact ih a ha)
  (fun a rec_ ha => by
   show (bif _ then _ else _) = _
   rw [at_end L]
   rw [List.drop_length] at ha
   replace ha : a = fAwayAt id 0 L := ha
   simp only [cond_false]
   rw [spec_Find hN L hF,Option.bind_some]
   unfold fJoined
   rw [← ha]
   rcases fAway_or id L 0 with e | ⟨i,hi,e,h1,h2⟩
   ·rw [ha,e]; rfl
   ·rw [Nat.zero_add] at e
    rw [ha,e,dF (p := (i : Int) < 0) (by omega)]
    cases hm : (fFind L id 65 by_ 0).2 with
    | false => rfl
    | true =>
     simp only [Bool.not_true,cond_false,Bool.or_self]
     rw [spec_PeerAt hN L hL,Option.bind_some]
     have h3 := away_here hn hi h1 h2
     rw [dF (p := 0 ≤ fPeerAt id 0 L) (by omega)]
     simp only [cond_false]
     obtain ⟨h4,_⟩ := find_here hF id 65 by_ 0 hm
     rw [spec_PeerAt hN L hL,Option.bind_some,dF (p := fPeerAt (fFind L id 65 by_ 0).1.1 0 L < 0) (by omega)]
     simp only [cond_false]
     rw [spec_Behind hN L hL _ _ h4,Option.bind_some]
     exact fin i hi _)
  N (by omega) (-1)
 exact key (by rw [List.drop_zero]; exact fLast_eq id L 0 hn)
end Go.Proofs.YtfmlmdnaeonobaaGreat.C
namespace Go.Proofs.YtfmlmdnaeonobaaGreat.C
open Go Go.Proofs.YtfmlmdnaeonobaaGreat.Nx Go.RowKit
set_option linter.unusedVariables false
set_option linter.unusedSimpArgs false
theorem srt_unique : ∀ {a b : List Int},a.Pairwise (· ≤ ·) → b.Pairwise (· ≤ ·) → a.Perm b → a = b
 | [],b,_,_,h => (List.nil_perm.1 h).symm
 | x :: xs,[],_,_,h => by have := h.length_eq; simp at this
 | x :: xs,y :: ys,h1,h2,h => by
  obtain ⟨p1,p2⟩ := List.pairwise_cons.1 h1
  obtain ⟨q1,q2⟩ := List.pairwise_cons.1 h2
  have e1 : y ≤ x := by
   rcases List.mem_cons.1 (h.mem_iff.1 (List.mem_cons_self)) with e | e
   ·omega
   ·exact q1 x e
  have e2 : x ≤ y := by
   rcases List.mem_cons.1 (h.mem_iff.2 (List.mem_cons_self)) with e | e
   ·omega
   ·exact p1 y e
  have : x = y := by omega
  subst this
  rw [srt_unique p2 q2 (List.perm_cons _ |>.1 h)]
theorem sortI_srt (l : List Int) : (sortI l).Pairwise (· ≤ ·) := by
 have := List.pairwise_mergeSort (le := fun x y : Int => decide (x ≤ y)) (fun a b c h1 h2 => by simp only [decide_eq_true_eq] at *; omega) (fun a b => by simp only [Bool.or_eq_true,decide_eq_true_eq]; omega) l
 unfold sortI
 exact this.imp fun h => by simpa using h
theorem sortI_perm (l : List Int) : (sortI l).Perm l := List.mergeSort_perm _ _
theorem insAll_sort (l : List Int) : insAll [] l = sortI l :=
 srt_unique (insAll_srt l [] List.Pairwise.nil) (sortI_srt l) ((insAll_perm l []).trans (sortI_perm l).symm)
theorem impl_HereOf {N : Nat} (hN : Big N) (L : Den tRing) (hL : okz tRing L) : x_f3 N L = some (sortI (fHereL L)) := by
 have hN' : 1099511627776 ≤ N := hN
 have hl : List.length (α := Den tPeer) L ≤ 1048576 := hL.1
 unfold x_f3
 have key := iter_to (B := B_f3_L0 N (fun x1 => (x_f45 N x1).bind fun r2 => some r2.2) (fun ρ3 => some (ρ3))) (A := List Int) (fun i a => (a,L,(List.length (α := Den tPeer) L : Int),(i : Int))) (fun i a r => a.length ≤ i → r = some (sortI (a ++ fHereL (List.drop (α := Den tPeer) i L)))) (List.length (α := Den tPeer) L)
  (fun i out rec_ hi h ho => by
   show (bif _ then _ else _) = _
   have hi' := lt_rows (α := Den tPeer) L hi
   have hg : (List.getD (α := Den tPeer) L ((i : Int)).toNat (dft tPeer)) = L[i] := getD_at (α := Den tPeer) L hi (dft tPeer)
   rw [hi',le_rows i,hg,w64_up (Nat.le_refl i) (by omega),drop_cons (α := Den tPeer) hi]
   simp only [Bool.and_self,cond_true]
   unfold fHereL
   cases hp : (L[i]).2.1 with
   | false =>
    simp only [cond_false]
    exact h out (by omega)
   | true =>
    simp only [cond_true]
    rw [dT (p := (out.length + [(L[i]).1].length) * 8 ≤ 140737488355328) (by simp only [List.length_cons,List.length_nil]; omega)]
    have := h (out ++ [(L[i]).1]) (by simp only [List.length_append,List.length_cons,List.length_nil]; omega)
    rw [List.append_assoc] at this
    exact this)
  (fun out rec_ ho => by
   show (bif _ then _ else _) = _
   rw [at_end (α := Den tPeer) L,List.drop_length]
   unfold x_f45
   simp only [cond_false,fHereL,List.append_nil]
   rw [dT (p := List.length (α := Int) out ≤ 140737488355328) (by omega)]; rfl)
  N (by omega) []
 exact key (by simp)
end Go.Proofs.YtfmlmdnaeonobaaGreat.C
namespace Go.Proofs.YtfmlmdnaeonobaaGreat.C
open Go Go.Proofs.YtfmlmdnaeonobaaGreat.Nx Go.RowKit
set_option linter.unusedVariables false
set_option linter.unusedSimpArgs false
end Go.Proofs.YtfmlmdnaeonobaaGreat.C
namespace Go.Proofs.YtfmlmdnaeonobaaGreat.C
open Go Go.Proofs.YtfmlmdnaeonobaaGreat.Nx Go.RowKit
set_option linter.unusedVariables false
set_option linter.unusedSimpArgs false
def lost (L : List (Den tPeer)) (p : Den tPeer) : Bool := p.2.1 && !knows L p.2.2.2.1
def fGone (L : List (Den tPeer)) (id : Int) : List (Den tPeer) × Bool :=
 bif decide (fPeerAt id 0 L < 4) then (L,false) else
  bif (L.set (fPeerAt id 0 L).toNat (id,false,(0:Int),[],[],[])).any (lost (L.set (fPeerAt id 0 L).toNat (id,false,(0:Int),[],[],[]))) then (L,false) else
   (L.set (fPeerAt id 0 L).toNat (id,false,(0:Int),[],[],[]),true)
theorem fNext_negI {L : List (Den tPeer)} (hI : InvF L) : ∀ F : List Int,decide (fNext L F < 0) = !knows L F
 | [] => rfl
 | x :: xs => by
  unfold fNext knows
  rw [List.any_cons]
  have ih := fNext_negI hI xs
  unfold knows at ih
  by_cases hx : 0 ≤ fPeerAt x 0 L
  ·rw [dT hx,cond_true,Bool.true_or]
   have := here_in hI hx
   exact dF (by omega)
  ·rw [dF hx,cond_false,ih,Bool.false_or]
theorem nodup_dup {L : List (Den tPeer)} (h : (L.map fun p => p.1).Nodup) {i : Nat} (hi : i < L.length) : dupId L i L[i] = false := by
 unfold dupId
 rw [List.any_eq_false]
 intro q hq
 obtain ⟨j,hj,rfl⟩ := List.mem_take_iff_getElem.1 hq
 intro e
 have hj2 : j < L.length := by omega
 have := nodup_inj h hj2 hi (of_decide_eq_true e)
 omega
theorem nodup_set {L : List (Den tPeer)} (h : (L.map fun p => p.1).Nodup) {i : Nat} (hi : i < L.length) {q : Den tPeer} (he : q.1 = (L[i]).1) : ((L.set i q).map fun p => p.1).Nodup := by
 have e : (L.set i q).map (fun p => p.1) = L.map fun p => p.1 := by
  rw [List.map_set,he]
  have : (L[i]).1 = (L.map fun p => p.1)[i]'(by rw [List.length_map]; exact hi) := by simp
  rw [this,List.set_getElem_self]
 rw [e]; exact h
theorem InvF.set {L : List (Den tPeer)} (h : InvF L) {i : Nat} (hi : i < L.length) {q : Den tPeer} (hq : okz tPeer q) (he : q.1 = (L[i]).1) (hb : ∀ x ∈ q.2.2.2.1,x ≠ (L[i]).1) : InvF (L.set i q) := by
 have hL := h.1
 have h2 := h.2 _ (List.getElem_mem hi)
 refine ⟨⟨by rw [List.length_set]; exact hL.1,fun p hp => ?_⟩,fun p hp => ?_⟩
 ·rcases List.mem_or_eq_of_mem_set hp with hp | rfl
  ·exact hL.2 p hp
  ·exact hq
 ·rcases List.mem_or_eq_of_mem_set hp with hp | rfl
  ·exact h.2 p hp
  ·rw [he]; exact ⟨h2.1,h2.2.1,hb⟩
theorem gone_inv {L : List (Den tPeer)} (hF : InvF L) {i : Nat} (hi : i < L.length) {id : Int} (e : (L[i]).1 = id) : InvF (L.set i (id,false,(0:Int),[],[],[])) :=
 hF.set hi ⟨trivial,trivial,trivial,⟨by simp,fun _ h => by cases h⟩,⟨by simp,fun _ h => by cases h⟩,⟨by simp,fun _ h => by cases h⟩⟩ e.symm (fun x hx => by cases hx)
theorem spec_Gone {N : Nat} (hN : Big N) (L : List (Den tPeer)) (hF : InvF L) (hn : (L.map fun p => p.1).Nodup) (id : Int) : x_f60 N L id = some (fGone L id) := by
 have hN' := n40b hN
 have hL := hF.1
 have hl := hL.1
 unfold x_f60 fGone
 rw [spec_Copy hN L hL,Option.bind_some,spec_PeerAt hN L hL,Option.bind_some]
 by_cases h4 : fPeerAt id 0 L < 4
 ·rw [dT h4]; rfl
 ·rw [dF h4]
  obtain ⟨j,hj,e1,e2,_⟩ := here_at (L := L) (n := id) (by omega)
  rw [e1,le_rows j,lt_rows L hj,Int.toNat_natCast]
  simp only [Bool.and_self,cond_true,cond_false]
  have hg := gone_inv hF hj e2
  have hgn := nodup_set hn hj (q := (id,false,(0:Int),[],[],[])) e2.symm
  generalize L.set j (id,false,(0:Int),[],[],[]) = L2 at hg hgn
  have hgL := hg.1
  have hl2 := hgL.1
  have key := iter_to (B := B_f60_L0 N (fun (x5,x6) => some (x6,true)) (fun ρ7 => some (ρ7))) (A := Unit) (fun i _ => (L,[],L2,(i : Int))) (fun i _ r => r = some (bif (L2.drop i).any (lost L2) then (L,false) else (L2,true))) L2.length
   (fun i a rec_ hi ih => by
    show (bif _ then _ else _) = _
    rw [lt_rows L2 hi,le_rows i,getD_at L2 hi,w64_up (Nat.le_refl i) (by omega),drop_cons hi,List.any_cons]
    simp only [Bool.and_self,cond_true]
    unfold lost at ih ⊢
    cases hh : (L2[i]).2.1 with
    | false => exact ih ()
    | true =>
     have hnx : decide (fNextOf L2 (L2[i]).1 < 0) = !knows L2 (L2[i]).2.2.2.1 := by
      unfold fNextOf
      rw [fPeerAt_at L2 hi hh (nodup_dup hgn hi),dF (p := (i : Int) < 0) (by omega),cond_false,getD_at L2 hi,fNext_negI hg]
     simp only [cond_true]
     rw [spec_NextOf hN L2 hgL,Option.bind_some,hnx]
     cases knows L2 (L2[i]).2.2.2.1 with
     | false =>
      simp only [Bool.not_false,cond_true,Bool.true_and,Bool.true_or]
      rw [spec_Copy hN L hL,Option.bind_some]
     | true => exact ih ())
   (fun a rec_ => by
    show (bif _ then _ else _) = _
    rw [at_end L2,List.drop_length]; rfl)
   N (by omega) ()
  rw [List.drop_zero] at key
  exact key
end Go.Proofs.YtfmlmdnaeonobaaGreat.C
namespace Go.Proofs.YtfmlmdnaeonobaaGreat.C
open Go Go.Proofs.YtfmlmdnaeonobaaGreat.Nx Go.RowKit
set_option linter.unusedVariables false
set_option linter.unusedSimpArgs false
def fFv (L : List (Den tPeer)) (id : Int) (k : Nat) : Int := (fFind L (wrap64 (id + shlI .i64 (1:Int) (k : Int))) 65 id 0).1.1
def setF (p : Den tPeer) (l : List Int) : Den tPeer := (p.1,p.2.1,p.2.2.1,p.2.2.2.1,l,p.2.2.2.2.2)
def fFingered (L : List (Den tPeer)) (id : Int) : List (Den tPeer) × Bool :=
 bif decide (fPeerAt id 0 L < 0) then (L,false) else
  (L.set (fPeerAt id 0 L).toNat (setF (L.getD (fPeerAt id 0 L).toNat (dft tPeer)) ((List.range 8).map (fFv L id))),true)
theorem fFind_no (L : List (Den tPeer)) (key : Int) : ∀ (n : Nat) (a h : Int),(fFind L key n a h).2 = false → (fFind L key n a h).1.1 = -1
 | 0,_,_,_ => rfl
 | n + 1,a,h,e => by
  unfold fFind at e ⊢
  cases h0 : decide ((fStep L a key).1 < 0) with
  | true => rfl
  | false =>
   rw [h0] at e
   simp only [cond_false] at e ⊢
   cases h2 : (fStep L a key).2 with
   | true => rw [h2] at e; cases e
   | false =>
    rw [h2] at e
    simp only [cond_false] at e ⊢
    exact fFind_no L key n _ _ e
theorem range_snoc (f : Nat → Int) (i : Nat) : (List.range i).map f ++ [f i] = (List.range (i + 1)).map f := by
 rw [List.range_succ,List.map_append]; rfl
theorem spec_Fingered {N : Nat} (hN : Big N) (L : List (Den tPeer)) (hF : InvF L) (id : Int) : x_f59 N L id = some (fFingered L id) := by
 have hN' := n40b hN
 have hL := hF.1
 have hl := hL.1
 unfold x_f59 fFingered
 rw [spec_Copy hN L hL,Option.bind_some,spec_PeerAt hN L hL,Option.bind_some]
 by_cases h4 : fPeerAt id 0 L < 0
 ·rw [dT h4]; rfl
 ·rw [dF h4]
  obtain ⟨j,hj,e1,e2,_⟩ := here_at (L := L) (n := id) (by omega)
  rw [e1,le_rows j,lt_rows L hj]
  simp only [Bool.and_self,cond_true,cond_false]
  rw [getD_at L hj,Int.toNat_natCast]
  have hgd : L.getD j (dft tPeer) = L[j] := by rw [List.getD_eq_getElem?_getD,List.getElem?_eq_getElem hj]; rfl
  obtain ⟨m,hm⟩ : ∃ m : Nat,m = 8 := ⟨8,rfl⟩
  have key := iter_to (B := B_f59_L0 N (fun (x5,x6) => some (x6,true)) (fun ρ7 => some (ρ7))) (A := List (Den tPeer)) (fun i a => (id,L,[],a,(j : Int),(i : Int))) (fun i a r => a = L.set j (setF (L[j]) ((List.range i).map (fFv L id))) → r = some (L.set j (setF (L[j]) ((List.range m).map (fFv L id))),true)) m
   (fun i a rec_ hi ih ha => by
    have hja : j < a.length := by rw [ha,List.length_set]; exact hj
    have e : (i : Int) % 18446744073709551616 = (i : Int) := by omega
    have haj : a[j] = setF (L[j]) ((List.range i).map (fFv L id)) := by subst ha; exact List.getElem_set_self _
    have hfl : (a[j]).2.2.2.2.1.length = i := by rw [haj]; show ((List.range i).map (fFv L id)).length = i; simp
    have nxt : rec_ (id,L,[],a.set j (addF a[j] (fFv L id i)),(j : Int),((i + 1 : Nat) : Int)) = some (L.set j (setF (L[j]) ((List.range m).map (fFv L id))),true) := by
     refine ih _ ?_
     rw [haj,ha,List.set_set]
     show L.set j (setF (L[j]) ((List.range i).map (fFv L id) ++ [fFv L id i])) = _
     rw [range_snoc]
    show (bif _ then _ else _) = _
    rw [dT (p := (i : Int) < 8) (by omega),e,le_rows i,spec_Find hN L hF,Option.bind_some,le_rows j,lt_rows a hja,getD_at a hja,Int.toNat_natCast,Nat.beq_refl,w64_up (Nat.le_refl i) (by omega)]
    simp only [Bool.and_self,cond_true,agree_self]
    rw [dT (p := ((a[j]).2.2.2.2.1.length + [(-1:Int)].length) * 8 ≤ 140737488355328) (by simp only [List.length_cons,List.length_nil]; omega),dT (p := ((a[j]).2.2.2.2.1.length + [(fFind L (wrap64 (id + shlI .i64 (1:Int) (i : Int))) 65 id 0).1.1].length) * 8 ≤ 140737488355328) (by simp only [List.length_cons,List.length_nil]; omega)]
    simp only [cond_true]
    cases hm : (fFind L (wrap64 (id + shlI .i64 (1:Int) (i : Int))) 65 id 0).2 with
    | false =>
     have hv : fFv L id i = -1 := fFind_no L _ 65 id 0 hm
     rw [hv] at nxt
     exact nxt
    | true => exact nxt)
   (fun a rec_ ha => by
    show (bif _ then _ else _) = _
    rw [dF (p := (m : Int) < 8) (by omega),ha]; rfl)
   N (by omega) (L.set j (setF (L[j]) []))
  have := key rfl
  rw [hm] at this
  exact this
end Go.Proofs.YtfmlmdnaeonobaaGreat.C
namespace Go.Proofs.YtfmlmdnaeonobaaGreat.C
open Go Go.Proofs.YtfmlmdnaeonobaaGreat.Nx Go.RowKit
set_option linter.unusedVariables false
set_option linter.unusedSimpArgs false
theorem here_len (L : List (Den tPeer)) : (insAll [] (fHereL L)).length ≤ L.length := by
 have h1 := (insAll_perm (fHereL L) []).length_eq
 have h2 := fHereL_len L
 simp only [List.nil_append] at h1
 omega
end Go.Proofs.YtfmlmdnaeonobaaGreat.C
namespace Go.Proofs.YtfmlmdnaeonobaaGreat.C
open Go Go.Proofs.YtfmlmdnaeonobaaGreat.Nx Go.RowKit
set_option linter.unusedVariables false
set_option linter.unusedSimpArgs false
set_option maxRecDepth 100000
theorem here_iff (x : Int) : ∀ (L : List (Den tPeer)) (j : Nat),0 ≤ fPeerAt x j L ↔ ∃ p ∈ L,p.2.1 = true ∧ p.1 = x
 | [],j => by
  unfold fPeerAt
  constructor
  ·intro h; omega
  ·rintro ⟨p,h,_⟩; cases h
 | p :: ps,j => by
  unfold fPeerAt
  cases hp : (p.2.1 && decide (p.1 = x)) with
  | true =>
   simp only [Bool.and_eq_true,decide_eq_true_eq] at hp
   rw [cond_true]
   exact ⟨fun _ => ⟨p,by simp,hp⟩,fun _ => by omega⟩
  | false =>
   rw [cond_false,here_iff x ps (j + 1)]
   constructor
   ·rintro ⟨q,h1,h2⟩; exact ⟨q,by simp [h1],h2⟩
   ·rintro ⟨q,h1,h2,h3⟩
    rcases List.mem_cons.1 h1 with rfl | h1
    ·rw [h2,dT h3] at hp; cases hp
    ·exact ⟨q,h1,h2,h3⟩
theorem knows_mono {L L' : List (Den tPeer)} (h : ∀ x,0 ≤ fPeerAt x 0 L → 0 ≤ fPeerAt x 0 L') {F : List Int} (hk : knows L F = true) : knows L' F = true := by
 unfold knows at hk ⊢
 rw [List.any_eq_true] at hk ⊢
 obtain ⟨x,h1,h2⟩ := hk
 exact ⟨x,h1,decide_eq_true (h x (of_decide_eq_true h2))⟩
theorem here_set {L : List (Den tPeer)} {i : Nat} (hi : i < L.length) {q : Den tPeer} (he : q.1 = (L[i]).1) (hh : (L[i]).2.1 = true → q.2.1 = true) (x : Int) (h : 0 ≤ fPeerAt x 0 L) : 0 ≤ fPeerAt x 0 (L.set i q) := by
 rw [here_iff] at h ⊢
 obtain ⟨p,h1,h2,h3⟩ := h
 obtain ⟨j,hj,rfl⟩ := List.getElem_of_mem h1
 by_cases hij : i = j
 ·subst hij
  exact ⟨q,List.mem_set hi q,hh h2,by rw [he]; exact h3⟩
 ·exact ⟨L[j],List.mem_iff_getElem.2 ⟨j,by rw [List.length_set]; exact hj,by rw [List.getElem_set_ne hij]⟩,h2,h3⟩
def okH (p : Den tPeer) : Prop := (0 ≤ p.1 ∧ p.1 ≤ 255) ∧ (-1 ≤ p.2.2.1 ∧ p.2.2.1 ≤ 255) ∧ p.2.2.2.1.length ≤ 3 ∧ p.2.2.2.2.1.length = 8 ∧ List.length (α := Den tShelf) p.2.2.2.2.2 ≤ 80 ∧
 (∀ x ∈ p.2.2.2.1,(0 ≤ x ∧ x ≤ 255) ∧ x ≠ p.1) ∧ (∀ x ∈ p.2.2.2.2.1,-1 ≤ x ∧ x ≤ 255) ∧ allI (shelfAt p.2.2.2.2.2) 0 p.2.2.2.2.2 = true
theorem inR_iff {x a b : Int} : inR x a b = true ↔ a ≤ x ∧ x ≤ b := by
 unfold inR
 rw [Bool.and_eq_true,decide_eq_true_eq,decide_eq_true_eq]
theorem peerOk_here {p : Den tPeer} (hh : p.2.1 = true) : peerOk p = true ↔ okH p := by
 unfold peerOk okH
 rw [hh,allI_all,allI_all]
 simp only [Bool.and_eq_true,cond_true,inR_iff,List.all_eq_true,Bool.not_eq_true',decide_eq_true_eq,decide_eq_false_iff_not]
 constructor
 ·rintro ⟨h1,h2,h3,h4,h5,h6,h7,h8⟩
  exact ⟨h1,h2,by omega,by omega,by omega,h6,h7,h8⟩
 ·rintro ⟨h1,h2,h3,h4,h5,h6,h7,h8⟩
  exact ⟨h1,h2,by omega,by omega,by omega,h6,h7,h8⟩
structure InvK (L : List (Den tPeer)) : Prop where
 ok : ∀ p ∈ L,peerOk p = true
 base : ∀ i (hi : i < L.length),i < 4 → (L[i]).2.1 = true
 kn : ∀ p ∈ L,p.2.1 = true → knows L p.2.2.2.1 = true
theorem allI_at {α : Type} (p : Nat → α → Bool) : ∀ (l : List α) (j : Nat),allI p j l = true ↔ ∀ i (hi : i < l.length),p (j + i) l[i] = true
 | [],j => by unfold allI; exact ⟨fun _ i hi => absurd hi (by simp),fun _ => rfl⟩
 | x :: xs,j => by
  unfold allI
  rw [Bool.and_eq_true,allI_at p xs (j + 1)]
  constructor
  ·rintro ⟨h1,h2⟩ i hi
   cases i with
   | zero => exact h1
   | succ i =>
    have := h2 i (by simpa using hi)
    rw [show j + (i + 1) = j + 1 + i from by omega]
    simpa using this
  ·intro h
   refine ⟨h 0 (by simp),fun i hi => ?_⟩
   have := h (i + 1) (by simpa using hi)
   rw [show j + (i + 1) = j + 1 + i from by omega] at this
   simpa using this
theorem ring_K {L : List (Den tPeer)} (h : ringOk L = true) : InvK L := by
 unfold ringOk at h
 rw [Bool.and_eq_true] at h
 have h2 := (allI_at _ _ _).1 h.2
 have g : ∀ i (hi : i < L.length),peerOk L[i] = true ∧ (i < 4 → (L[i]).2.1 = true) ∧ ((L[i]).2.1 = true → knows L (L[i]).2.2.2.1 = true) := fun i hi => by
  have := h2 i hi
  unfold ringAt at this
  rw [Nat.zero_add] at this
  simp only [Bool.and_eq_true,Bool.or_eq_true,Bool.not_eq_true',decide_eq_false_iff_not] at this
  obtain ⟨g1,g2,g3,_⟩ := this
  refine ⟨g1,fun h4 => ?_,fun hh => ?_⟩
  ·rcases g2 with g2 | g2
   ·omega
   ·exact g2
  ·rcases g3 with g3 | g3
   ·rw [hh] at g3; cases g3
   ·exact g3
 refine ⟨fun p hp => ?_,fun i hi h4 => (g i hi).2.1 h4,fun p hp hh => ?_⟩
 ·obtain ⟨i,hi,rfl⟩ := List.getElem_of_mem hp; exact (g i hi).1
 ·obtain ⟨i,hi,rfl⟩ := List.getElem_of_mem hp; exact (g i hi).2.2 hh
theorem K_set {L : List (Den tPeer)} (hK : InvK L) {i : Nat} (hi : i < L.length) {q : Den tPeer} (hq : peerOk q = true) (he : q.1 = (L[i]).1) (hh : (L[i]).2.1 = true → q.2.1 = true)
  (hk : q.2.1 = true → knows L q.2.2.2.1 = true) : InvK (L.set i q) := by
 have hm := here_set hi he hh
 refine ⟨fun p hp => ?_,fun j hj h4 => ?_,fun p hp h1 => ?_⟩
 ·rcases List.mem_or_eq_of_mem_set hp with hp | rfl
  ·exact hK.ok p hp
  ·exact hq
 ·rw [List.length_set] at hj
  rw [List.getElem_set]
  split
  ·rename_i e
   subst e
   exact hh (hK.base i hj h4)
  ·exact hK.base j hj h4
 ·rcases List.mem_or_eq_of_mem_set hp with hp | rfl
  ·exact knows_mono hm (hK.kn p hp h1)
  ·exact knows_mono hm (hk h1)
theorem behind_in {L : List (Den tPeer)} (hF : InvF L) (hK : InvK L) {n but : Int} (hn : 0 ≤ fPeerAt n 0 L) : ∀ x ∈ fBehind L n but,(0 ≤ x ∧ x ≤ 255) ∧ x ≠ but := by
 intro x hx
 refine ⟨?_,fBehind_but L n but x hx⟩
 obtain ⟨j,hj,e1,e2,e3⟩ := here_at hn
 unfold fBehind at hx
 have hx := (List.mem_filter.1 (List.mem_of_mem_take hx)).1
 rcases List.mem_cons.1 hx with rfl | hx
 ·exact here_in hF hn
 ·rw [e1,getD_at L hj] at hx
  have := (peerOk_here e3).1 (hK.ok _ (List.getElem_mem hj))
  exact (this.2.2.2.2.2.1 x hx).1
theorem behind_knows {L : List (Den tPeer)} {n but : Int} (hn : 0 ≤ fPeerAt n 0 L) (hne : n ≠ but) : knows L (fBehind L n but) = true := by
 unfold knows fBehind
 rw [List.any_eq_true]
 refine ⟨n,?_,decide_eq_true hn⟩
 rw [List.filter_cons,dF hne]
 simp
theorem K_joined {k : Nat} (hk : k ≤ 1048576) {L : List (Den tPeer)} (h : InvR k L) (hK : InvK L) (id by_ : Int) : InvK (fJoined L id by_).1 := by
 have hF := h.f hk
 unfold fJoined
 rcases fAway_or id L 0 with e | ⟨i,hi,e,h1,h2⟩
 ·rw [e]; exact hK
 ·rw [Nat.zero_add] at e
  rw [e,dF (p := (i : Int) < 0) (by omega),Int.toNat_natCast]
  cases hm : (fFind L id 65 by_ 0).2 with
  | false => exact hK
  | true =>
   obtain ⟨h4,_⟩ := find_here hF id 65 by_ 0 hm
   have hne : (fFind L id 65 by_ 0).1.1 ≠ id := fun e => by
    have := away_here h.2.1 hi h1 h2
    rw [e] at h4; omega
   have hid := (h.2.2 _ (List.getElem_mem hi)).1
   rw [h1] at hid
   refine K_set hK hi ?_ h1.symm (fun e => by simp [h2] at e) (fun _ => behind_knows h4 hne)
   refine (peerOk_here (p := (id,true,(-1:Int),fBehind L (fFind L id 65 by_ 0).1.1 id,List.replicate 8 (-1),[])) rfl).2 ⟨hid,⟨Int.le_refl (-1),by show (-1:Int) ≤ 255; omega⟩,fBehind_len L _ id,rfl,Nat.zero_le _,behind_in hF hK h4,fun x hx => ?_,rfl⟩
   rw [List.eq_of_mem_replicate hx]; exact ⟨Int.le_refl (-1),(by decide : (-1:Int) ≤ 255)⟩
theorem K_gone {k : Nat} (hk : k ≤ 1048576) {L : List (Den tPeer)} (h : InvR k L) (hK : InvK L) (id : Int) : InvK (fGone L id).1 := by
 unfold fGone
 by_cases h4 : fPeerAt id 0 L < 4
 ·rw [dT h4]; exact hK
 ·rw [dF h4]
  obtain ⟨j,hj,e1,e2,e3⟩ := here_at (L := L) (n := id) (by omega)
  rw [e1,Int.toNat_natCast]
  have hj4 : 4 ≤ j := by omega
  have hid := (h.2.2 _ (List.getElem_mem hj)).1
  rw [e2] at hid
  simp only [cond_false]
  cases hl : (L.set j (id,false,(0:Int),[],[],[])).any (lost (L.set j (id,false,(0:Int),[],[],[]))) with
  | true => exact hK
  | false =>
   simp only [cond_false]
   refine ⟨fun p hp => ?_,fun i hi i4 => ?_,fun p hp hh => ?_⟩
   ·rcases List.mem_or_eq_of_mem_set hp with hp | rfl
    ·exact hK.ok p hp
    ·unfold peerOk
     rw [inR_iff.2 hid]; rfl
   ·rw [List.length_set] at hi
    rw [List.getElem_set_ne (by omega)]
    exact hK.base i hi i4
   ·rw [List.any_eq_false] at hl
    have := hl p hp
    unfold lost at this
    rw [hh] at this
    simpa using this
theorem K_fingered {k : Nat} (hk : k ≤ 1048576) {L : List (Den tPeer)} (h : InvR k L) (hK : InvK L) (id : Int) : InvK (fFingered L id).1 := by
 have hF := h.f hk
 unfold fFingered
 by_cases h4 : fPeerAt id 0 L < 0
 ·rw [dT h4]; exact hK
 ·rw [dF h4]
  obtain ⟨j,hj,e1,e2,e3⟩ := here_at (L := L) (n := id) (by omega)
  rw [e1,getD_at L hj,Int.toNat_natCast]
  obtain ⟨g1,g2,g3,g4,g5,g6,g7,g8⟩ := (peerOk_here e3).1 (hK.ok _ (List.getElem_mem hj))
  refine K_set hK hj ?_ rfl (fun e => e) (fun e => hK.kn L[j] (List.getElem_mem hj) e3)
  refine (peerOk_here (p := setF L[j] ((List.range 8).map (fFv L id))) e3).2 ⟨g1,g2,g3,by show ((List.range 8).map (fFv L id)).length = 8; simp,g5,g6,fun x hx => ?_,g8⟩
  obtain ⟨m,_,rfl⟩ := List.mem_map.1 hx
  unfold fFv
  cases hm : (fFind L (wrap64 (id + shlI .i64 (1:Int) (m : Int))) 65 id 0).2 with
  | false => rw [fFind_no L _ 65 id 0 hm]; exact ⟨Int.le_refl (-1),(by decide : (-1:Int) ≤ 255)⟩
  | true =>
   have h5 := here_in hF (find_here hF _ 65 id 0 hm).1
   exact ⟨Int.le_trans (by decide : (-1:Int) ≤ 0) h5.1,h5.2⟩
theorem K_settle {k : Nat} (hk : k ≤ 1048576) {L : List (Den tPeer)} (h : InvR k L) (hK : InvK L) (id : Int) : InvK (fSettle L id).1 := by
 have hF := h.f hk
 unfold fSettle
 by_cases h0 : fPeerAt id 0 L < 0
 ·rw [dT h0]; exact hK
 ·rw [dF h0]
  by_cases h1 : fNextOf L id < 0
  ·rw [dT h1]; exact hK
  ·rw [dF h1]
   simp only [cond_false]
   obtain ⟨j,hj,e1,e2,e3⟩ := here_at (L := L) (n := id) (by omega)
   obtain ⟨_,n1,n2,_⟩ := next_ok hF (id := id) (by omega)
   rw [e1,Int.toNat_natCast]
   have hn' : 0 ≤ fPeerAt (bif decide (0 ≤ fPeerAt (List.getD L (fPeerAt (fNextOf L id) 0 L).toNat (dft tPeer)).2.2.1 0 L) && (!decide ((List.getD L (fPeerAt (fNextOf L id) 0 L).toNat (dft tPeer)).2.2.1 = fNextOf L id) && (!decide ((List.getD L (fPeerAt (fNextOf L id) 0 L).toNat (dft tPeer)).2.2.1 = id) && betw id (List.getD L (fPeerAt (fNextOf L id) 0 L).toNat (dft tPeer)).2.2.1 (fNextOf L id))) then (List.getD L (fPeerAt (fNextOf L id) 0 L).toNat (dft tPeer)).2.2.1 else fNextOf L id) 0 L ∧ (bif decide (0 ≤ fPeerAt (List.getD L (fPeerAt (fNextOf L id) 0 L).toNat (dft tPeer)).2.2.1 0 L) && (!decide ((List.getD L (fPeerAt (fNextOf L id) 0 L).toNat (dft tPeer)).2.2.1 = fNextOf L id) && (!decide ((List.getD L (fPeerAt (fNextOf L id) 0 L).toNat (dft tPeer)).2.2.1 = id) && betw id (List.getD L (fPeerAt (fNextOf L id) 0 L).toNat (dft tPeer)).2.2.1 (fNextOf L id))) then (List.getD L (fPeerAt (fNextOf L id) 0 L).toNat (dft tPeer)).2.2.1 else fNextOf L id) ≠ id := by
    generalize (List.getD L (fPeerAt (fNextOf L id) 0 L).toNat (dft tPeer)).2.2.1 = p
    cases hc : (decide (0 ≤ fPeerAt p 0 L) && (!decide (p = fNextOf L id) && (!decide (p = id) && betw id p (fNextOf L id)))) with
    | false => exact ⟨n1,n2⟩
    | true =>
     simp only [Bool.and_eq_true,decide_eq_true_eq,Bool.not_eq_true',decide_eq_false_iff_not] at hc
     exact ⟨hc.1,hc.2.2.1⟩
   generalize (bif decide (0 ≤ fPeerAt (List.getD L (fPeerAt (fNextOf L id) 0 L).toNat (dft tPeer)).2.2.1 0 L) && (!decide ((List.getD L (fPeerAt (fNextOf L id) 0 L).toNat (dft tPeer)).2.2.1 = fNextOf L id) && (!decide ((List.getD L (fPeerAt (fNextOf L id) 0 L).toNat (dft tPeer)).2.2.1 = id) && betw id (List.getD L (fPeerAt (fNextOf L id) 0 L).toNat (dft tPeer)).2.2.1 (fNextOf L id))) then (List.getD L (fPeerAt (fNextOf L id) 0 L).toNat (dft tPeer)).2.2.1 else fNextOf L id) = n' at hn'
   obtain ⟨m1,m2⟩ := hn'
   have hgd : L.getD j (dft tPeer) = L[j] := by rw [List.getD_eq_getElem?_getD,List.getElem?_eq_getElem hj]; rfl
   have hid := here_in hF (n := id) (by omega)
   have h1 : InvK (L.set j (setB (L.getD j (dft tPeer)) (fBehind L n' id))) := by
    rw [hgd]
    obtain ⟨g1,g2,g3,g4,g5,g6,g7,g8⟩ := (peerOk_here e3).1 (hK.ok _ (List.getElem_mem hj))
    refine K_set hK hj ?_ rfl (fun e => e) (fun _ => behind_knows m1 m2)
    refine (peerOk_here (p := setB L[j] (fBehind L n' id)) e3).2 ⟨g1,g2,fBehind_len L n' id,g4,g5,fun x hx => ?_,g7,g8⟩
    have := behind_in hF hK m1 x hx
    refine ⟨this.1,?_⟩
    show x ≠ (L[j]).1
    rw [e2]; exact this.2
   obtain ⟨k',hk',f1,f2,f3⟩ := here_at m1
   have hfl : ∀ hi : k' < (L.set j (setB (L.getD j (dft tPeer)) (fBehind L n' id))).length,((L.set j (setB (L.getD j (dft tPeer)) (fBehind L n' id)))[k']).2.1 = true := by
    intro hi
    rw [List.getElem_set]
    split
    ·show (L.getD j (dft tPeer)).2.1 = true
     rw [hgd]; exact e3
    ·exact f3
   have hlen : k' < (L.set j (setB (L.getD j (dft tPeer)) (fBehind L n' id))).length := by rw [List.length_set]; exact hk'
   rw [f1,Int.toNat_natCast]
   generalize L.set j (setB (L.getD j (dft tPeer)) (fBehind L n' id)) = L1 at h1 hfl hlen
   cases (decide (fPeerAt (List.getD L k' (dft tPeer)).2.2.1 0 L < 0) || betw (List.getD L k' (dft tPeer)).2.2.1 id n') with
   | false => exact h1
   | true =>
    simp only [cond_true]
    have hgd : L1.getD k' (dft tPeer) = L1[k'] := by rw [List.getD_eq_getElem?_getD,List.getElem?_eq_getElem hlen]; rfl
    rw [hgd]
    have hfl := hfl hlen
    obtain ⟨g1,g2,g3,g4,g5,g6,g7,g8⟩ := (peerOk_here hfl).1 (h1.ok _ (List.getElem_mem hlen))
    refine K_set h1 hlen ?_ rfl (fun e => e) (fun e => h1.kn L1[k'] (List.getElem_mem hlen) hfl)
    exact (peerOk_here (p := setA L1[k'] id) hfl).2 ⟨g1,⟨by show -1 ≤ id; omega,by show id ≤ 255; omega⟩,g3,g4,g5,g6,g7,g8⟩
end Go.Proofs.YtfmlmdnaeonobaaGreat.C
namespace Go.Proofs.YtfmlmdnaeonobaaGreat.C
open Go Go.Proofs.YtfmlmdnaeonobaaGreat.Nx Go.RowKit
set_option linter.unusedVariables false
set_option linter.unusedSimpArgs false
set_option maxRecDepth 100000
instance (k : Nat) (p : Den tPeer) : Decidable (okp k p) := by unfold okp; exact inferInstance
instance (k : Nat) (L : List (Den tPeer)) : Decidable (InvR k L) := by unfold InvR; exact inferInstance
theorem start_invB : startS.all (fun L => decide (InvR 0 (fRing L))) = true := by decide +kernel
theorem start_inv {L : List Int} (h : L ∈ startS) : InvR 0 (fRing L) := by
 have := start_invB
 rw [List.all_eq_true] at this
 exact of_decide_eq_true (this L h)
theorem start_ringB : startS.all (fun L => ringOk (fRing L)) = true := by decide +kernel
def InvS (k : Nat) (L : List (Den tPeer)) : Prop := InvR k L ∧ InvK L
theorem start_s {L : List Int} (h : L ∈ startS) : InvS 0 (fRing L) := by
 have := start_ringB
 rw [List.all_eq_true] at this
 exact ⟨start_inv h,ring_K (this L h)⟩
theorem InvS.more {k k' : Nat} (hk : k ≤ k') {L : List (Den tPeer)} (h : InvS k L) : InvS k' L := ⟨h.1.more hk,h.2⟩
theorem sd_Joined {N k : Nat} (hN : Big N) (hk : k ≤ 1048576) (L : List (Den tPeer)) (h : InvS k L) (id by_ : Int) (hid : 0 ≤ id ∧ id ≤ 255) : ∃ q,x_f63 N L id by_ = some q ∧ InvS k q.1 := by
 obtain ⟨q,e,hq⟩ := draw_Joined hN hk L h.1 id by_ hid
 have e2 := spec_Joined hN L (h.1.f hk) h.1.2.1 id by_
 rw [e] at e2
 have := Option.some.inj e2
 subst this
 exact ⟨_,e,hq,K_joined hk h.1 h.2 id by_⟩
theorem sd_Gone {N k : Nat} (hN : Big N) (hk : k ≤ 1048576) (L : List (Den tPeer)) (h : InvS k L) (id : Int) : ∃ q,x_f60 N L id = some q ∧ InvS k q.1 := by
 obtain ⟨q,e,hq⟩ := draw_Gone hN hk L h.1 id
 have e2 := spec_Gone hN L (h.1.f hk) h.1.2.1 id
 rw [e] at e2
 have := Option.some.inj e2
 subst this
 exact ⟨_,e,hq,K_gone hk h.1 h.2 id⟩
theorem sd_Fingered {N k : Nat} (hN : Big N) (hk : k ≤ 1048576) (L : List (Den tPeer)) (h : InvS k L) (id : Int) : ∃ q,x_f59 N L id = some q ∧ InvS k q.1 := by
 obtain ⟨q,e,hq⟩ := draw_Fingered hN hk L h.1 id
 have e2 := spec_Fingered hN L (h.1.f hk) id
 rw [e] at e2
 have := Option.some.inj e2
 subst this
 exact ⟨_,e,hq,K_fingered hk h.1 h.2 id⟩
theorem sd_Settle {N k : Nat} (hN : Big N) (hk : k ≤ 1048576) (L : List (Den tPeer)) (h : InvS k L) (id : Int) : ∃ q,x_f74 N L id = some q ∧ InvS k q.1 := by
 obtain ⟨q,e,hq⟩ := draw_Settle hN hk L h.1 id
 have e2 := spec_Settle hN L (h.1.f hk).1 id
 rw [e] at e2
 have := Option.some.inj e2
 subst this
 exact ⟨_,e,hq,K_settle hk h.1 h.2 id⟩
theorem sd_Publish {N k : Nat} (hN : Big N) (hk : k ≤ 1000) (L : List (Den tPeer)) (h : InvS k L) (by_ key : Int) (list : List (Den tItem)) (hl : oki 1 list) : ∃ q,x_f70 N L by_ key list = some q ∧ InvS (k + 4) q.1 :=
 draw_Publish hN hk L h.1 by_ key list hl InvK (fun a j hj q hK h1 h2 h3 h4 => by
  refine K_set hK hj ?_ h1 (fun e => by rw [h2]; exact e) (fun e => by rw [h3]; exact hK.kn _ (List.getElem_mem hj) (by rw [← h2]; exact e))
  rcases h4 with rfl | h4
  ·exact hK.ok _ (List.getElem_mem hj)
  ·exact h4) h.2
theorem once_ok (N : Nat) (c : Den tL01Cur) (h : okC c) (n : Int) (hn : 0 < n) : ∃ b c',x_f81 N c n = some (b,c',()) ∧ okC c' := by
 obtain ⟨x,c',e,_,_,hc⟩ := below_ok N c h n hn
 unfold x_f81
 rw [e]
 exact ⟨_,c',rfl,hc⟩
theorem pickT_ok (N : Nat) (c : Den tL01Cur) (h : okC c) (l : List ByteArray) (hl : 0 < l.length) : ∃ x c',x_f82 N c l = some (x,c',()) ∧ x ∈ l ∧ okC c' := by
 obtain ⟨x,c',e,h0,h1,hc⟩ := below_ok N c h (l.length : Int) (by omega)
 unfold x_f82
 rw [e]
 simp only [Option.bind_some]
 rw [dT h0,dT h1]
 refine ⟨_,c',rfl,?_,hc⟩
 rw [List.getD_eq_getElem?_getD,List.getElem?_eq_getElem (by omega)]
 exact List.getElem_mem _
theorem ring_round {N k : Nat} (hN : Big N) (hk : k ≤ 900) {kx kr} {rec_ : DenS (.pr (.bv 0 tL01Cur) (.pr (.d 1 I) (.pr (.bx 4 tRing) (.pr (.bx 5 tRing) (.d 6 I))))) → Option ((Den tRing) × DenW (.pr (.bv 0 tL01Cur) (.d 1 I)))} (c : Den tL01Cur) (hc : okC c) (most : Int) (e0 L : List (Den tPeer)) (h : InvS k L) (i : Nat) (hi : (i : Int) < most) (him : i ≤ 1000)
  (R : Option ((Den tRing) × DenW (.pr (.bv 0 tL01Cur) (.d 1 I))) → Prop) (hr : ∀ c' L',okC c' → InvS (k + 4) L' → R (rec_ (c',most,e0,L',((i + 1 : Nat) : Int)))) :
  R (B_f90_L0 N kx kr rec_ (c,most,e0,L,(i : Int))) := by
 have hF := h.1.f (by omega)
 have hl4 := h.1.1.1
 have hl8 := h.1.1.2
 obtain ⟨x,c1,e1,x0,x1,hc1⟩ := below_ok N c hc (L.length : Int) (by omega)
 obtain ⟨t,c2,e2,t0,t1,hc2⟩ := below_ok N c1 hc1 8 (by omega)
 obtain ⟨j,rfl⟩ : ∃ j : Nat,x = (j : Int) := ⟨x.toNat,by omega⟩
 have hj : j < L.length := by omega
 have hid := (h.1.2.2 _ (List.getElem_mem hj)).1
 have up : ∀ {L' : List (Den tPeer)},InvS k L' → InvS (k + 4) L' := fun h => h.more (by omega)
 obtain ⟨y,c3,e3,y0,y1,hc3⟩ := below_ok N c2 hc2 4 (by omega)
 obtain ⟨m,rfl⟩ : ∃ m : Nat,y = (m : Int) := ⟨y.toNat,by omega⟩
 have hm : m < L.length := by omega
 obtain ⟨q1,f1,g1⟩ := sd_Joined hN (by omega) L h (L[j]).1 (L[m]).1 hid
 obtain ⟨q2,f2,g2⟩ := sd_Gone hN (by omega) L h (L[j]).1
 obtain ⟨q3,f3,g3⟩ := sd_Fingered hN (by omega) L h (L[j]).1
 obtain ⟨q4,f4,g4⟩ := sd_Settle hN (by omega) L h (L[j]).1
 obtain ⟨z,c4,e4,_,_,hc4⟩ := below_ok N c2 hc2 256 (by omega)
 obtain ⟨w,c5,e5,hw,hc5⟩ := pickT_ok N c4 hc4 [(⟨#[97]⟩ : ByteArray),(⟨#[98]⟩ : ByteArray),(⟨#[99]⟩ : ByteArray)] (by simp)
 obtain ⟨b,c6,e6,hc6⟩ := once_ok N c5 hc5 4 (by omega)
 obtain ⟨q5,f5,g5⟩ := sd_Publish hN (by omega) L h (L[j]).1 z [(w,b)] ⟨by simp,fun t ht => by
  rw [List.mem_singleton.1 ht]
  simp only [List.mem_cons,List.not_mem_nil,or_false] at hw
  rcases hw with rfl | rfl | rfl <;> exact Nat.le_refl 1⟩
 show R (bif _ then _ else _)
 rw [dT hi,e1,Option.bind_some]
 simp only [cond_true]
 rw [le_rows j,lt_rows L hj,getD_at L hj,e2]
 simp only [Bool.and_self,cond_true,Option.bind_some]
 simp only [e3,e4,e5,e6,f2,f3,f4,f5,Option.bind_some,le_rows m,lt_rows L hm,getD_at L hm,f1,Bool.and_self,cond_true,agree_self,w64_up (Nat.le_refl i) (by omega : i ≤ 140737488355328)]
 have r1 := hr c3 q1.1 hc3 (up g1)
 have r2 := hr c2 q2.1 hc2 (up g2)
 have r3 := hr c2 q3.1 hc2 (up g3)
 have r4 := hr c2 q4.1 hc2 (up g4)
 have r5 := hr c6 q5.1 hc6 g5
 cases decide (t = 0) <;> cases decide (t = 1) <;> cases decide (t = 2) <;> cases decide (t = 3) <;> cases decide (t = 4) <;> cases decide (t = 5) <;> assumption
theorem draw_l09Ring {N : Nat} (hN : Big N) (c : Den tL01Cur) (hc : okC c) (most : Int) (hm : 0 ≤ most ∧ most ≤ 20) : ∃ r c',x_f90 N c most = some (r,c',()) ∧ InvS 80 r ∧ okC c' := by
 have hN' := n40b hN
 unfold x_f90
 obtain ⟨L0,c0,e0,hL0,hc0⟩ := start_ok N c hc
 have hlen : L0.length ≤ 1048576 := by
  have : startS.all (fun L => decide (L.length ≤ 8)) = true := by decide
  rw [List.all_eq_true] at this
  have := of_decide_eq_true (this L0 hL0)
  omega
 rw [e0,Option.bind_some]
 simp only
 rw [spec_RingNew hN L0 hlen,Option.bind_some]
 obtain ⟨n,hn⟩ : ∃ n : Nat,most = (n : Int) := ⟨most.toNat,by omega⟩
 subst hn
 have kk := iter_to (B := B_f90_L0 N (fun (x44,x45,x46) => some (x46,x44,())) (fun ρ47 => some (ρ47))) (A := Den tL01Cur × List (Den tPeer)) (fun i a => (a.1,(n : Int),[],a.2,(i : Int))) (fun i a r => okC a.1 → InvS (4 * i) a.2 → ∃ q c',r = some (q,c',()) ∧ InvS 80 q ∧ okC c') n
  (fun i a rec_ hi ih h1 h2 => by
   refine ring_round hN (k := 4 * i) (by omega) a.1 h1 (n : Int) [] a.2 h2 i (by omega) (by omega) (fun r => ∃ q c',r = some (q,c',()) ∧ InvS 80 q ∧ okC c') (fun c' L' g1 g2 => ?_)
   exact ih (c',L') g1 (g2.more (by omega)))
  (fun a rec_ h1 h2 => by
   show ∃ q c',(bif _ then _ else _) = _ ∧ _
   rw [dF (p := (n : Int) < (n : Int)) (by omega)]
   exact ⟨_,_,rfl,h2.more (by omega),h1⟩)
  N (by omega) (c0,fRing L0)
 obtain ⟨q,c',e,g1,g2⟩ := kk hc0 (start_s hL0)
 have e' : iter (B_f90_L0 N (fun (x44,x45,x46) => some (x46,x44,())) (fun ρ47 => some (ρ47))) N (c0,(n : Int),[],fRing L0,(0:Int)) = some (q,c',()) := e
 rw [e']
 exact ⟨q,c',rfl,g1,g2⟩
end Go.Proofs.YtfmlmdnaeonobaaGreat.C
namespace Go.Proofs.YtfmlmdnaeonobaaGreat.C
open Go Go.Proofs.YtfmlmdnaeonobaaGreat.Nx Go.RowKit
set_option linter.unusedVariables false
set_option linter.unusedSimpArgs false
def Two (L : List (Den tPeer)) : Prop := ∃ i j,∃ hi : i < L.length,∃ hj : j < L.length,i ≠ j ∧ (L[i]).2.1 = true ∧ (L[j]).2.1 = true
structure InvA (L : List (Den tPeer)) : Prop where
 f : InvF L
 len : 3 ≤ L.length
 nd : (L.map fun p => p.1).Nodup
 two : Two L
theorem two_set {L : List (Den tPeer)} (hl : 4 ≤ L.length) (hb : ∀ i (hi : i < L.length),i < 4 → (L[i]).2.1 = true) (j : Nat) (q : Den tPeer) : Two (L.set j q) := by
 have one : ∀ m,m < 3 → m ≠ j → ∃ hm : m < (L.set j q).length,((L.set j q)[m]).2.1 = true := fun m h1 h2 => by
  refine ⟨by rw [List.length_set]; omega,?_⟩
  rw [List.getElem_set_ne (fun e => h2 e.symm)]
  exact hb m (by omega) (by omega)
 by_cases h0 : j = 0
 ·obtain ⟨a,b⟩ := one 1 (by omega) (by omega)
  obtain ⟨c,d⟩ := one 2 (by omega) (by omega)
  exact ⟨1,2,a,c,by omega,b,d⟩
 ·obtain ⟨a,b⟩ := one 0 (by omega) (by omega)
  by_cases h1 : j = 1
  ·obtain ⟨c,d⟩ := one 2 (by omega) (by omega)
   exact ⟨0,2,a,c,by omega,b,d⟩
  ·obtain ⟨c,d⟩ := one 1 (by omega) (by omega)
   exact ⟨0,1,a,c,by omega,b,d⟩
theorem draw_l09Any3 {N : Nat} (hN : Big N) (c : Den tL01Cur) (hc : okC c) : ∃ L id c',x_f85 N c = some ((L,id),c') ∧ InvA L ∧ okC c' := by
 obtain ⟨t,c1,e1,t0,t1,hc1⟩ := below_ok N c hc 14 (by omega)
 obtain ⟨y,c2,e2,y0,y1,hc2⟩ := below_ok N c1 hc1 60 (by omega)
 obtain ⟨z,c3,e3,z0,z1,hc3⟩ := below_ok N c2 hc2 12 (by omega)
 obtain ⟨L,c4,e4,hS,hc4⟩ := draw_l09Ring hN c3 hc3 z ⟨z0,by omega⟩
 have hI := hS.1
 have hb := hS.2.base
 have hF := hI.f (by omega)
 have hl4 := hI.1.1
 have hl8 := hI.1.2
 have hA : InvA L := ⟨hF,by omega,hI.2.1,⟨0,1,by omega,by omega,by omega,hb 0 (by omega) (by omega),hb 1 (by omega) (by omega)⟩⟩
 unfold x_f85
 simp only [e1,e2,e3,e4,Option.bind_some]
 rw [spec_Copy hN L hF.1,Option.bind_some,dF (p := (L.length : Int) = 0) (by omega)]
 have j0 := Int.tmod_nonneg (L.length : Int) y0
 have j1 := Int.tmod_lt_of_pos y (b := (L.length : Int)) (by omega)
 generalize y.tmod (L.length : Int) = jj at j0 j1
 obtain ⟨j,rfl⟩ : ∃ j : Nat,jj = (j : Int) := ⟨jj.toNat,by omega⟩
 have hj : j < L.length := by omega
 have w2 : wrap64 ((j : Int) + 2) = ((j + 2 : Nat) : Int) := by rw [w64 (by omega) (by omega)]; rfl
 rw [w2]
 have m0 := Int.tmod_nonneg (L.length : Int) (show (0:Int) ≤ ((j + 2 : Nat) : Int) by omega)
 have m1 := Int.tmod_lt_of_pos ((j + 2 : Nat) : Int) (b := (L.length : Int)) (by omega)
 have hself : (L.set j ((L[j]).1,(L[j]).2.1,(L[j]).2.2.1,(L[j]).2.2.2.1,(L[j]).2.2.2.2)) = L := List.set_getElem_self hj
 simp only [Bool.not_false,cond_true,le_rows j,lt_rows L hj,Bool.and_self,getD_at L hj,Int.toNat_natCast,Nat.beq_refl,agree_self]
 have hgd : List.getD (α := Den tPeer) L j (dft tPeer) = L[j] := by rw [List.getD_eq_getElem?_getD,List.getElem?_eq_getElem hj]; rfl
 have hb3 := (hI.2.2 _ (List.getElem_mem hj)).2.2.1.1
 rw [dT m0,dT m1]
 simp only [hgd,hself,lt_rows L hj,Bool.and_self,cond_true,agree_self,List.length_cons,List.length_nil]
 have hq := hI.2.2 _ (List.getElem_mem hj)
 have hz := okp_ok (by omega) hq
 have hset : ∀ q : Den tPeer,okz tPeer q → q.1 = (L[j]).1 → (∀ x ∈ q.2.2.2.1,x ≠ (L[j]).1) → InvA (L.set j q) := fun q g1 g2 g3 => by
  refine ⟨⟨⟨by rw [List.length_set]; omega,fun p hp => ?_⟩,fun p hp => ?_⟩,by rw [List.length_set]; omega,nodup_set hI.2.1 hj g2,two_set hl4 hb j q⟩
  ·rcases List.mem_or_eq_of_mem_set hp with hp | rfl
   ·exact hF.1.2 p hp
   ·exact g1
  ·rcases List.mem_or_eq_of_mem_set hp with hp | rfl
   ·exact hF.2 p hp
   ·rw [g2]; exact ⟨hq.1.1,hq.1.2,g3⟩
 obtain ⟨z1,z2,z3,z4,z5,z6⟩ := hz
 have hsl : List.length (α := Den tShelf) (L[j]).2.2.2.2.2 ≤ 80 := hq.2.2.2.1
 have hne : (List.getD (α := Den tPeer) L (((j + 2 : Nat) : Int).tmod (L.length : Int)).toNat (dft tPeer)).1 ≠ (L[j]).1 := by
  rw [Int.tmod_eq_emod_of_nonneg (by omega)] at m0 m1 ⊢
  obtain ⟨m,hm⟩ : ∃ m : Nat,((j + 2 : Nat) : Int) % (L.length : Int) = (m : Int) := ⟨(((j + 2 : Nat) : Int) % (L.length : Int)).toNat,by omega⟩
  rw [hm] at m0 m1 ⊢
  have hmj : m ≠ j := by
   rcases Nat.lt_or_ge (j + 2) L.length with h | h
   ·rw [Int.emod_eq_of_lt (by omega) (by omega)] at hm; omega
   ·have : ((j + 2 : Nat) : Int) % (L.length : Int) = ((j + 2 : Nat) : Int) - (L.length : Int) := by
     rw [← Int.sub_emod_right,Int.emod_eq_of_lt (by omega) (by omega)]
    omega
  have hml : m < L.length := by omega
  rw [Int.toNat_natCast,List.getD_eq_getElem?_getD,List.getElem?_eq_getElem hml]
  intro e
  have hn := hI.2.1
  rw [List.nodup_iff_pairwise_ne,List.pairwise_iff_getElem] at hn
  rcases Nat.lt_or_ge m j with h | h
  ·exact hn m j (by simpa using hml) (by simpa using hj) h (by simpa using e)
  ·exact hn j m (by simpa using hj) (by simpa using hml) (by omega) (by simpa using e.symm)
 rw [dT (p := (0 + 1 + List.length (L[j]).2.2.2.1) * 8 ≤ 140737488355328) (by omega),dT (p := (0 + (0 + 1)) * 8 ≤ 140737488355328) (by omega),dT (p := (List.length (α := Den tShelf) (L[j]).2.2.2.2.2 + (0 + 1)) * 32 ≤ 140737488355328) (by omega)]
 have hin : inB (0:Int) (3:Int) (L.length : Int) = true := by unfold inB; simp; omega
 rw [hin]
 cases decide (t = 0)
 ·cases decide (t = 1)
  ·cases decide (t = 2)
   ·cases decide (t = 3)
    ·cases decide (t = 4)
     ·cases decide (t = 5)
      ·cases decide (t = 6)
       ·exact ⟨_,_,_,rfl,hA,hc4⟩
       ·exact ⟨_,_,_,rfl,⟨⟨⟨by rw [List.length_take]; omega,fun p hp => hF.1.2 p (List.mem_of_mem_take hp)⟩,fun p hp => hF.2 p (List.mem_of_mem_take hp)⟩,by simp only [List.length_take]; omega,by rw [List.map_take]; exact hI.2.1.sublist (List.take_sublist _ _),⟨0,1,by rw [List.length_take]; omega,by rw [List.length_take]; omega,by omega,by rw [List.getElem_take]; exact hb 0 (by omega) (by omega),by rw [List.getElem_take]; exact hb 1 (by omega) (by omega)⟩⟩,hc4⟩
      ·exact ⟨_,_,_,rfl,hA,hc4⟩
     ·exact ⟨_,_,_,rfl,hset _ ⟨z1,z2,z3,z4,z5,⟨by rw [List.length_append,List.length_cons,List.length_nil]; omega,fun s hs => by
       rcases List.mem_append.1 hs with h | h
       ·exact z6.2 s h
       ·rw [List.mem_singleton.1 h]; exact ⟨trivial,by simp,fun _ h => by cases h⟩⟩⟩ rfl hq.2.1,hc4⟩
    ·exact ⟨_,_,_,rfl,hset _ ⟨z1,trivial,z3,z4,z5,z6⟩ rfl hq.2.1,hc4⟩
   ·exact ⟨_,_,_,rfl,hset _ ⟨z1,z2,z3,z4,⟨by simp,fun _ _ => trivial⟩,z6⟩ rfl hq.2.1,hc4⟩
  ·exact ⟨_,_,_,rfl,hset _ ⟨z1,z2,z3,⟨by rw [List.length_append,List.length_cons,List.length_nil]; omega,fun _ _ => trivial⟩,z5,z6⟩ rfl (fun x hx => by
    rcases List.mem_append.1 hx with h | h
    ·rw [List.mem_singleton.1 h]; exact hne
    ·exact hq.2.1 x h),hc4⟩
 ·exact ⟨_,_,_,rfl,hset _ ⟨z1,z2,trivial,z4,z5,z6⟩ rfl hq.2.1,hc4⟩
end Go.Proofs.YtfmlmdnaeonobaaGreat.C
namespace Go.Proofs.YtfmlmdnaeonobaaGreat.C
open Go Go.Proofs.YtfmlmdnaeonobaaGreat.Nx Go.RowKit
set_option linter.unusedVariables false
set_option linter.unusedSimpArgs false
theorem same_Ints {N : Nat} (hN : Big N) (L : Den (.sl I)) (h : okz (.sl I) L) : x_f27 N L L = some true :=
 eq_rows h (f := fun y z => some (decide (y = z))) (fun y hy => by simp) hN (fun _ _ _ _ => rfl)
theorem same_Items {N : Nat} (hN : Big N) (L : Den (.sl tItem)) (h : okz (.sl tItem) L) : x_f28 N L L = some true :=
 eq_rows h (f := fun y z => some (decide (y.1 = z.1) && (y.2 == z.2))) (fun y hy => by simp) hN (fun _ _ _ _ => rfl)
theorem same_Peer {N : Nat} (hN : Big N) (p : Den tPeer) (h : okz tPeer p) : x_f29 N p p = some true := by
 obtain ⟨_,_,_,h4,h5,h6⟩ := h
 have hN' : 1099511627776 ≤ N := hN
 have hl := h6.1
 unfold x_f29
 rw [same_Ints hN _ h4,same_Ints hN _ h5]
 simp only [decide_true,Bool.not_true,cond_false,beq_self_eq_true,Option.bind_some]
 exact iter_to (B := B_f29_L0 N (fun _ => some true) (fun ρ4 => some (ρ4))) (A := Unit) (fun i _ => (p,p,(i : Int))) (fun i _ r => r = some true) (List.length (α := Den tShelf) p.2.2.2.2.2)
  (fun i a rec_ hi ih => by
   have hs := h6.2 _ (List.getElem_mem hi)
   show (bif _ then _ else _) = _
   rw [lt_rows (α := Den tShelf) p.2.2.2.2.2 hi,le_rows i,w64_up (Nat.le_refl i) (by omega),getD_at (α := Den tShelf) p.2.2.2.2.2 hi,same_Items hN _ hs.2]
   simp only [Bool.and_self,cond_true,decide_true,Bool.not_true,cond_false,Option.bind_some]
   exact ih ())
  (fun a rec_ => by
   show (bif _ then _ else _) = _
   rw [at_end (α := Den tShelf) p.2.2.2.2.2]; rfl) N (by omega) ()
theorem same_Ring {N : Nat} (hN : Big N) (L : Den tRing) (h : okz tRing L) : x_f30 N L L = some true :=
 eq_rows h (f := x_f29 N) (fun y hy => same_Peer hN y hy) hN (fun _ _ _ _ => rfl)
theorem start_a {L : List Int} (h : L ∈ startS) : InvA (fRing L) := by
 have hs := start_s h
 exact ⟨hs.1.f (by omega),by have := hs.1.1.1; omega,hs.1.2.1,⟨0,1,by have := hs.1.1.1; omega,by have := hs.1.1.1; omega,by omega,hs.2.base 0 _ (by omega),hs.2.base 1 _ (by omega)⟩⟩
theorem start_len {L : List Int} (h : L ∈ startS) : L.length ≤ 1048576 := by
 have : startS.all (fun L => decide (L.length ≤ 8)) = true := by decide
 rw [List.all_eq_true] at this
 have := of_decide_eq_true (this L h)
 omega
end Go.Proofs.YtfmlmdnaeonobaaGreat.C
namespace Go.Proofs.YtfmlmdnaeonobaaGreat.C
open Go Go.Proofs.YtfmlmdnaeonobaaGreat.Nx Go.RowKit
set_option linter.unusedVariables false
set_option linter.unusedSimpArgs false
set_option maxRecDepth 100000
def peersAt (r : List (Den tPeer)) (here : List Int) (i : Nat) (x : Int) : Bool :=
 decide (0 ≤ fPeerAt x 0 r) && ((decide (i = 0) || decide (here.getD (i - 1) 0 < x)) && (decide (0 < (ordS (aLt x) x [] here).length) && decide (fNextOf r x = (ordS (aLt x) x [] here).getD 0 0)))
def peersB (ids : List Int) : Bool := decide ((insAll [] (fHereL (fRing ids))).length = 4) && allI (peersAt (fRing ids) (insAll [] (fHereL (fRing ids)))) 0 (insAll [] (fHereL (fRing ids)))
theorem peers_all : startS.all peersB = true := by decide +kernel
theorem ring_all : startS.all (fun L => ringOk (fRing L)) = true := by decide +kernel
theorem draw_peerAt {N : Nat} (hN : Big N) (code : List Int) (hL : code.length ≤ 1048576) : ∃ L id,x_f55 N code = some (L,id) ∧ InvA L := by
 unfold x_f55
 obtain ⟨c,e,hc⟩ := new_ok hN code hL
 obtain ⟨L,id,c2,e2,hA,_⟩ := draw_l09Any3 hN c hc
 simp only [e,e2,Option.bind_some]
 exact ⟨_,_,rfl,hA⟩
theorem draw_peerOk {N : Nat} (hN : Big N) (code : List Int) (hL : code.length ≤ 1048576) : ∃ p,x_f56 N code = some p ∧ okz tPeer p := by
 unfold x_f56
 obtain ⟨c,e,hc⟩ := new_ok hN code hL
 obtain ⟨k,c1,e1,k0,k1,hc1⟩ := below_ok N c hc 8 (by omega)
 obtain ⟨L,id,c2,e2,hA,_⟩ := draw_l09Any3 hN c1 hc1
 have hl := hA.len
 simp only [e,e1,e2,Option.bind_some]
 have m0 := Int.tmod_nonneg (L.length : Int) k0
 have m1 := Int.tmod_lt_of_pos k (b := (L.length : Int)) (by omega)
 rw [dF (p := (L.length : Int) = 0) (by omega),dT (p := 0 ≤ k.tmod (L.length : Int)) m0,dT (p := k.tmod (L.length : Int) < (L.length : Int)) m1,Nat.beq_refl]
 exact ⟨_,rfl,okz_at hA.f.1 _⟩
theorem draw_ringNew {N : Nat} (hN : Big N) (code : List Int) (hL : code.length ≤ 1048576) : ∃ l,x_f57 N code = some l ∧ l.length ≤ 20 := by
 unfold x_f57
 obtain ⟨c,e,hc⟩ := new_ok hN code hL
 obtain ⟨L,c1,e1,hLs,hc1⟩ := start_ok N c hc
 obtain ⟨k,c2,e2,k0,k1,hc2⟩ := below_ok N c1 hc1 5 (by omega)
 have hlen : startS.all (fun L => decide (4 ≤ L.length ∧ L.length ≤ 8)) = true := by decide
 rw [List.all_eq_true] at hlen
 have hlen := of_decide_eq_true (hlen L hLs)
 simp only [e,e1,e2,Option.bind_some,List.length_nil,List.nil_append,List.length_cons]
 have hin : inB (0:Int) (3:Int) (L.length : Int) = true := by unfold inB; simp; omega
 have d1 : decide ((0:Int) ≤ 0) = true := rfl
 rw [dT (p := (0 + L.length) * 8 ≤ 140737488355328) (by omega),hin,d1,dT (p := (0:Int) < (L.length : Int)) (by omega),dT (p := (L.length + (0 + 1 + 1 + 1 + 1)) * 8 ≤ 140737488355328) (by omega),dT (p := (0 + 1 + L.length) * 8 ≤ 140737488355328) (by omega)]
 cases decide (k = 0) with
 | true => exact ⟨_,rfl,by simp only [List.length_take]; omega⟩
 | false =>
  cases decide (k = 1) with
  | true => exact ⟨_,rfl,by simp only [List.length_append,List.length_cons,List.length_nil]; omega⟩
  | false =>
   cases decide (k = 2) with
   | true => exact ⟨_,rfl,by simp only [List.length_append,List.length_cons,List.length_nil]; omega⟩
   | false => exact ⟨_,rfl,by omega⟩
theorem peers_loop {N : Nat} (hN : Big N) {kx kr} (code : List Int) (r : List (Den tPeer)) (hr : okz tRing r) (here : List Int) (hb : here.length ≤ 1048576) (h : allI (peersAt r here) 0 here = true) :
  iter (B_laws_FnPeers_L0 (Ω := Bool) N kx kr) N (code,r,here,(0:Int)) = kx (code,r,here) := by
 have hN' : 1099511627776 ≤ N := hN
 have h := (allI_at _ _ _).1 h
 exact iter_to (B := B_laws_FnPeers_L0 (Ω := Bool) N kx kr) (A := Unit) (fun i _ => (code,r,here,(i : Int))) (fun i _ q => q = kx (code,r,here)) here.length
  (fun i _ rec_ hi ih => by
   have hp := h i hi
   unfold peersAt at hp
   rw [Nat.zero_add] at hp
   simp only [Bool.and_eq_true,decide_eq_true_eq,Bool.or_eq_true] at hp
   obtain ⟨p1,p2,p3,p4⟩ := hp
   have p3 : 0 < (ordS (aLt here[i]) here[i] [] here).length := p3
   have d1 : decide ((0:Int) ≤ 0) = true := rfl
   have t0 : (0:Int).toNat = 0 := rfl
   show (bif _ then _ else _) = _
   simp only [lt_rows here hi,le_rows i,getD_at here hi,w64_up (Nat.le_refl i) (by omega : i ≤ 140737488355328),impl_PeerAt hN r hr,impl_NextOf hN r hr,spec_OrderedFrom hN here hb,Option.bind_some,Bool.and_self,cond_true,d1,t0,p4]
   rw [dF (p := fPeerAt here[i] 0 r < 0) (by omega),dT (p := (0:Int) < ((ordS (aLt here[i]) here[i] [] here).length : Int)) (by omega)]
   simp only [Bool.true_and,cond_true,cond_false,decide_true,Bool.not_true]
   cases i with
   | zero => exact ih ()
   | succ k =>
    have hk : k < here.length := by omega
    have hk2 : here.getD k 0 = here[k] := by rw [List.getD_eq_getElem?_getD,List.getElem?_eq_getElem hk]; rfl
    have p2 : here[k] < here[k + 1] := by
     rcases p2 with p2 | p2
     ·omega
     ·rw [show k + 1 - 1 = k from by omega,hk2] at p2; exact p2
    rw [dT (p := (0:Int) < ((k + 1 : Nat) : Int)) (by omega),w64_dn (by omega : k ≤ 140737488355328),le_rows k,lt_rows here hk,getD_at here hk,dF (p := here[k + 1] ≤ here[k]) (by omega)]
    exact ih ())
  (fun _ rec_ => by
   show (bif _ then _ else _) = _
   rw [at_end here]; rfl)
  N (by omega) ()
theorem pure_FnPeers (a0 : Den (.sl (.i .u8))) (g0 : good (.sl (.i .u8)) a0) : ∃ N,x_laws_FnPeers N a0 = some true := by
 refine ⟨8796093022208,?_⟩
 have hN : Big 8796093022208 := by show (1099511627776 : Nat) ≤ _; omega
 have hM : 4398046511104 < 8796093022208 := by omega
 generalize 8796093022208 = N at hN hM
 unfold x_laws_FnPeers x_f26
 by_cases hL : List.length (α := Int) a0 ≤ 1048576
 ·rw [dF (by omega),Option.bind_some,cond_false]
  obtain ⟨ids,e1,hids⟩ := draw_ids hN a0 hL
  obtain ⟨L,id,e2,hA⟩ := draw_peerAt hN a0 hL
  obtain ⟨l,e3,hl⟩ := draw_ringNew hN a0 hL
  obtain ⟨p,e4,hp⟩ := draw_peerOk hN a0 hL
  have hR := (start_a hids).f
  have hz := hA.f.1
  have h1 := peers_all
  rw [List.all_eq_true] at h1
  have h1 := h1 ids hids
  unfold peersB at h1
  rw [Bool.and_eq_true,decide_eq_true_eq] at h1
  have h2 := ring_all
  rw [List.all_eq_true] at h2
  have h2 := h2 ids hids
  have hil := here_len (fRing ids)
  have hrl := hR.1.1
  have hil2 := here_len L
  have hll := hz.1
  simp only [e1,Option.bind_some,impl_RingNew hN hM ids (start_len hids),impl_HereOf hN _ hR.1,← insAll_sort]
  rw [peers_loop hN a0 (fRing ids) hR.1 _ (by omega) h1.2]
  simp only [e2,e3,e4,Option.bind_some,impl_RingOk hN _ hR.1,h2,cond_true]
  rw [dT (p := ((insAll [] (fHereL (fRing ids))).length : Int) = 4) (by omega)]
  simp only [cond_true,impl_PeerAt hN L hz,spec_PeerAt hN L hz,Option.bind_some,decide_true,impl_HereOf hN L hz,← insAll_sort,spec_HereOf hN L hz,same_Ints hN _ ⟨(by omega : (insAll [] (fHereL L)).length ≤ 1048576),fun _ _ => trivial⟩,impl_NextOf hN L hz,spec_NextOf hN L hz,impl_RingOk hN L hz,spec_RingOk hN L hz,beq_self_eq_true,
   impl_RingNew hN hM l (by omega),spec_RingNew hN l (by omega),same_Ring hN _ (fRing_ok l),impl_PeerOk hN p hp,spec_PeerOk hN p hp]
 ·rw [dT (by omega)]; rfl
end Go.Proofs.YtfmlmdnaeonobaaGreat.C
