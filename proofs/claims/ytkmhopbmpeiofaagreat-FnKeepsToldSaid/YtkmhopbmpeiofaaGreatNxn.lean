/- States told by their shape: sound, with no condition beyond those each lemma names. -/
import Derived.Test.YtkmhopbmpeiofaaGreatNxm
set_option linter.unusedVariables false
set_option linter.unusedSimpArgs false
namespace Go.Proofs.YtkmhopbmpeiofaaGreat.Nx
open Go Go.RowKit
theorem V6{l:List (Option Nat)}{j:Nat}:j∈L8 l↔some j∈l:=by
 induction l with
 |nil=>simp[L8]
 |cons x l ih=>cases x<;>simp[L8,ih]
theorem C7X{w:World}{N N':NT}{M M':MT}{ℓ ℓ':Nat→List (Nat×Nat)}{hp hpT:THP}(hN:∀ b o,N b o→N' b o)(hH:∀ (i:Nat) (x:Option Blk),(F1 hp)[i]? = some x→HB w N M i x (ℓ i)){j i:Nat}{n:Nat}{k:IntKind}{L:List Int}(h1:hp[j]? = some (some (.ara n k L)))
  (hM:M' i=M j) (hl:ℓ' i=ℓ j):HB w N' M' i (some (tb hpT (.ara n k L))) (ℓ' i):=by
 obtain⟨m,L1,q1,q2,q3⟩:=hH j _ (by rw[I1,h1];rfl);have e:tb hp (.ara n k L)=tb hpT (.ara n k L):=rfl;rw[e] at q2;refine⟨m,L1,by rw[hM];exact q1,⟨q2.len,q2.sz,q2.fr,q2.cl,q2.rep.data hN ?_,q2.vt,q2.rm,q2.lo,fun i hi=>hN _ _ (q2.fz i hi),q2.f0⟩,by rw[hl];exact q3⟩;simp only[tb,F0,R6,D5,AV.cells];rw[A0Z,D6];intro c hc
 simp only[arC,C5] at hc;obtain⟨i,_,rfl⟩:=hc;rfl
section
variable {C:Ctx} {n:Nat} {t:TS} {a:Act} {w:World} {N N':NT} {M M':MT} {ℓ ℓ':Nat→List (Nat×Nat)} {hpT:THP}
theorem A8U:∀ (s:SK) (x:D3 s) (base:Nat) (t':TS),S6 n t t' s=some x→(ust base s x).2.length=(I6 n t s).length:=by
 intro s;induction s with
 |un|d|fn|ip|al=>intro x base t' h;rfl
 |sum a b=>intro x base t' h;cases h
 |o k T =>
  intro x base t' h;simp only[I6,ust];split<;>rfl
 |mo k T =>
  intro x base t' h;simp only[I6,ust];split<;>rfl
 |lg k T =>
  intro x base t' h;simp only[I6,ust];split<;>rfl
 |bx k T =>
  intro x base t' h;simp only[S6] at h;split at h
  ·rename_i j row off e;cases hb:(Nat.beq row 0&&Nat.beq off 0) with
   |false=>rw[hb] at h;cases h
   |true =>
    rw[hb,A4] at h;split at h
    ·rename_i cs e2;split at h
     ·rename_i y l hz;cases h;obtain⟨c1,_,k1⟩:=j8 t.hp T cs _ l [] hz;simp only[I6,e,e2,hz,ust,A5,(k1 base).len.1];rfl
     ·cases h
    ·cases h
  ·cases h
 |bv k T =>
  intro x base t' h;simp only[S6] at h;split at h
  ·rename_i j row off e;simp only[I6,e,ust];rfl
  ·cases h
 |av k m K =>
  intro x base t' h;simp only[S6] at h;split at h
  ·rename_i j row off e;simp only[I6,e,ust];rfl
  ·cases h
 |ow k T =>
  intro x base t' h;simp only[S6] at h;split at h
  ·rename_i cs e;split at h
   ·rename_i y l hz;cases h;obtain⟨c1,_,k1⟩:=j8 t.hp T cs _ l [] hz;simp only[I6,e,hz,ust,(k1 base).len.1]
   ·cases h
  ·cases h
 |pr a b iha ihb =>
  intro x base t' h;simp only[S6] at h;split at h
  ·rename_i x1 x2 h1 h2;cases h;simp only[ust,I6,A5,iha _ _ _ h1,ihb _ _ _ h2]
  ·cases h
theorem A9H{t':TS}{Mk:MT}{Lk:List (Nat×Nat)}(hK:H4 C (D2 n t') a w N Mk Lk)(hN:∀ b o,N b o→N' b o)(hL:∀ p∈Lk,∀ o,N' p.1 o)(k:Nat) :
  Rep w N' M' (vw (F1 t'.hp) 8 (av t'.hp (t'.get n k))) (a.tmps.toList.getD k undef) []:=by
 have r:=hK.sl.get k;rw[R5] at r;exact B6H hK.hp hN hL 8 _ _ _ r (fun _ hb=>by cases hb)
theorem B9T{t':TS}{Mk:MT}{Lk:List (Nat×Nat)}(hD:R9 C (D2 n t) a w N M ℓ)(hK:H4 C (D2 n t') a w N Mk Lk)(hN:∀ b o,N b o→N' b o)(hL:∀ p∈Lk,∀ o,N' p.1 o) :
  ∀ (s:SK) (x:D3 s) (base:Nat),S6 n t t' s=some x→At M M' ℓ ℓ' hpT base (I6 n t s) (ust base s x).2 →
   (∀ i b,(ust base s x).2[i]? = some b→HB w N' M' (base+i) (some (tb hpT b)) (ℓ' (base+i))) ∧
   (∀ k y,(k,y)∈(ust base s x).1→Rep w N' M' (av hpT y) (a.tmps.toList.getD k undef) []):=by
 have slot:∀ k,Rep w N M (av t.hp (t.get n k)) (a.tmps.toList.getD k undef) []:=fun k=>by
  have r:=hD.sl.get k;rw[R5] at r;exact r
 have hH:=hD.hp;rw[E6] at hH;intro s;induction s with
 |un|al=>intro x base h hA;exact⟨fun i b e=>by simp[ust] at e,fun k y e=>by simp[ust] at e⟩
 |sum a b=>intro x base h;cases h
 |d k T =>
  intro x base h hA;refine⟨fun i b e=>by simp[ust] at e,fun k' y e => ?_⟩;simp only[ust,C1,P5] at e;obtain⟨rfl,rfl⟩:=e;exact B2S h 6 _ _ _ _ (A9H hK hN hL _)
 |o k T =>
  intro x base h hA;simp only[S6] at h;split at h
  ·rename_i j e;split at h
   ·rename_i A o L e2;cases ho:(o||A.flat) with
    |false=>rw[ho] at h;cases h
    |true =>
     rw[ho,A4] at h;obtain⟨e3,hz⟩:=N5 h;cases e3;cases hz;have e4:I6 n t (.o k T)=[some j]:=by simp only[I6,e]
     rw[e4] at hA;obtain⟨m1,m2⟩:=hA.so 0 j rfl;rw[H2] at m1 m2;have e5:=hA.hp 0 _ rfl;rw[H2] at e5;refine⟨fun i b eb => ?_,fun k' y ey => ?_⟩
     ·cases i with
      |zero =>
       simp only[ust,E8,C3] at eb;subst eb;exact A9n hN hH e2 ho m1 m2
      |succ i=>simp[ust] at eb
     ·simp only[ust,C1,P5] at ey;obtain⟨rfl,rfl⟩:=ey;have r:=slot k';rw[e] at r;exact B33 e2 e5 m1 r
   ·cases h
  ·rename_i e;cases h;have e4:I6 n t (.o k T)=[none]:=by simp only[I6,e]
   rw[e4] at hA;obtain⟨m1,m2⟩:=hA.no 0 _ rfl rfl;rw[H2] at m1 m2;have e5:=hA.hp 0 _ rfl;rw[H2] at e5;refine⟨fun i b eb => ?_,fun k' y ey => ?_⟩
   ·cases i with
    |zero =>
     simp only[ust,E8,C3] at eb;subst eb;exact A7h m1 m2
    |succ i=>simp[ust] at eb
   ·simp only[ust,C1,P5] at ey;obtain⟨rfl,rfl⟩:=ey;have r:=slot k';rw[e] at r;exact B1a e5 m1 r
  ·cases h
 |mo k T =>
  intro x base h hA;simp only[S6] at h;split at h
  ·rename_i j e;split at h
   ·rename_i A o L e2;cases ho:(o||A.flat) with
    |false=>rw[ho] at h;cases h
    |true =>
     rw[ho,A4] at h;obtain⟨e3,hz⟩:=N5 h;cases e3;cases hz;have e4:I6 n t (.mo k T)=[some j]:=by simp only[I6,e]
     rw[e4] at hA;obtain⟨m1,m2⟩:=hA.so 0 j rfl;rw[H2] at m1 m2;have e5:=hA.hp 0 _ rfl;rw[H2] at e5;refine⟨fun i b eb => ?_,fun k' y ey => ?_⟩
     ·cases i with
      |zero =>
       simp only[ust,E8,C3] at eb;subst eb;exact A9n hN hH e2 ho m1 m2
      |succ i=>simp[ust] at eb
     ·simp only[ust,C1,P5] at ey;obtain⟨rfl,rfl⟩:=ey;have r:=slot k';rw[e] at r;exact B33 e2 e5 m1 r
   ·cases h
  ·rename_i e;cases h;have e4:I6 n t (.mo k T)=[none]:=by simp only[I6,e]
   rw[e4] at hA;obtain⟨m1,m2⟩:=hA.no 0 _ rfl rfl;rw[H2] at m1 m2;have e5:=hA.hp 0 _ rfl;rw[H2] at e5;refine⟨fun i b eb => ?_,fun k' y ey => ?_⟩
   ·cases i with
    |zero =>
     simp only[ust,E8,C3] at eb;subst eb;exact A7h m1 m2
    |succ i=>simp[ust] at eb
   ·simp only[ust,C1,P5] at ey;obtain⟨rfl,rfl⟩:=ey;have r:=slot k';rw[e] at r;exact B1a e5 m1 r
  ·cases h
 |lg k T =>
  intro x base h hA;simp only[S6] at h;split at h
  ·rename_i j e;have e4:I6 n t (.lg k T)=[some j]:=by simp only[I6,e]
   rw[e4] at hA;obtain⟨m1,m2⟩:=hA.so 0 j rfl;rw[H2] at m1 m2;have e5:=hA.hp 0 _ rfl;rw[H2] at e5;have fin:∀ (k2:TB) (X:List (Den T)),x=X→t.hp[j]? = some (some k2)→tb t.hp k2=tb hpT (.log T X)→k2.rlen=some X.length →
     (∀ i b,(ust base (.lg k T) x).2[i]? = some b→HB w N' M' (base+i) (some (tb hpT b)) (ℓ' (base+i))) ∧
     (∀ k' y,(k',y)∈(ust base (.lg k T) x).1→Rep w N' M' (av hpT y) (a.tmps.toList.getD k' undef) []):=fun k2 X hx g1 g2 g3=>by
    subst hx;refine⟨fun i b eb => ?_,fun k' y ey => ?_⟩
    ·cases i with
     |zero =>
      simp only[ust,E8,C3] at eb;subst eb;exact C7F hN hH g1 g2 m1 m2
     |succ i=>simp[ust] at eb
    ·simp only[ust,C1,P5] at ey;obtain⟨rfl,rfl⟩:=ey;have r:=slot k';rw[e] at r;exact C3t (l:=List.length (α:=Den T) x) (by simp[hpk,g1,g3]) (A5s e5) m1 r
   split at h
   ·rename_i A L e2;obtain⟨e3,hz⟩:=N5 h;cases e3;cases hz;exact fin _ _ rfl e2 rfl rfl
   ·rename_i A o L e2;cases hb:(decide (A=T)&&L.isEmpty) with
    |false=>rw[hb] at h;cases h
    |true =>
     rw[hb,A4] at h;cases h;simp only[A6,D7,A3g] at hb;obtain⟨rfl,rfl⟩:=hb;exact fin _ [] rfl e2 rfl rfl
   ·cases h
  ·rename_i e;cases h;have e4:I6 n t (.lg k T)=[none]:=by simp only[I6,e]
   rw[e4] at hA;obtain⟨m1,m2⟩:=hA.no 0 _ rfl rfl;rw[H2] at m1 m2;have e5:=hA.hp 0 _ rfl;rw[H2] at e5;refine⟨fun i b eb => ?_,fun k' y ey => ?_⟩
   ·cases i with
    |zero =>
     simp only[ust,E8,C3] at eb;subst eb;exact A7h (hpT:=hpT) (A:=T) m1 m2
    |succ i=>simp[ust] at eb
   ·simp only[ust,C1,P5] at ey;obtain⟨rfl,rfl⟩:=ey;have r:=slot k';rw[e] at r;exact C1s (A5s e5) m1 r
  ·cases h
 |bx k T =>
  intro x base h hA;simp only[S6] at h;split at h
  ·rename_i j row off e;cases hb:(Nat.beq row 0&&Nat.beq off 0) with
   |false=>rw[hb] at h;cases h
   |true =>
    rw[hb,A4] at h;simp only[A6,F4] at hb;obtain⟨rfl,rfl⟩:=hb;split at h
    ·rename_i cs e2;split at h
     ·rename_i y l hz;cases h;obtain⟨c1,ec,k1⟩:=j8 t.hp T cs _ l [] hz;rw[D5] at ec;subst ec;have hSR:=k1 base;have hlen:=hSR.len.1;have e4:I6 n t (.bx k T)=l++[some j]:=by simp only[I6,e,e2,hz]
      rw[e4] at hA;have hA1:At M M' ℓ ℓ' hpT base l (rsC base T x).2:=At.left hA hlen;have hA2:At M M' ℓ ℓ' hpT (base+(rsC base T x).2.length) [some j] [.box (rsC base T x).1]:=At.right hA hlen;obtain⟨m1,m2⟩:=hA2.so 0 j rfl;rw[H2] at m1 m2;have e5:=hA2.hp 0 _ rfl;rw[H2] at e5;refine⟨fun i b eb => ?_,fun k' y' ey => ?_⟩
      ·simp only[ust] at eb;rcases D9 i (rsC base T x).2.length with hi|hi
       ·rw[B7 hi] at eb;exact hSR.blocks hN hH hA1 i b eb
       ·rw[B6 hi] at eb;have hi0:i=(rsC base T x).2.length:=by
         have:=(B4.1 eb).1;simp at this;omega
        subst hi0;simp only[R7,E8,C3] at eb;subst eb;exact C1Z hN hH hSR hA1 e2 m1 m2
      ·simp only[ust,C1,P5] at ey;obtain⟨rfl,rfl⟩:=ey;have r:=slot k';rw[e] at r;have a1:av t.hp (.ptr j 0 0)=.ptr j 1 0 0:=by simp only[av,A2B e2]
       have a2:av hpT (.ptr (base+(rsC base T x).2.length) 0 0)=.ptr (base+(rsC base T x).2.length) 1 0 0:=by simp only[av,A2B e5]
       rw[a1] at r;rw[a2];generalize a.tmps.toList.getD k' undef=v at r ⊢;cases r with
       |ptr mm h3 h4=>exact .ptr mm (by rw[m1];exact h3) h4
     ·cases h
    ·cases h
  ·cases h
 |bv k T =>
  intro x base h hA;simp only[S6] at h;split at h
  ·rename_i j row off e;cases hb:(Nat.beq row 0&&Nat.beq off 0) with
   |false=>rw[hb] at h;cases h
   |true =>
    rw[hb,A4] at h;simp only[A6,F4] at hb;obtain⟨rfl,rfl⟩:=hb;split at h
    ·rename_i cs e2;split at h
     ·rename_i y hz;cases h;have e4:I6 n t (.bv k T)=[some j]:=by simp only[I6,e]
      rw[e4] at hA;obtain⟨m1,m2⟩:=hA.so 0 j rfl;rw[H2] at m1 m2;have e5:=hA.hp 0 _ rfl;rw[H2] at e5;refine⟨fun i b eb => ?_,fun k' y' ey => ?_⟩
      ·cases i with
       |zero =>
        simp only[ust,E8,C3] at eb;subst eb;exact C0w hN hH hz e2 m1 m2
       |succ i=>simp[ust] at eb
      ·simp only[ust,C1,P5] at ey;obtain⟨rfl,rfl⟩:=ey;have r:=slot k';rw[e] at r;have a1:av t.hp (.ptr j 0 0)=.ptr j 1 0 0:=by simp only[av,A2B e2]
       have a2:av hpT (.ptr base 0 0)=.ptr base 1 0 0:=by simp only[av,A2B e5]
       rw[a1] at r;rw[a2];generalize a.tmps.toList.getD k' undef=v at r ⊢;cases r with
       |ptr mm h3 h4=>exact .ptr mm (by rw[m1];exact h3) h4
     ·cases h
    ·cases h
  ·cases h
 |av k m K =>
  intro x base h hA;simp only[S6] at h;split at h
  ·rename_i j row off e;cases hb:(Nat.beq row 0&&Nat.beq off 0) with
   |false=>rw[hb] at h;cases h
   |true =>
    rw[hb,A4] at h;simp only[A6,F4] at hb;obtain⟨rfl,rfl⟩:=hb;split at h
    ·rename_i m' K' L e2;cases hb2:(Nat.beq m m'&&decide (K=K')) with
     |false=>rw[hb2] at h;cases h
     |true =>
      rw[hb2,A4] at h;simp only[A6,F4,D7] at hb2;obtain⟨rfl,rfl⟩:=hb2;cases h;have e4:I6 n t (.av k m K)=[some j]:=by simp only[I6,e]
      rw[e4] at hA;obtain⟨m1,m2⟩:=hA.so 0 j rfl;rw[H2] at m1 m2;have e5:=hA.hp 0 _ rfl;rw[H2] at e5;refine⟨fun i b eb => ?_,fun k' y' ey => ?_⟩
      ·cases i with
       |zero =>
        simp only[ust,E8,C3] at eb;subst eb;exact C7X hN hH e2 m1 m2
       |succ i=>simp[ust] at eb
      ·simp only[ust,C1,P5] at ey;obtain⟨rfl,rfl⟩:=ey;have r:=slot k';rw[e] at r;have a1:av t.hp (.ptr j 0 0)=.ptr j 1 0 0:=by simp only[av,A7g e2]
       have a2:av hpT (.ptr base 0 0)=.ptr base 1 0 0:=by simp only[av,A7g e5]
       rw[a1] at r;rw[a2];generalize a.tmps.toList.getD k' undef=v at r ⊢;cases r with
       |ptr mm h3 h4=>exact .ptr mm (by rw[m1];exact h3) h4
    ·cases h
  ·cases h
 |fn k f c =>
  intro x base h hA;refine⟨fun i b e=>by simp[ust] at e,fun k' y e => ?_⟩;simp only[ust,C1,P5] at e;obtain⟨rfl,rfl⟩:=e;have r:=A9H (M':=M') hK hN hL k';simp only[S6] at h;split at h
  ·rename_i g cs e;cases hb:(Nat.beq f g&&Nat.ble (A3d c) 7) with
   |false=>rw[hb] at h;cases h
   |true =>
    rw[hb,A4] at h;simp only[A6,F4] at hb;obtain⟨rfl,hn⟩:=hb;split at h
    ·rename_i y hz;cases h;obtain⟨x1,ex,hi⟩:=A8Y _ _ _ _ hz 7 (H6 hn);rw[D5] at ex;subst ex;rw[e] at r;simp only[av,O8] at r ⊢;rw[C5t,H7] at r;rw[C76];exact Im.fn hi _ _ _ _ r
    ·cases h
  ·cases h
 |ip k T =>
  intro x base h hA;refine⟨fun i b e=>by simp[ust] at e,fun k' y e => ?_⟩;simp only[ust,C1,P5] at e;obtain⟨rfl,rfl⟩:=e;have r:=A9H (M':=M') hK hN hL k';simp only[S6] at h;split at h
  ·rename_i y hz;cases h;obtain⟨x1,ex,hi⟩:=A8Y (.ip T) _ _ _ hz 8 (by simp[A3d]);rw[D5] at ex;subst ex;simp only[F6,U3,A28] at hi;cases hi with
   |cons h1 _=>exact h1 _ _ _ _ r
  ·cases h
 |ow k T =>
  intro x base h hA;simp only[S6] at h;split at h
  ·rename_i cs e;split at h
   ·rename_i y l hz;cases h;obtain⟨c1,ec,k1⟩:=j8 t.hp T cs _ l [] hz;rw[D5] at ec;subst ec;have hSR:=k1 base;have e4:I6 n t (.ow k T)=l:=by simp only[I6,e,hz]
    rw[e4] at hA;refine⟨fun i b eb=>hSR.blocks hN hH hA i b eb,fun k' y' ey => ?_⟩;simp only[ust,C1,P5] at ey;obtain⟨rfl,rfl⟩:=ey;have r:=slot k';rw[e] at r;simp only[av,O8] at r ⊢;generalize a.tmps.toList.getD k' undef=v at r ⊢;cases r with
    |agg r=>exact .agg (hSR.cells hN hA r)
   ·cases h
  ·cases h
 |pr a b iha ihb =>
  intro x base h hA;have hlen:∀ x1,S6 n t t' a=some x1→(ust base a x1).2.length=(I6 n t a).length:=fun x1 h1=>A8U a x1 base t' h1;simp only[S6] at h;split at h
  ·rename_i x1 x2 h1 h2;cases h;simp only[I6,ust] at hA;obtain⟨p1,p2⟩:=iha x1 base h1 (At.left hA (hlen _ h1));obtain⟨p3,p4⟩:=ihb x2 (base+(ust base a x1).2.length) h2 (At.right hA (hlen _ h1));refine⟨fun i b' e => ?_,fun k y e => ?_⟩
   ·simp only[ust] at e;rcases D9 i (ust base a x1).2.length with hi|hi
    ·rw[B7 hi] at e;exact p1 i b' e
    ·rw[B6 hi] at e;have:=p3 _ b' e;rw[G4,show(ust base a x1).2.length+(i-(ust base a x1).2.length)=i from by omega] at this;exact this
   ·simp only[ust] at e;rcases C9.1 e with e|e
    ·exact p2 k y e
    ·exact p4 k y e
  ·cases h
theorem B31:∀ (u:List (Nat×TV)) (k:Nat),fnd u k=.any∨(k,fnd u k)∈u
 |[],_=>.inl rfl
 |p :: u,k=>by
  simp only[fnd];cases hb:Nat.beq p.1 k with
  |true =>
   simp only[F4] at hb;subst hb;exact .inr (by simp)
  |false =>
   rcases B31 u k with h|h
   ·exact .inl h
   ·exact .inr (I7 _ h)
theorem R9.pick(h:R9 C (D2 n t) a w N M ℓ){l:List (Option Nat)}(hnd:(L8 l).Nodup)(hlt:∀ j∈L8 l,j<t.hp.length) :
  ∃ Mk Lk,H4 C (D2 n (t.kill (L8 l))) a w N Mk Lk∧∀ b,(∃ p∈Lk,p.1=b)→b<w.heap.size∧(C.w0.heap.size≤b∨b∈C.X)∧∀ j,j∈L8 l→∀ q∈ℓ j,q.1≠b:=by
 have hlt':∀ m∈L8 l,m<(D2 n t).hp.length:=fun m hm=>by rw[E6,F3];exact hlt m hm
 obtain⟨Mk,ℓk,hk,hsub⟩:=h.kill' hlt';have hk':=(L7.kill (n:=n) (t:=t) (L8 l)).concF hk;refine⟨Mk,_,hk'.d,fun b ⟨p,hp,e⟩ => ?_⟩;obtain⟨i,hi,hp⟩:=J6.1 hp;have hi:=R8.1 hi;subst e;obtain⟨o1,o2,_⟩:=hk'.own i hi p hp;refine⟨o1,o2,fun j hj q hq => ?_⟩;obtain⟨s1,s2⟩:=hsub i p hp;have hi':i<(D2 n t).hp.length:=by
  rw[E6,F3] at hi ⊢;rw[TS.kill] at hi;rw[A2r] at hi;rw[TS.flt,P8] at hi;exact hi
 exact h.dj j i (hlt' j hj) hi' (fun e=>s1 (e▸hj)) q hq p s2
structure C7e (l:List (Option Nat)) (B:List TB) (M:MT) (ℓ:Nat→List (Nat×Nat)) (M':MT) (ℓ':Nat→List (Nat×Nat)):Prop where
 at_:At M M' ℓ ℓ' (B.map some) 0 l B
 un:∀ k,B.length≤k→M' k=none
 from_:∀ i,∀ p∈ℓ' i,∃ j,l[i]? = some (some j)∧p∈ℓ j
theorem B3A(l:List (Option Nat))(B:List TB)(hlen:B.length=l.length)(M:MT)(ℓ:Nat→List (Nat×Nat)):∃ M' ℓ',C7e l B M ℓ M' ℓ':=by
 refine⟨fun i=>match l[i]? with
  |some (some j)=>M j
  |some none=>(B[i]?).map fun b=>some (vcn (tb (B.map some) b).sz)
  |none=>none,fun i=>match l[i]? with
  |some (some j)=>ℓ j
  |_=>[],⟨fun i b e => ?_,fun i j e => ?_,fun i b e e' => ?_⟩,fun k hk => ?_,fun i p hp => ?_⟩
 ·rw[E1,H3,e];rfl
 ·simp only[E1,e];exact⟨trivial,trivial⟩
 ·simp only[E1,e,e',F8];exact⟨trivial,trivial⟩
 ·have:l[k]? = none:=T1 (by omega);simp only[this]
 ·split at hp
  ·rename_i j e;exact⟨j,e,hp⟩
  ·cases hp
theorem A6L{l:List (Option Nat)}(h:(L8 l).Nodup){i i' j:Nat}(h1:l[i]? = some (some j))(h2:l[i']? = some (some j)):i=i':=by
 induction l generalizing i i' with
 |nil=>simp at h1
 |cons x l ih =>
  have mem:∀ k,l[k]? = some (some j)→j∈L8 l:=fun k e=>V6.2 (I8 e);cases i with
  |zero =>
   cases i' with
   |zero=>rfl
   |succ i' =>
    simp only[E8,C3] at h1;subst h1;exact absurd (mem i' (by simpa using h2)) (H9.1 h).1
  |succ i =>
   cases i' with
   |zero =>
    simp only[E8,C3] at h2;subst h2;exact absurd (mem i (by simpa using h1)) (H9.1 h).1
   |succ i' =>
    have h':(L8 l).Nodup:=by
     cases x with
     |none=>exact h
     |some x=>exact(H9.1 h).2
    exact congrArg (· + 1) (ih h' (by simpa using h1) (by simpa using h2))
theorem C6h(h:R9 C (D2 n t) a w N M ℓ):∀ (s:SK) (x:D3 s) (t':TS),S6 n t t' s=some x→∀ j∈L8 (I6 n t s),j<t.hp.length:=by
 have sr:∀ {base:Nat} {cs cs':List TV} {l:List (Option Nat)} {B:List TB},SR t.hp base cs cs' l B→∀ j∈L8 l,j<t.hp.length:=by
  intro base cs cs' l B h;induction h with
  |nil=>intro j hj;simp[L8] at hj
  |leaf _ _ ih=>exact ih
  |own h1 _ _ ih =>
   intro j hj;simp only[L8,D8] at hj;rcases hj with rfl|hj
   ·exact(B4.1 h1).1
   ·exact ih j hj
  |none _ ih=>exact ih
 have app:∀ (a b:List (Option Nat)) (j:Nat),j∈L8 (a++b)↔j∈L8 a∨j∈L8 b:=fun a b j=>by simp[V6]
 intro s;induction s with
 |un|d|fn|ip|al=>intro x t' _ j hj;simp[I6,L8] at hj
 |sum a b=>intro x t' h;cases h
 |o k T =>
  intro x t' hc j hj;simp only[S6] at hc;split at hc
  ·rename_i i e;simp only[I6,e,L8,C1] at hj;subst hj;split at hc
   ·rename_i e2;exact(B4.1 e2).1
   ·cases hc
  ·rename_i e;simp[I6,e,L8] at hj
  ·cases hc
 |mo k T =>
  intro x t' hc j hj;simp only[S6] at hc;split at hc
  ·rename_i i e;simp only[I6,e,L8,C1] at hj;subst hj;split at hc
   ·rename_i e2;exact(B4.1 e2).1
   ·cases hc
  ·rename_i e;simp[I6,e,L8] at hj
  ·cases hc
 |lg k T =>
  intro x t' hc j hj;simp only[S6] at hc;split at hc
  ·rename_i i e;simp only[I6,e,L8,C1] at hj;subst hj;split at hc
   ·rename_i e2;exact(B4.1 e2).1
   ·rename_i e2;exact(B4.1 e2).1
   ·cases hc
  ·rename_i e;simp[I6,e,L8] at hj
  ·cases hc
 |bx k T =>
  intro x t' hc j hj;simp only[S6] at hc;split at hc
  ·rename_i i row off e;cases hb:(Nat.beq row 0&&Nat.beq off 0) with
   |false=>rw[hb] at hc;cases hc
   |true =>
    rw[hb,A4] at hc;split at hc
    ·rename_i cs e2;split at hc
     ·rename_i y l hz;obtain⟨c1,_,k1⟩:=j8 t.hp T cs _ l [] hz;simp only[I6,e,e2,hz] at hj;rcases (app _ _ _).1 hj with h|h
      ·exact sr (k1 0) j h
      ·simp only[L8,C1] at h;subst h;exact(B4.1 e2).1
     ·cases hc
    ·cases hc
  ·cases hc
 |bv k T =>
  intro x t' hc j hj;simp only[S6] at hc;split at hc
  ·rename_i i row off e;simp only[I6,e,L8,C1] at hj;subst hj;cases hb:(Nat.beq row 0&&Nat.beq off 0) with
   |false=>rw[hb] at hc;cases hc
   |true =>
    rw[hb,A4] at hc;split at hc
    ·rename_i cs e2;exact(B4.1 e2).1
    ·cases hc
  ·cases hc
 |av k m K =>
  intro x t' hc j hj;simp only[S6] at hc;split at hc
  ·rename_i i row off e;simp only[I6,e,L8,C1] at hj;subst hj;cases hb:(Nat.beq row 0&&Nat.beq off 0) with
   |false=>rw[hb] at hc;cases hc
   |true =>
    rw[hb,A4] at hc;split at hc
    ·rename_i cs e2;exact(B4.1 e2).1
    ·cases hc
  ·cases hc
 |ow k T =>
  intro x t' hc j hj;simp only[S6] at hc;split at hc
  ·rename_i cs e;split at hc
   ·rename_i y l hz;obtain⟨c1,_,k1⟩:=j8 t.hp T cs _ l [] hz;simp only[I6,e,hz] at hj;exact sr (k1 0) j hj
   ·cases hc
  ·cases hc
 |pr a b iha ihb =>
  intro x t' hc j hj;simp only[S6] at hc;split at hc
  ·rename_i x1 x2 h1 h2;simp only[I6] at hj;rcases (app _ _ _).1 hj with h|h
   ·exact iha x1 t' h1 j h
   ·exact ihb x2 t' h2 j h
  ·cases hc
theorem B4j:∀ {q i:Nat} {l:List (Option Nat)},A95 q i l=true→∀ k,k<q→l[k]? = some (some (i+k))
 |0,_,_,_,_,hk=>by omega
 |q+1,i,[],h,_,_=>by cases h
 |q+1,i,none :: l,h,_,_=>by cases h
 |q+1,i,some j :: l,h,k,hk=>by
  simp only[A95,A6,F4] at h;obtain⟨rfl,h⟩:=h;cases k with
  |zero=>rfl
  |succ k =>
   have:=B4j h k (by omega);rw[A0K,this];congr 2;omega
theorem A8W{q:Nat}(hC:∀ k,q≤k→C.M0 k=none){s:SK}{x:D3 s}(hq:A95 q 0 (I6 n t s)=true)(hm:B1c n s t=some x)(hD:R9 C (D2 n t) a w N M ℓ) :
  ∃ N' M' ℓ',R9 C (D2 n (mkS s x)) a w N' M' ℓ'∧C7e (I6 n t s) (ust 0 s x).2 M ℓ M' ℓ'∧(∀ b o,N b o→N' b o)∧(L8 (I6 n t s)).Nodup∧(∀ j∈L8 (I6 n t s),j<t.hp.length)∧(ust 0 s x).2.length=(I6 n t s).length∧∃ t',S6 n t t' s=some x:=by
 unfold B1c at hm;simp only at hm;cases hnb:d5 (L8 (I6 n t s)) with
 |false=>rw[hnb] at hm;cases hm
 |true =>
  rw[hnb,A4] at hm;have hnd:=j5 hnb;have hlt:=C6h hD s x _ hm;have hlen:=A8U s x 0 _ hm;obtain⟨Mk,Lk,hK,hfr⟩:=hD.pick hnd hlt;obtain⟨M',ℓ',hkept⟩:=B3A (I6 n t s) (ust 0 s x).2 hlen M ℓ;obtain⟨k1,k2,k3⟩:=hkept;have hpre:=B4j hq;have hql:q≤(I6 n t s).length:=by
   rcases A2n q with e|e
   ·omega
   ·have:=(B4.1 (hpre (q-1) (by omega))).1;omega
  let N':NT:=fun b o=>N b o∨∃ p∈Lk,p.1=b
  have hN:∀ b o,N b o→N' b o:=fun b o h=>.inl h;obtain⟨q1,q2⟩:=B9T (N':=N') (M':=M') (ℓ':=ℓ') hD hK hN (fun p hp o=>.inr ⟨p,hp,rfl⟩) s x 0 hm k1;have hlt':∀ i j,(I6 n t s)[i]? = some (some j)→j<(D2 n t).hp.length:=fun i j e=>by
   rw[E6,F3];exact hlt j (V6.2 (I8 e))
  have hpl:(D2 n (mkS s x)).hp.length=(ust 0 s x).2.length:=by rw[E6,F3];simp[mkS]
  refine⟨N',M',ℓ',⟨hD.df,?_,fun i y hy => ?_,fun i hi => ?_,fun i i' hi hi' hne p hp q hq => ?_,fun i hi p hp => ?_,fun b o hn => ?_,fun b o hn=>.inl (hD.nup b o hn),fun b o hn => ?_,hD.fr,fun k hk=>k2 k (by rw[← hpl];exact hk),fun k m m0 h1 h0 => ?_,fun k hk=>hC k (by rw[hpl,hlen] at hk;omega)⟩,⟨k1,k2,k3⟩,hN,hnd,hlt,hlen,_,hm⟩
  ·have hl:=hD.sl.length;rw[T5] at hl;have:∀ (ys:List AV) (vs:List Value),ys.length=vs.length→(∀ i,Rep w N' M' (ys.getD i .any) (vs.getD i undef) [])→F5 w N' M' ys vs []:=by
    intro ys;induction ys with
    |nil=>intro vs hl _;cases vs with|nil=>exact .nil|cons=>simp at hl
    |cons y ys ih =>
     intro vs hl h;cases vs with
     |nil=>simp at hl
     |cons v vs=>exact .cons (L1:=[]) (L2:=[]) (by simpa using h 0) (ih vs (by simpa using hl) fun i=>by simpa using h (i+1))
   refine this _ _ (by rw[T5,hl]) fun i => ?_;rw[R5];unfold TS.get;cases Nat.blt i n with
   |false=>exact .any _
   |true =>
    rcases B31 (mkS s x).u i with e|e
    ·simp only[A4,e];exact .any _
    ·exact q2 i _ e
  ·rw[E6,I1] at hy;simp only[mkS,H3] at hy;cases hb:(ust 0 s x).2[i]? with
   |none=>rw[hb] at hy;cases hy
   |some b =>
    rw[hb] at hy;simp only[F8,C3] at hy;subst hy;have:=q1 i b hb;rw[E1] at this;exact this
  ·cases hq:(I6 n t s)[i]? with
   |none =>
    have:ℓ' i=[]:=by
     cases hl:ℓ' i with
     |nil=>rfl
     |cons p _=>obtain⟨j,e,_⟩:=k3 i p (by rw[hl];simp);rw[hq] at e;cases e
    rw[this];simp
   |some o =>
    cases o with
    |none =>
     have:ℓ' i=[]:=by
      cases hl:ℓ' i with
      |nil=>rfl
      |cons p _=>obtain⟨j,e,_⟩:=k3 i p (by rw[hl];simp);rw[hq] at e;cases e
     rw[this];simp
    |some j =>
     have:=(k1.so i j hq).2;rw[E1] at this;rw[this];exact hD.nd j (hlt' i j hq)
  ·obtain⟨j,e,m1⟩:=k3 i p hp;obtain⟨j',e',m2⟩:=k3 i' q hq;refine hD.dj j j' (hlt' i j e) (hlt' i' j' e') (fun ee => ?_) p m1 q m2;subst ee;exact hne (A6L hnd e e')
  ·obtain⟨j,e,m1⟩:=k3 i p hp;obtain⟨o1,o2,o3⟩:=hD.own j (hlt' i j e) p m1;refine⟨o1,o2,fun o hn => ?_⟩;rcases hn with hn|hn
   ·exact o3 o hn
   ·exact absurd rfl ((hfr p.1 hn).2.2 j (V6.2 (I8 e)) p m1)
  ·rcases hn with hn|hn
   ·exact hD.nlt b o hn
   ·exact(hfr b hn).1
  ·rcases hn with hn|hn
   ·exact hD.ndn b o hn
   ·exact .inr (hfr b hn).2.1
  ·have hk:k<q:=by
    rcases D9 k q with h|h
    ·exact h
    ·rw[hC k h] at h0;cases h0
   have e:=hpre k hk;rw[E1] at e;have:=(k1.so k k e).1;rw[E1] at this;rw[this] at h1;exact hD.mv k m m0 h1 h0
theorem B9E{q q':Nat}(hC:∀ k,q≤k→C.M0 k=none)(hqq:q≤q'){s:SK}{x:D3 s}(hm:B5b n q' s t=some x)(hc:M8 C (D2 n t) a w):M8 C (D2 n (mkS s x)) a w:=by
 obtain⟨N,M,ℓ,hD⟩:=(A4A hc).fn;unfold B5b at hm;cases hq:A95 q' 0 (I6 n (A0e t) s) with
 |false=>rw[hq] at hm;cases hm
 |true =>
  rw[hq,A4] at hm;obtain⟨N',M',ℓ',h,_⟩:=A8W (q:=q') (fun k hk=>hC k (by omega)) hq hm hD;exact h.c
theorem C8r(a:Act)(k:Nat):a.put (some k) (a.eval (.tmp k))=a:=by
 cases a with
 |mk tmps defers =>
  simp only[Act.put,Act.eval];congr 1;apply Array.ext
  ·simp
  ·intro i h1 h2;rw[A1t];split
   ·rename_i e;subst e;simp[Array.getD,h2]
   ·rfl
theorem C2B{w0:World}(hD:R9 C (D2 n t) a w N M ℓ):∀ (cs:List TV) (ks:List Nat),al2 n t cs ks=true→∀ vs,F5 w N M (cs.map (av t.hp)) vs []→vs=ks.map (fun q=>a.tmps.toList.getD q undef)∧∀ q∈ks,q<n:=by
 intro cs;induction cs with
 |nil =>
  intro ks h vs r;cases ks with
  |nil=>cases r;exact⟨rfl,fun q hq=>by cases hq⟩
  |cons=>cases h
 |cons c cs ih =>
  intro ks h vs r;cases ks with
  |nil=>cases h
  |cons q ks =>
   simp only[al2,A6] at h;obtain⟨h1,h2⟩:=h;split at h1
   ·rename_i j row off;split at h1
    ·rename_i j' row' off' hq;simp only[A6,F4] at h1;obtain⟨rfl,rfl,rfl,rfl,hbx,hqn⟩:=h1;rw[Q5] at hqn;have hpkj:hpk t.hp j=some none:=by
      unfold C5I at hbx;split at hbx
      ·assumption
      ·cases hbx
     generalize hK:([]:List Nat)=K at r;cases r with
     |cons hx ht =>
      obtain⟨rfl,rfl⟩:=G9.1 hK.symm;obtain⟨e1,e2⟩:=ih ks h2 _ ht;have hs:=hD.sl.get q;rw[R5,hq] at hs;have hav:av t.hp (.ptr j 0 off)=.ptr j 1 0 off:=by simp only[av,hpkj]
      rw[hav] at hx hs;obtain⟨z,hz⟩:∃ z,t.hp[j]? = some (some z)∧z.rlen=none:=by
       unfold hpk at hpkj;split at hpkj
       ·rename_i z hz;exact⟨z,hz,by simpa using hpkj⟩
       ·cases hpkj
      obtain⟨m,L1,q1,q2,_⟩:=hD.hp j (some (tb t.hp z)) (by rw[E6,I1,hz.1];rfl);have hml:m.len=1:=by
       have:=q2.len;cases z with
       |box cs=>simpa[tb] using this
       |ara n k L=>simpa[tb] using this
       |arr=>cases hz.2
       |rws=>cases hz.2
       |hol=>cases hz.2
       |tld=>cases hz.2
       |log=>cases hz.2
      have addr:∀ v,Rep w N M (.ptr j 1 0 off) v []→v=.pointer (some ⟨m.b,m.o+0*m.sz+off,none⟩):=fun v r=>by
       cases r with
       |ptr mm g1 g2 =>
        rw[q1] at g1;cases g1;obtain⟨_,g3⟩:=g2 m rfl;obtain⟨_,_,g4⟩:=g3 hml.symm;rw[g4]
      refine⟨?_,fun q' hq' => ?_⟩
      ·rw[F6,← e1,addr _ hx,addr _ hs]
      ·rcases D8.1 hq' with rfl|hq'
       ·exact hqn
       ·exact e2 q' hq'
    ·cases h1
   ·cases h1
theorem B8k{t':TS}{L:List (Nat×Nat)}(hD:R9 C (D2 n t) a w N M ℓ):∀ (l:List (Nat×FuncId×List Nat)) (t':TS),B3q n t l=true→H4 C (D2 n t') a w N' M' L→H4 C (D2 n (B0s l t')) a w N' M' L:=by
 intro l;induction l with
 |nil=>intro t' _ h;exact h
 |cons x l ih =>
  obtain⟨k,f,ks⟩:=x;intro t' ho h;simp only[B3q,A6] at ho;obtain⟨h1,h2⟩:=ho;rw[B0s];refine ih _ h2 ?_;split at h1
  ·rename_i g cs hg;simp only[A6,F4] at h1;obtain⟨rfl,h3⟩:=h1;have hs:=hD.sl.get k;rw[R5,hg] at hs;have r:Rep w N' M' (av t'.hp (.fn f (ks.map (fnd t'.u)))) (a.eval (.tmp k)) []:=by
    have he:a.eval (.tmp k)=a.tmps.toList.getD k undef:=(A6N _ _ _).symm;rw[he];simp only[av] at hs ⊢;rw[O8] at hs ⊢;generalize a.tmps.toList.getD k undef=v at hs;cases hs with
    |fn r =>
     obtain⟨e1,e2⟩:=C2B (w0:=w) hD cs ks h3 _ r;rw[e1];refine .fn ?_;have key:∀ ks:List Nat,(∀ q∈ks,q<n)→F5 w N' M' ((ks.map (fnd t'.u)).map (av t'.hp)) (ks.map fun q=>a.tmps.toList.getD q undef) []:=by
      intro ks;induction ks with
      |nil=>intro _;exact .nil
      |cons q ks ihk =>
       intro hq;refine .cons (L1:=[]) (L2:=[]) ?_ (ihk fun q' h=>hq q' (by simp[h]));have:=h.sl.get q;rw[R5] at this;unfold TS.get at this;rw[show Nat.blt q n=true from by rw[Q5];exact hq q (by simp),A4] at this;exact this
     exact key ks e2
   have:=h.put (some k) r;rw[C8r] at this;rw[T9];exact this
  ·cases h1
theorem B38{Ω:Type}(k:TS→Ω):∀ (s:SK) (x:D3 s),A3T k s x=k (stL s x):=by
 intro s;induction s with
 |sum a b iha ihb=>intro x;cases x with
  |inl x=>exact iha x
  |inr x=>exact ihb x
 |_=>intro x;rfl
theorem A6H{q q':Nat}(hC:∀ k,q≤k→C.M0 k=none)(hqq:q≤q'):∀ {s:SK} {x:D3 s},A3V n q' s t=some x→M8 C (D2 n t) a w→M8 C (D2 n (stL s x)) a w:=by
 have plain:∀ {t:TS} {s:SK} {x:D3 s},(bif B3q n (A0e t) (A76 s) then B5b n q' s t else none)=some x→M8 C (D2 n t) a w→M8 C (D2 n (B0s (A76 s) (mkS s x))) a w:=fun {t s x} hm hc=>by
  obtain⟨N,M,ℓ,hD⟩:=(A4A hc).fn;cases ha:B3q n (A0e t) (A76 s) with
  |false=>rw[ha] at hm;cases hm
  |true =>
   rw[ha,A4] at hm;obtain⟨N',M',L',h⟩:=B9E hC hqq hm hc;exact⟨N',M',L',B8k (t':=t) hD (A76 s) (mkS s x) ha h⟩
 intro s;induction s with
 |sum a b iha ihb =>
  intro x hm hc;simp only[A3V] at hm;split at hm
  ·rename_i y hy;cases hm;exact iha hy hc
  ·split at hm
   ·rename_i y hy;cases hm;exact ihb hy hc
   ·cases hm
 |_=>intro x hm hc;exact plain hm (C2S _ hc)
end
open Go Go.RowKit
def Z9(R:RK)(ρ:G8 R)(s:SK)(y:N9 s):List TB:=(I3 0 R ρ).2++slW s (I3 0 R ρ).2.length y
def B2R(R:RK)(ρ:G8 R)(s:SK)(y:N9 s):THP:=(Z9 R ρ s y).map some++fxW s (I3 0 R ρ).2.length y
structure B0p (w:World) (N:NT) (M:MT) (L:List (Nat×Nat)) (hpT:THP) (np:Nat) (x:TV) (r:Value) (w':World) (N':NT) (M':MT) (L':List (Nat×Nat)):Prop where
 rep:Rep w' N' M' (av hpT x) r []
 env:Env w' N' M' (F1 hpT) L'
 fr:FrN N (L.map Prod.fst) w w'
 nup:∀ b o,N b o→N' b o
 ndn:∀ b o,N' b o→N b o∨w.heap.size≤b∨b∈L.map Prod.fst
 new:∀ p∈L',w.heap.size≤p.1∨p.1∈L.map Prod.fst
 mv:∀ k m m0,M' (np+k)=some (some m)→M k=some (some m0)→m0.len≤m.len∧(m.len=m0.len→m=m0)
def t5(P:Program)(cm:CM):Prop:=∀ x r,cm.F x=some r→A8Q cm.s x r.2=true∧Good P cm.f∧∀ w N M L vs,Env w N M (F1 ((ust 0 cm.s x).2.map some)) L →
 F5 w N M (D2 (k8 cm.s).length (mkS cm.s x)).sl vs [] →
  Calls P cm.f ⟨vs⟩ w fun e w'=>∃ v,e=.returned v∧∃ N' M' L',B0p w N M L (B2R cm.R r.1 cm.s r.2) (Z9 cm.R r.1 cm.s r.2).length (A00 (I3 0 cm.R r.1).1) v w' N' M' L'
def A9a(P:Program):CX→Prop
 |.c ct=>J9 P ct
 |.m cm=>t5 P cm
theorem A91{h:THP}:∀ (T:Ty) (x:Den T) (b m:Nat),b+(rsC b T x).2.length≤m→∀ c∈(rsC b T x).1,(av h c).low m=true∧∀ h',(∀ j,j<m→hpk h j=hpk h' j)→av h c=av h' c:=by
 intro T;induction T with
 |i|bl|tx=>intro x b m _ c hc;simp only[rsC,C1] at hc;subst hc;exact⟨rfl,fun _ _=>rfl⟩
 |sv t _=>intro x b m _ c hc;simp only[rsC,C1] at hc;subst hc;exact⟨A4n (ag:=(Ty.sl t).ag) (l:=cls false (.sl t) x) (A4f m false (.sl t) x),fun _ _=>rfl⟩
 |ar n k =>
  intro x b m _ c hc;simp only[rsC,W8,C5] at hc;obtain⟨i,_,rfl⟩:=hc;exact⟨rfl,fun _ _=>rfl⟩
 |sl t _ =>
  intro x b m hm c hc;simp only[rsC,C1] at hc;simp only[rsC,J5] at hm;subst hc;refine⟨?_,fun h' e => ?_⟩
  ·simp only[av];split
   ·simp only[AV.low,D7];omega
   ·rfl
  ·simp only[av];rw[e b (by omega)]
 |st t ih=>intro x b;exact ih x b
 |pr a d iha ihd =>
  intro x b m hm c hc;have e:(rsC b (.pr a d) x).2.length=(rsC b a x.1).2.length+(rsC (b+(rsC b a x.1).2.length) d x.2).2.length:=by simp[rsC]
  rcases C9.1 hc with hc|hc
  ·exact iha _ _ m (by omega) c hc
  ·exact ihd _ _ m (by omega) c hc
theorem B9a{h:THP}{m:Nat}{cs:List TV}(hc:∀ c∈cs,(av h c).low m=true∧∀ h',(∀ j,j<m→hpk h j=hpk h' j)→av h c=av h' c):q9 m (avL h cs)=true∧∀ h',(∀ j,j<m→hpk h j=hpk h' j)→avL h cs=avL h' cs:=by
 refine⟨?_,fun h' e => ?_⟩
 ·rw[A0Z,O8,X5,D6];exact fun c k=>(hc c k).1
 ·rw[O8,O8];exact E4 fun c k=>(hc c k).2 h' e
theorem C4E{h:THP}(T:Ty)(x:Den T)(b m:Nat)(hm:b+(A0x b T x).2.length≤m):(av h (A0x b T x).1).low m=true∧∀ h',(∀ j,j<m→hpk h j=hpk h' j)→av h (A0x b T x).1=av h' (A0x b T x).1:=by
 unfold A0x at hm ⊢;cases hf:T.flat with
 |true =>
  simp only[A4,B5A];exact⟨A4n (A4f m false T x),fun _ _=>trivial⟩
 |false =>
  rw[hf,A9] at hm;simp only[A9];cases ha:T.ag with
  |true =>
   rw[ha,A4] at hm;obtain⟨k1,k2⟩:=B9a (A91 (h:=h) T x b m hm);refine⟨k1,fun h' e => ?_⟩;simp only[A4,av];rw[k2 h' e]
  |false =>
   rw[ha,A9] at hm;have:=A91 (h:=h) T x b m hm;simp only[A9];generalize (rsC b T x).1=l at this;cases l with
   |nil=>exact⟨rfl,fun _ _=>rfl⟩
   |cons c l=>exact this c (by simp)
theorem B6k{h:THP}:∀ (R:RK) (r:G8 R) (b m:Nat),b+(I3 b R r).2.length≤m→∀ c∈(I3 b R r).1,(av h c).low m=true∧∀ h',(∀ j,j<m→hpk h j=hpk h' j)→av h c=av h' c:=by
 intro R;induction R with
 |un=>intro r b m _ c hc;cases hc
 |t T=>intro r b m hm c hc;simp only[I3,C1] at hc;subst hc;exact C4E T r b m hm
 |pv T =>
  intro r b m hm c hc;simp only[I3,C1] at hc;simp only[I3,J5] at hm;subst hc;refine⟨?_,fun h' e => ?_⟩
  ·simp only[av];split
   ·simp only[AV.low,D7];omega
   ·simp only[AV.low,D7];omega
   ·rfl
  ·simp only[av];rw[e b (by omega)]
 |pr a d iha ihd =>
  intro x b m hm c hc;have e:(I3 b (.pr a d) x).2.length=(I3 b a x.1).2.length+(I3 (b+(I3 b a x.1).2.length) d x.2).2.length:=by simp[I3]
  rcases C9.1 hc with hc|hc
  ·exact iha _ _ m (by omega) c hc
  ·exact ihd _ _ m (by omega) c hc
theorem B8n{h:THP}{m:Nat}{cs:List TV}(hc:∀ c∈cs,(av h c).low m=true∧∀ h',(∀ j,j<m→hpk h j=hpk h' j)→av h c=av h' c):(av h (A00 cs)).low m=true∧∀ h',(∀ j,j<m→hpk h j=hpk h' j)→av h (A00 cs)=av h' (A00 cs):=by
 have tp:∀ cs:List TV,(∀ c∈cs,(av h c).low m=true∧∀ h',(∀ j,j<m→hpk h j=hpk h' j)→av h c=av h' c)→(av h (.tp cs)).low m=true∧∀ h',(∀ j,j<m→hpk h j=hpk h' j)→av h (.tp cs)=av h' (.tp cs):=fun cs hc=>by
  obtain⟨k1,k2⟩:=B9a hc;refine⟨k1,fun h' e => ?_⟩;simp only[av];rw[k2 h' e]
 match cs,hc with
 |[],hc=>exact tp [] hc
 |[x],hc=>exact hc x (by simp)
 |x :: y :: cs,hc=>exact tp _ hc
theorem A7Z:∀ (l:List (Option Nat)) (B:List (Option TB)) (hp:THP),(A1x hp l B).length=hp.length
 |[],_,_=>by unfold A1x;rfl
 |some j :: l,[],hp=>rfl
 |none :: l,[],hp=>rfl
 |some j :: l,b :: B,hp=>by rw[A1x,A7Z l B];simp
 |none :: l,b :: B,hp=>by rw[A1x,A7Z l B]
theorem A2A:∀ (l:List (Option Nat)) (B:List (Option TB)) (hp:THP) (k:Nat),(∀ i:Nat,l[i]? ≠ some (some k))→(A1x hp l B)[k]? = hp[k]?
 |[],_,_,_,_=>by unfold A1x;rfl
 |some j :: l,[],hp,_,_=>rfl
 |none :: l,[],hp,_,_=>rfl
 |some j :: l,b :: B,hp,k,h=>by
  rw[A1x,A2A l B _ k fun i=>h (i+1)];have:j≠k:=fun e=>h 0 (by rw[e];rfl);rw[List.getElem?_set_ne this]
 |none :: l,b :: B,hp,k,h=>by rw[A1x,A2A l B _ k fun i=>h (i+1)]
theorem B0q:∀ (l:List (Option Nat)) (B:List (Option TB)) (hp:THP),(L8 l).Nodup→(∀ j∈L8 l,j<hp.length)→∀ (i k:Nat) (b:Option TB),l[i]? = some (some k)→B[i]? = some b→(A1x hp l B)[k]? = some b
 |[],_,_,_,_,i,k,b,h,_=>by simp at h
 |x :: l,[],_,_,_,i,k,b,_,h=>by simp at h
 |none :: l,b' :: B,hp,hn,hl,i,k,b,h1,h2=>by
  rw[A1x];cases i with
  |zero=>simp at h1
  |succ i=>exact B0q l B hp hn hl i k b (by simpa using h1) (by simpa using h2)
 |some j :: l,b' :: B,hp,hn,hl,i,k,b,h1,h2=>by
  rw[A1x];have hn':=H9.1 hn;cases i with
  |zero =>
   simp only[E8,C3] at h1 h2;subst h1;subst h2;rw[A2A l B _ j fun i e=>hn'.1 (V6.2 (I8 e))];have:=hl j (by simp[L8]);simp[this]
  |succ i=>exact B0q l B _ hn'.2 (fun m hm=>by rw[G1];exact hl m (by simp[L8,hm])) i k b (by simpa using h1) (by simpa using h2)
theorem A4P:∀ (l:List (Option Nat)) (B:List (Option TB)),B.length=l.length→∀ k,k∈A1u l B↔∃ i:Nat,l[i]? = some (some k)∧B[i]? = some none
 |[],_,_,k=>by simp[A1u]
 |x :: l,[],h,k=>by simp at h
 |none :: l,b :: B,h,k=>by
  rw[A1u,A4P l B (by simpa using h) k];refine⟨fun⟨i,h1,h2⟩=>⟨i+1,by simpa using h1,by simpa using h2⟩,fun⟨i,h1,h2⟩ => ?_⟩;cases i with
  |zero=>simp at h1
  |succ i=>exact⟨i,by simpa using h1,by simpa using h2⟩
 |some j :: l,some b :: B,h,k=>by
  rw[A1u,Option.isSome_some,A4,A4P l B (by simpa using h) k];refine⟨fun⟨i,h1,h2⟩=>⟨i+1,by simpa using h1,by simpa using h2⟩,fun⟨i,h1,h2⟩ => ?_⟩;cases i with
  |zero=>simp at h2
  |succ i=>exact⟨i,by simpa using h1,by simpa using h2⟩
 |some j :: l,none :: B,h,k=>by
  rw[A1u,Option.isSome_none,A9,D8,A4P l B (by simpa using h) k];refine⟨fun h => ?_,fun⟨i,h1,h2⟩ => ?_⟩
  ·rcases h with rfl|⟨i,h1,h2⟩
   ·exact⟨0,rfl,rfl⟩
   ·exact⟨i+1,by simpa using h1,by simpa using h2⟩
  ·cases i with
   |zero=>simp at h1;exact .inl h1.symm
   |succ i=>exact .inr ⟨i,by simpa using h1,by simpa using h2⟩
theorem A8C:∀ (s:SK) (y:N9 s) (b:Nat),slW s b y=slW s 0 y:=by
 intro s;induction s with
 |un|d|fn|ip|o|mo|lg|av|ow|al|sum|bv=>intro y b;rfl
 |bx k T=>intro y b;exact(o9 T y b).2
 |pr a c iha ihc =>
  intro y b;simp only[slW];rw[iha y.1 b,ihc y.2 (b+Y8 a),ihc y.2 (0+Y8 a)]
theorem A0M:∀ (s:SK) (y:N9 s) (b:Nat),(slW s b y).length=Y8 s:=by
 intro s;induction s with
 |un|d|fn|ip|o|mo|lg|av|ow|al|sum|bv=>intro y b;rfl
 |bx k T=>intro y b;exact z7 T y b
 |pr a c iha ihc=>intro y b;simp only[slW,Y8,A5,iha,ihc]
theorem B3O:∀ (s:SK) (y:N9 s) (b:Nat),∀ k∈slW s b y,A2a k=true:=by
 intro s;induction s with
 |un|d|fn|ip|o|mo|lg|av|ow|al|sum|bv=>intro y b k hk;cases hk
 |bx k T=>intro y b;exact B81 T y b
 |pr a c iha ihc =>
  intro y b k hk;simp only[slW] at hk;rcases C9.1 hk with h|h
  ·exact iha _ _ k h
  ·exact ihc _ _ k h
theorem C4t:∀ (T:Ty),T.nov=true→∀ (y:A3P T),∀ k∈A0h T y,k.novB=true:=by
 intro T;induction T with
 |i|bl|tx|sv|ar=>intro _ y x hx;cases hx
 |sl t _=>intro h y x hx;simp only[A0h,C1] at hx;subst hx;exact h
 |st t ih=>exact fun h y=>ih h y
 |pr a c iha ihc =>
  intro h y x hx;simp only[Ty.nov,A6] at h;simp only[A0h] at hx;rcases C9.1 hx with hx|hx
  ·exact iha h.1 _ x hx
  ·exact ihc h.2 _ x hx
theorem C6d:∀ (s:SK),A5Q s=true→∀ (y:N9 s) (b:Nat),∀ k∈slW s b y,k.novB=true:=by
 intro s;induction s with
 |un|d|fn|ip|o|mo|lg|av|ow|al|sum|bv=>intro _ y b k hk;cases hk
 |bx k T=>intro h y b;exact B8N T h y b
 |pr a c iha ihc =>
  intro h y b k hk;simp only[A5Q,A6] at h;simp only[slW] at hk;rcases C9.1 hk with hk|hk
  ·exact iha h.1 _ _ k hk
  ·exact ihc h.2 _ _ k hk
theorem C6U:∀ (s:SK),A5Q s=true→∀ (y:N9 s) (b:Nat),∀ k,some k∈fxW s b y→k.novB=true:=by
 intro s;induction s with
 |un|d|fn|ip|al|sum=>intro _ y b k hk;cases hk
 |bv k T=>intro h;cases h
 |mo k T=>intro h y b k hk;simp[fxW] at hk
 |lg k T=>intro h;cases h
 |av k m K=>intro h;cases h
 |o k T=>intro h y b k hk;simp only[fxW,C1,C3] at hk;subst hk;exact h
 |ow k T =>
  intro h y b k hk;simp only[fxW] at hk;obtain⟨z,hz,e⟩:=C5.1 hk;have e:=P3 e;subst e;exact C4t T h y z hz
 |bx k T =>
  intro h y b k hk;simp only[fxW] at hk;rcases C9.1 hk with hk|hk
  ·rw[List.mem_replicate] at hk;cases hk.2
  ·simp only[C1,C3] at hk;subst hk;rfl
 |pr a c iha ihc =>
  intro h y b k hk;simp only[A5Q,A6] at h;simp only[fxW] at hk;rcases C9.1 hk with hk|hk
  ·exact iha h.1 _ _ k hk
  ·exact ihc h.2 _ _ k hk
theorem A0s:∀ (s:SK) (y:N9 s) (b:Nat),(fxW s b y).length=c9 s:=by
 intro s;induction s with
 |un|d|fn|ip|o|mo|lg|av|al|sum|bv=>intro y b;rfl
 |ow k T=>intro y b;simp only[fxW,c9,C7];exact A3b T y
 |bx k T=>intro y b;simp[fxW,c9]
 |pr a c iha ihc=>intro y b;simp only[fxW,c9,A5,iha,ihc]
def TB.shf(b:Nat):TB→TB
 |.box cs=>.box (Z7 b cs)
 |x=>x
theorem B4x:∀ (s:SK) (y:N9 s) (b n:Nat),fxW s (b+n) y=(fxW s b y).map (Option.map (TB.shf n)):=by
 intro s;induction s with
 |un|d|fn|ip|o|mo|lg|av|al|sum=>intro y b n;rfl
 |bv k T=>intro y b n;simp only[fxW,F6,U3,F8,TB.shf,C09]
 |ow k T =>
  intro y b n;simp only[fxW,H7];refine E4 fun x hx => ?_;have:∀ (T:Ty) (y:A3P T),∀ x∈A0h T y,A2a x=true:=by
   intro T;induction T with
   |i|bl|tx|sv|ar=>intro y x hx;cases hx
   |sl t _=>intro y x hx;simp only[A0h,C1] at hx;subst hx;rfl
   |st t ih=>exact fun y=>ih y
   |pr a c iha ihc =>
    intro y x hx;simp only[A0h] at hx;rcases C9.1 hx with h|h
    ·exact iha _ x h
    ·exact ihc _ x h
  have h:=this T y x hx;cases x<;>first|rfl|cases h
 |bx k T =>
  intro y b n;simp only[fxW,G0,List.map_replicate,F6,U3,A0X,F8,TB.shf];rw[(o9 T y (b+n)).1,(o9 T y b).1,A0n]
 |pr a c iha ihc =>
  intro y b n;simp only[fxW,G0];rw[iha,← ihc,show b+n+Y8 a=b+Y8 a+n from by omega]
theorem B1U{h:THP}:∀ (T:Ty) (x:Den T) (b:Nat),(∀ i k,(rsC b T x).2[i]? = some k→h[b+i]? = some (some k))→∀ c∈(rsC b T x).1,c.c1 h=true:=by
 intro T;induction T with
 |i|bl|tx|sv=>intro x b _ c hc;simp only[rsC,C1] at hc;subst hc;rfl
 |ar n k =>
  intro x b _ c hc;simp only[rsC,W8,C5] at hc;obtain⟨i,_,rfl⟩:=hc;rfl
 |sl t _ =>
  intro x b hh c hc;simp only[rsC,C1] at hc;subst hc;have:=hh 0 _ rfl;rw[H2] at this;simp[TV.c1,f8,hpk,this,TB.rlen]
 |st t ih=>intro x b;exact ih x b
 |pr a d iha ihd =>
  intro x b hh c hc;simp only[rsC] at hh hc;rcases C9.1 hc with hc|hc
  ·exact iha _ _ (fun i k e=>hh i k (by rw[B7 (B4.1 e).1];exact e)) c hc
  ·refine ihd _ _ (fun i k e => ?_) c hc;rw[G4];exact hh _ k (by rw[B6 (by omega),J8];exact e)
def B7x:SK→Bool
 |.bv _ _=>false
 |.pr a b=>B7x a&&B7x b
 |_=>true
theorem C6Q:∀ (s:SK),B7x s=true→∀ (y:N9 s) (b i:Nat) (cs:List TV),(fxW s b y)[i]? = some (some (.box cs))→∃ (T:Ty) (x:Den T) (o:Nat),cs=(rsC (b+o) T x).1∧o+(rsC (b+o) T x).2.length≤Y8 s∧∀ j k,(rsC (b+o) T x).2[j]? = some k→(slW s b y)[o+j]? = some k:=by
 intro s;induction s with
 |bv k T=>intro h;cases h
 |un|d|fn|ip|al|sum=>intro _ y b i cs h;simp[fxW] at h
 |o k T =>
  intro _ y b i cs h;simp only[fxW] at h;cases i with
  |zero=>simp at h
  |succ i=>simp at h
 |mo k T =>
  intro _ y b i cs h;simp only[fxW] at h;cases i with
  |zero=>simp at h
  |succ i=>simp at h
 |lg k T =>
  intro _ y b i cs h;simp only[fxW] at h;cases i with
  |zero=>simp at h
  |succ i=>simp at h
 |av k m1 K =>
  intro _ y b i cs h;simp only[fxW] at h;cases i with
  |zero=>simp at h
  |succ i=>simp at h
 |ow k T =>
  intro _ y b i cs h;simp only[fxW,H3] at h;have:∀ (T:Ty) (y:A3P T),∀ x∈A0h T y,A2a x=true:=by
   intro T;induction T with
   |i|bl|tx|sv|ar=>intro y x hx;cases hx
   |sl t _=>intro y x hx;simp only[A0h,C1] at hx;subst hx;rfl
   |st t ih=>exact fun y=>ih y
   |pr a c iha ihc =>
    intro y x hx;simp only[A0h] at hx;rcases C9.1 hx with h|h
    ·exact iha _ x h
    ·exact ihc _ x h
  cases h1:(A0h T y)[i]? with
  |none=>rw[h1] at h;cases h
  |some x =>
   rw[h1] at h;simp only[F8,C3] at h;have:=this T y x (I8 h1);rw[h] at this;cases this
 |bx k T =>
  intro hb y b i cs h;simp only[B7x,A6] at hb;simp only[fxW] at h;rcases D9 i T.nsl with q|q
  ·rw[B7 (by simpa using q),d7,E9 q] at h;cases h
  ·rw[B6 (by simpa using q),b9] at h;cases hi:i-T.nsl with
   |zero =>
    rw[hi] at h;simp only[E8,C3,TB.box.injEq] at h;exact⟨T,y,0,h.symm,by rw[z7];simp[Y8],fun j k e=>by rw[E1];exact e⟩
   |succ=>rw[hi] at h;simp at h
 |pr a c iha ihc =>
  intro hb y b i cs h;simp only[B7x,A6] at hb;simp only[fxW] at h;rcases D9 i (c9 a) with q|q
  ·rw[B7 (by rw[A0s];exact q)] at h;obtain⟨T,x,o,h1,h0,h2⟩:=iha hb.1 y.1 b i cs h;refine⟨T,x,o,h1,by simp only[Y8];omega,fun j k e => ?_⟩;have:=h2 j k e;simp only[slW];rw[B7 (B4.1 this).1];exact this
  ·rw[B6 (by rw[A0s];exact q),A0s] at h;obtain⟨T,x,o,h1,h0,h2⟩:=ihc hb.2 y.2 _ _ cs h;refine⟨T,x,Y8 a+o,by rw[← G4];exact h1,by rw[← G4];simp only[Y8];omega,fun j k e => ?_⟩;rw[← G4] at e;have:=h2 j k e;simp only[slW];rw[B6 (by rw[A0M];omega),A0M,show Y8 a+o+j-Y8 a=o+j from by omega];exact this
theorem C3h:∀ (s:SK),A5Q s=true→∀ (y:N9 s) (b i:Nat) (cs:List TV),(fxW s b y)[i]? = some (some (.box cs))→∃ (T:Ty) (x:Den T) (o:Nat),cs=(rsC (b+o) T x).1∧o+(rsC (b+o) T x).2.length≤Y8 s∧(∀ j k,(rsC (b+o) T x).2[j]? = some k→(slW s b y)[o+j]? = some k)∧T.nov=true:=by
 intro s;induction s with
 |bv k T=>intro h;cases h
 |un|d|fn|ip|al|sum=>intro _ y b i cs h;simp[fxW] at h
 |o k T =>
  intro _ y b i cs h;simp only[fxW] at h;cases i with
  |zero=>simp at h
  |succ i=>simp at h
 |mo k T =>
  intro _ y b i cs h;simp only[fxW] at h;cases i with
  |zero=>simp at h
  |succ i=>simp at h
 |lg k T =>
  intro _ y b i cs h;simp only[fxW] at h;cases i with
  |zero=>simp at h
  |succ i=>simp at h
 |av k m1 K =>
  intro _ y b i cs h;simp only[fxW] at h;cases i with
  |zero=>simp at h
  |succ i=>simp at h
 |ow k T =>
  intro _ y b i cs h;simp only[fxW,H3] at h;have:∀ (T:Ty) (y:A3P T),∀ x∈A0h T y,A2a x=true:=by
   intro T;induction T with
   |i|bl|tx|sv|ar=>intro y x hx;cases hx
   |sl t _=>intro y x hx;simp only[A0h,C1] at hx;subst hx;rfl
   |st t ih=>exact fun y=>ih y
   |pr a c iha ihc =>
    intro y x hx;simp only[A0h] at hx;rcases C9.1 hx with h|h
    ·exact iha _ x h
    ·exact ihc _ x h
  cases h1:(A0h T y)[i]? with
  |none=>rw[h1] at h;cases h
  |some x =>
   rw[h1] at h;simp only[F8,C3] at h;have:=this T y x (I8 h1);rw[h] at this;cases this
 |bx k T =>
  intro hb y b i cs h;simp only[fxW] at h;rcases D9 i T.nsl with q|q
  ·rw[B7 (by simpa using q),d7,E9 q] at h;cases h
  ·rw[B6 (by simpa using q),b9] at h;cases hi:i-T.nsl with
   |zero =>
    rw[hi] at h;simp only[E8,C3,TB.box.injEq] at h;exact⟨T,y,0,h.symm,by rw[z7];simp[Y8],fun j k e=>(by rw[E1];exact e),hb⟩
   |succ=>rw[hi] at h;simp at h
 |pr a c iha ihc =>
  intro hb y b i cs h;simp only[A5Q,A6] at hb;simp only[fxW] at h;rcases D9 i (c9 a) with q|q
  ·rw[B7 (by rw[A0s];exact q)] at h;obtain⟨T,x,o,h1,h0,h2,h9⟩:=iha hb.1 y.1 b i cs h;refine⟨T,x,o,h1,by simp only[Y8];omega,fun j k e => ?_,h9⟩;have:=h2 j k e;simp only[slW];rw[B7 (B4.1 this).1];exact this
  ·rw[B6 (by rw[A0s];exact q),A0s] at h;obtain⟨T,x,o,h1,h0,h2,h9⟩:=ihc hb.2 y.2 _ _ cs h;refine⟨T,x,Y8 a+o,by rw[← G4];exact h1,by rw[← G4];simp only[Y8];omega,fun j k e => ?_,h9⟩;rw[← G4] at e;have:=h2 j k e;simp only[slW]
   rw[B6 (by rw[A0M];omega),A0M,show Y8 a+o+j-Y8 a=o+j from by omega];exact this
theorem C3I:∀ (s:SK) (y:N9 s) (b i:Nat) (cs:List TV),(fxW s b y)[i]? = some (some (.box cs))→A6c (.box cs)=true∨∃ (T:Ty) (x:Den T) (o:Nat),cs=(rsC (b+o) T x).1∧o+(rsC (b+o) T x).2.length≤Y8 s∧∀ j k,(rsC (b+o) T x).2[j]? = some k→(slW s b y)[o+j]? = some k:=by
 intro s;induction s with
 |bv k T =>
  intro y b i cs h;simp only[fxW] at h;cases i with
  |zero =>
   simp only[E8,C3,TB.box.injEq] at h;subst h;exact .inl (B69 T y)
  |succ i=>simp at h
 |pr a c iha ihc =>
  intro y b i cs h;simp only[fxW] at h;rcases D9 i (c9 a) with q|q
  ·rw[B7 (by rw[A0s];exact q)] at h;rcases iha y.1 b i cs h with h|⟨T,x,o,h1,h0,h2⟩
   ·exact .inl h
   refine .inr ⟨T,x,o,h1,by simp only[Y8];omega,fun j k e => ?_⟩;have:=h2 j k e;simp only[slW];rw[B7 (B4.1 this).1];exact this
  ·rw[B6 (by rw[A0s];exact q),A0s] at h;rcases ihc y.2 _ _ cs h with h|⟨T,x,o,h1,h0,h2⟩
   ·exact .inl h
   refine .inr ⟨T,x,Y8 a+o,by rw[← G4];exact h1,by rw[← G4];simp only[Y8];omega,fun j k e => ?_⟩;rw[← G4] at e;have:=h2 j k e;simp only[slW];rw[B6 (by rw[A0M];omega),A0M,show Y8 a+o+j-Y8 a=o+j from by omega];exact this
 |_=>intro y b i cs h;exact .inr (C6Q _ rfl y b i cs h)
theorem C5L{n:Nat}{t t':TS}:∀ (s:SK) (x:D3 s) (y:N9 s) (base bs:Nat),S6 n t t' s=some x→A8Q s x y=true →
  (fxW s bs y).length=(I6 n t s).length∧∀ i:Nat,i<(I6 n t s).length→(fxW s bs y)[i]? = some none ∨
   (∃ (A B:Ty) (X:List (Den A)) (Y:List (Den B)),(ust base s x).2[i]? = some (.arr A true X)∧(fxW s bs y)[i]? = some (some (.arr B true Y))∧A.sz=B.sz∧Y.length=X.length ∧
    ∀ j,(I6 n t s)[i]? = some (some j)→∃ (o:Bool) (Z:List (Den A)),t.hp[j]? = some (some (.arr A o Z))∧Z.length=X.length) ∨
   ∃ (cs cs0 cs1:List TV) (j:Nat),(ust base s x).2[i]? = some (.box cs0)∧(fxW s bs y)[i]? = some (some (.box cs1))∧(I6 n t s)[i]? = some (some j)∧t.hp[j]? = some (some (.box cs)):=by
 intro s;induction s with
 |un|d|fn|ip|al=>intro x y base bs _ _;exact⟨rfl,fun i hi=>by simp[I6] at hi⟩
 |sum a b=>intro x y base bs h;cases h
 |bx k T =>
  intro x y base bs hc _;simp only[S6] at hc;split at hc
  ·rename_i j row off e;cases hb:(Nat.beq row 0&&Nat.beq off 0) with
   |false=>rw[hb] at hc;cases hc
   |true =>
    rw[hb,A4] at hc;split at hc
    ·rename_i cs e2;split at hc
     ·rename_i z l hz;cases hc;obtain⟨c1,_,k1⟩:=j8 t.hp T cs _ l [] hz;have hl:=(k1 base).len.1;rw[z7] at hl;have e4:I6 n t (.bx k T)=l++[some j]:=by simp only[I6,e,e2,hz]
      rw[e4];refine⟨by simp[fxW,hl],fun i hi => ?_⟩;simp only[A5,J5] at hi;rcases D9 i T.nsl with q|q
      ·refine .inl ?_;simp only[fxW];rw[B7 (by simpa using q),d7,E9 q]
      ·have:i=T.nsl:=by omega
       subst this;refine .inr (.inr ⟨cs,(rsC base T x).1,(rsC bs T y).1,j,?_,?_,?_,e2⟩)
       ·simp only[ust];rw[B6 (by rw[z7];omega),z7,R7];rfl
       ·simp only[fxW];rw[B6 (by simp),b9,R7];rfl
       ·rw[B6 (by omega),hl,R7];rfl
     ·cases hc
    ·cases hc
  ·cases hc
 |bv k T =>
  intro x y base bs hc _;simp only[S6] at hc;split at hc
  ·rename_i j row off e;cases hb:(Nat.beq row 0&&Nat.beq off 0) with
   |false=>rw[hb] at hc;cases hc
   |true =>
    rw[hb,A4] at hc;split at hc
    ·rename_i cs e2;have e4:I6 n t (.bv k T)=[some j]:=by simp only[I6,e]
     rw[e4];refine⟨rfl,fun i hi => ?_⟩;simp only[J5] at hi;have:i=0:=by omega
     subst this;exact .inr (.inr ⟨cs,W8 T x,W8 T y,j,rfl,rfl,rfl,e2⟩)
    ·cases hc
  ·cases hc
 |o k T =>
  intro x y base bs hc hl;have hl':x.length=y.length:=by simpa[A8Q] using hl
  have h1:(I6 n t (.o k T)).length=1:=by simp only[I6];split<;>rfl
  refine⟨by rw[h1];rfl,fun i hi => ?_⟩;rw[h1] at hi;have:i=0:=by omega
  subst this;refine .inr (.inl ⟨T,T,x,y,rfl,rfl,rfl,hl'.symm,fun j hj => ?_⟩);simp only[S6] at hc;split at hc
  ·rename_i j' e;simp only[I6,e,E8,C3] at hj;subst hj;split at hc
   ·rename_i A o L e2;cases ho:(o||A.flat) with
    |false=>rw[ho] at hc;cases hc
    |true =>
     rw[ho,A4] at hc;obtain⟨e3,hz⟩:=N5 hc;cases e3;cases hz;exact⟨o,_,e2,rfl⟩
   ·cases hc
  ·rename_i e;simp only[I6,e,E8,C3] at hj;cases hj
  ·cases hc
 |mo k T =>
  intro x y base bs hc hl;have h1:(I6 n t (.mo k T)).length=1:=by simp only[I6];split<;>rfl
  refine⟨by rw[h1];rfl,fun i hi => ?_⟩;rw[h1] at hi;have:i=0:=by omega
  subst this;exact .inl rfl
 |lg k T =>
  intro x y base bs hc hl;have h1:(I6 n t (.lg k T)).length=1:=by simp only[I6];split<;>rfl
  refine⟨by rw[h1];rfl,fun i hi => ?_⟩;rw[h1] at hi;have:i=0:=by omega
  subst this;exact .inl rfl
 |av k m1 K =>
  intro x y base bs hc _;simp only[S6] at hc;split at hc
  ·rename_i j row off e;have e4:I6 n t (.av k m1 K)=[some j]:=by simp only[I6,e]
   rw[e4];refine⟨rfl,fun i hi => ?_⟩;simp only[J5] at hi;have:i=0:=by omega
   subst this;exact .inl rfl
  ·cases hc
 |ow k T =>
  intro x y base bs hc hl;simp only[S6] at hc;split at hc
  ·rename_i cs e;split at hc
   ·rename_i z l hz;cases hc;obtain⟨c1,_,k1⟩:=j8 t.hp T cs _ l [] hz;have hSR:=k1 base;have e4:I6 n t (.ow k T)=l:=by simp only[I6,e,hz]
    rw[e4];have hl':A80 T x y=true:=hl;refine⟨by simp only[fxW,C7];rw[A3b,← hSR.len.1,z7],fun i hi => ?_⟩;obtain⟨A,X,h1,h2⟩:=hSR.at_ i hi;obtain⟨Y,h3,h4⟩:=C67 T x y base hl' i A X h1;exact .inr (.inl ⟨A,A,X,Y,h1,by simp only[fxW,H3,h3,F8],rfl,h4,h2⟩)
   ·cases hc
  ·cases hc
 |pr a b iha ihb =>
  intro x y base bs hc hl;simp only[A8Q,A6] at hl;simp only[S6] at hc;split at hc
  ·rename_i x1 x2 h1 h2;cases hc;obtain⟨p1,p2⟩:=iha x1 y.1 base bs h1 hl.1;have hlen:=A8U a x1 base t' h1;obtain⟨q1,q2⟩:=ihb x2 y.2 (base+(ust base a x1).2.length) (bs+Y8 a) h2 hl.2;refine⟨by simp only[fxW,I6,A5,p1,q1],fun i hi => ?_⟩;simp only[I6,A5] at hi;simp only[ust,fxW,I6];rcases D9 i (I6 n t a).length with h|h
   ·rw[B7 (by omega),B7 (by omega),B7 h];exact p2 i h
   ·rw[B6 (by omega),B6 (by omega),B6 h,hlen,p1];rw[hlen] at q2;exact q2 (i-(I6 n t a).length) (by omega)
  ·cases hc
end Go.Proofs.YtkmhopbmpeiofaaGreat.Nx
