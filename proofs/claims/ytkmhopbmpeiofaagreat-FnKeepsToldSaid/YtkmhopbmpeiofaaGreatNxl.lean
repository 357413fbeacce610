/- More effects of the evaluator, and its views: sound, with no condition beyond those each lemma names. -/
import Derived.Test.YtkmhopbmpeiofaaGreatNxk
set_option linter.unusedVariables false
set_option linter.unusedSimpArgs false
namespace Go.Proofs.YtkmhopbmpeiofaaGreat.Nx
open Go Go.RowKit
theorem C56{hp:THP}{x:TV}(h:x.c1 hp=true):(av hp x).cell1=true:=by
 cases x with
 |v T x=>cases T<;>first|rfl|cases h
 |c v=>cases v<;>first|rfl|cases h
 |nil=>rfl
 |own j =>
  simp only[TV.c1,f8] at h;split at h
  ·rename_i e;simp only[av,e];rfl
  ·cases h
 |sub j o l =>
  simp only[TV.c1,f8] at h;split at h
  ·rename_i e;simp only[av,e];rfl
  ·cases h
 |ipv=>rfl
 |ipt=>rfl
 |_=>cases h
theorem C1R(hp:THP):∀ (T:Ty) (cs:List TV) (y:Den T) (l:List Nat) (r:List TV),k7 hp T cs=some (y,l,r)→∃ c1,cs=c1++r∧(∀ c∈c1,c.c1 hp=true)∧c1.length=T.sz:=by
 intro T;induction T with
 |ar n k =>
  intro cs y l r h;cases cs with
  |nil=>cases h
  |cons c cs=>cases h
 |i k =>
  intro cs y l r h;cases cs with
  |nil=>cases h
  |cons c cs =>
   simp only[k7] at h;split at h
   ·split at h
    ·rename_i hz;cases h;obtain⟨rfl,_⟩:=N5 hz;exact⟨[_],rfl,by simp[TV.c1],rfl⟩
    ·cases h
   ·cases h
 |bl =>
  intro cs y l r h;cases cs with
  |nil=>cases h
  |cons c cs =>
   simp only[k7] at h;split at h
   ·split at h
    ·rename_i hz;cases h;obtain⟨rfl,_⟩:=N5 hz;exact⟨[_],rfl,by simp[TV.c1],rfl⟩
    ·cases h
   ·cases h
 |tx =>
  intro cs y l r h;cases cs with
  |nil=>cases h
  |cons c cs =>
   simp only[k7] at h;split at h
   ·split at h
    ·rename_i hz;cases h;obtain⟨rfl,_⟩:=N5 hz;exact⟨[_],rfl,by simp[TV.c1],rfl⟩
    ·cases h
   ·cases h
 |sv t _ =>
  intro cs y l r h;cases cs with
  |nil=>cases h
  |cons c cs =>
   simp only[k7] at h;split at h
   ·split at h
    ·rename_i hz;cases h;obtain⟨rfl,_⟩:=N5 hz;exact⟨[_],rfl,by simp[TV.c1],rfl⟩
    ·cases h
   ·cases h;exact⟨[_],rfl,by simp[TV.c1],rfl⟩
   ·cases h
 |sl t _ =>
  intro cs y l r h;cases cs with
  |nil=>cases h
  |cons c cs =>
   simp only[k7] at h;split at h
   ·rename_i j;split at h
    ·rename_i A o Lx e;cases ho:(o||A.flat) with
     |false=>rw[ho] at h;cases h
     |true =>
      rw[ho,A4] at h;split at h
      ·cases h;exact⟨[_],rfl,by simp[TV.c1,f8,T8 e],rfl⟩
      ·cases h
    ·cases h
   ·cases h;exact⟨[_],rfl,by simp[TV.c1],rfl⟩
   ·cases h
 |pr a b iha ihb =>
  intro cs y l r h;simp only[k7] at h;split at h
  ·rename_i h1;split at h
   ·rename_i h2;cases h;obtain⟨c1,rfl,k1,k2⟩:=iha _ _ _ _ h1;obtain⟨c2,rfl,k3,k4⟩:=ihb _ _ _ _ h2;refine⟨c1++c2,by simp,fun c hc => ?_,by simp[k2,k4,Ty.sz]⟩;rcases C9.1 hc with h|h
    ·exact k1 c h
    ·exact k3 c h
   ·cases h
  ·cases h
 |st t ih =>
  intro cs y l r h;exact ih cs y l r h
theorem A3S(hp:THP)(T:Ty):∀ {R:List (List TV)} {L:List (Den T)} {l:List Nat},A5n hp T R=some (L,l) →
  bareRows (R.map fun cs=>mkr T.ag (cs.map (cav hp)))∧Ab (F1 hp) ((R.map fun cs=>mkr T.ag (cs.map (cav hp))).flatMap AV.cells) ((L.map (enc true T)).flatMap AV.cells) l∧L.length=R.length
 |[],L,l,h=>by cases h;exact⟨fun _ hr=>(by cases hr),.nil,rfl⟩
 |cs :: R,L,l,h=>by
  simp only[A5n] at h;split at h
  ·rename_i x l1 h1;split at h
   ·rename_i xs m h2;cases h;obtain⟨k1,k2,k3⟩:=A3S hp T h2;obtain⟨c1,e,q1,q2⟩:=C1R hp T _ _ _ _ h1;rw[D5] at e;subst e;obtain⟨c1',e',q3⟩:=A6T hp T _ _ _ _ h1 q1;rw[D5] at e';subst e';have hcv:cs.map (cav hp)=cs.map (av hp):=E4 fun c hc=>by
     unfold cav;rw[q1 c hc];rfl
    have hcells:(mkr T.ag (cs.map (cav hp))).cells=cs.map (av hp):=by
     rw[A0b,hcv];split
     ·rfl
     ·rename_i hag;have h1:cs.length=1:=by rw[q2];exact A5Z (by simpa using hag)
      match cs,h1 with
      |[c],_=>rfl
    refine⟨?_,?_,by simp[k3]⟩
    ·intro r hr;simp only[F6,D8] at hr;rcases hr with rfl|hr
     ·rw[hcells,D6];intro c hc;obtain⟨y,hy,rfl⟩:=C5.1 hc;rw[A1I (q1 y hy),C56 (q1 y hy)];rfl
     ·exact k1 r hr
    ·simp only[F6,F0,N6,hcells];exact q3.append k2
   ·cases h
  ·cases h
theorem B72(hp:HP)(l:List Nat)(j:Nat)(h:j<hp.length):K8 (K8 hp l) [j]=K8 hp (j :: l):=by
 apply A1a;intro i;simp only[A0o,S9,D8,C1,A6a,or_false];by_cases h1:i=j
 ·subst h1;simp[h]
 ·by_cases h2:i∈l<;>simp[h1,h2]
theorem L7.setAll{s s':AS}(h:L7 s s')(l:List Nat):L7 { s with hp:=K8 s.hp l } { s' with hp:=K8 s'.hp l }:=by
 refine⟨h.len,h.sl,by simp only[S9];exact h.hl,fun i x hx => ?_⟩;replace hx:(K8 s.hp l)[i]? = some x:=hx;show ∃ y,(K8 s'.hp l)[i]? = some y∧_;rw[A0o] at hx ⊢;by_cases hi:i∈l
 ·rw[E9 hi] at hx ⊢;split at hx
  ·rename_i hl;rw[E9 (by rw[h.hl];exact hl)];cases hx;exact⟨_,rfl,trivial⟩
  ·cases hx
 ·rw[G6 hi] at hx ⊢;exact h.hp i x hx
theorem Get.kill{s:AS}{l:List Nat}(hl:∀ m∈l,m<s.hp.length):Get s { s with hp:=K8 s.hp l }:=fun _ _ _ hc=>by
 obtain⟨N,M,ℓ,hc⟩:=hc.fn;exact hc.kill hl
theorem C2f(s:AS)(d:Option Nat)(x:AV)(hp:HP):({ AS.put s d x with hp:=hp }:AS)=AS.put { s with hp:=hp } d x:=by cases d<;>rfl
theorem A3u(s:AS)(d:Option Nat)(x:AV):(AS.put s d x).hp=s.hp:=by cases d<;>rfl
theorem Get.take{s:AS}{j:Nat}{b:Blk}(hj:s.hp[j]? = some (some b)){rows':List AV}{l:List Nat}{i:Nat}(hi:i<s.hp.length)(hn:(j :: l).Nodup)(hlen:rows'.length=b.rows.length)
  (hcl:(∀ y∈b.rows,y.cells.length=b.sz)→∀ y∈rows',y.cells.length=b.sz) (hab:Ab s.hp (b.rows.flatMap AV.cells) (rows'.flatMap AV.cells) l) :
  Get s { s with hp:=K8 (s.hp.set j (some { b with rows:=rows' })) (i :: l) }:=by
 refine Get.trans (Get.absorb hj hn hlen hcl hab) ?_;have:=Get.kill (s:={ s with hp:=K8 (s.hp.set j (some { b with rows:=rows' })) l }) (l:=[i]) (fun m hm=>by
  simp only[C1] at hm;subst hm;show m<(K8 _ l).length;rw[S9];simpa using hi)
 rw[show({ s with hp:=K8 (s.hp.set j (some { b with rows:=rows' })) l }:AS).hp=K8 (s.hp.set j (some { b with rows:=rows' })) l from rfl,B72 _ _ _ (by simpa using hi)] at this;exact this
section
variable {Ω:Type} {r:Ω} {n:Nat} {Θ:TyO} {t:TS} {d:Option Nat} {k:TS→Option Ω}
def C8o(str:Bool):AV→Prop
 |.val (.string _)=>str=true
 |_=>str=false
theorem B7c{T:Ty}{y:TV}{L2:List (Den T)}{str:Bool}(h:B1N t.hp T y=some L2)(hs:B1G str y=true):C8o str (av t.hp y):=by
 have e0:(∀ x,y ≠ .v .tx x)→str=false:=fun hn=>by
  unfold B1G at hs;split at hs
  ·exact absurd rfl (hn _)
  ·simpa using hs
 cases y with
 |v A x=>cases A<;>first|exact hs|exact e0 fun x e=>by cases e
 |own j =>
  have:=e0 fun x e=>by cases e
  simp only[av];generalize hpk t.hp j=q;cases q with
  |none=>exact this
  |some q=>cases q<;>exact this
 |sub j o l =>
  have:=e0 fun x e=>by cases e
  simp only[av];generalize hpk t.hp j=q;cases q with
  |none=>exact this
  |some q=>cases q<;>exact this
 |nil=>exact e0 fun x e=>by cases e
 |emp=>exact e0 fun x e=>by cases e
 |_=>unfold B1N at h;cases T<;>simp[A9t] at h
theorem B55{str:Bool}{j v o l:Nat}(h:B1G str (.own j)=true):C8o str (.ref j v o l):=by
 show str=false;simpa[B1G] using h
theorem A9z{T:Ty}{y:TV}{L2:List (Den T)}{l:List Nat}(h:B0r t.hp T y=some (L2,l)) :
  ∃ j' l' R,y=.own j'∧l=j' :: l'∧t.hp[j']? = some (some (.rws T R))∧A5n t.hp T R=some (L2,l'):=by
 unfold B0r at h;split at h
 ·rename_i j';split at h
  ·rename_i A R e;by_cases hA:A=T
   ·subst hA;simp only[Z6,A4] at h;split at h
    ·rename_i L l' h1;cases h;exact⟨j',l',R,rfl,rfl,e,h1⟩
    ·cases h
   ·have:decide (A=T)=false:=by simpa using hA
    rw[this] at h;cases h
  ·cases h
 ·cases h
theorem B5V{j:Nat}{b:TB}(hj:j<t.hp.length):hpk (t.grow j b).hp j=some b.rlen:=by
 unfold hpk TS.grow;show(match ((Z8 _ t.hp).set j (some b))[j]? with|some (some b)=>some b.rlen|_=>none)=_
 rw[G5,E9 rfl,E9 (by rw[P8];exact hj)]
theorem B5X{l:List Nat}{j:Nat}(hj:j ∉ l):hpk (t.kill l).hp j=hpk t.hp j:=by
 rw[← A4h (fun i => !A0J l i) t.hp j];unfold hpk TS.kill;show(match (setAll (Z8 _ t.hp) l)[j]? with|some (some b)=>some b.rlen|_=>none)=_
 rw[A0Q,G6 hj];rfl
theorem B3e{str:Bool}{sz by_:Nat}{x y:Operand}(hx:B9j (av t.hp (t.ev n x))=true)(hx2:∀ j v o l,av t.hp (t.ev n x) ≠ .ref j v o l)(hs:B1G str (t.ev n y)=true)
  (h:B2g Θ t d k sz by_ (t.ev n y)=some r):ae (D2 n t) d (Kt k r n) (.app str sz by_ x y):=by
 unfold B2g at h;split at h
 ·rename_i T hT;cases hz:Nat.beq T.sz sz with
  |false=>rw[hz] at h;cases h
  |true =>
   rw[hz,A4] at h;simp only[F4] at hz;subst hz;split at h
   ·rename_i L2 hL;obtain⟨h1,h2⟩:=m7 h;have h1:=h1.sm;simp only[D7] at h1;simp only[ae,J0];refine⟨B7c hL hs,?_⟩;rw[A8P hL];refine⟨A3W L2,hx,by rw[C7];exact h1,?_⟩;rw[C7,E6,F3];refine A2v (b:=.arr T T.flat L2) ?_ (A9Y (by simp[TB.rlen])) h2;exact A9e (B7w rfl (by cases T.flat<;>rfl) L2)
   ·split at h
    ·rename_i L2 l hL;cases hn:(d5 l&&l.all fun i=>Nat.blt i t.hp.length) with
     |false=>rw[hn] at h;cases h
     |true =>
      rw[hn,A4] at h;simp only[A6,D6,Q5] at hn;obtain⟨h1,h2⟩:=m7 h;have h1:=h1.sm;simp only[D7] at h1;obtain⟨j',l',R,e1,rfl,e3,e4⟩:=A9z hL;obtain⟨k1,k2,k3⟩:=A3S t.hp T e4;have hnd:=j5 hn.1;simp only[ae,J0,e1];rw[e1] at hs;rw[t9 (B8o e3)];refine⟨B55 (v:=R.length) (o:=0) (l:=R.length) hs,?_⟩
      simp only[v9,E6];rw[B6C e3];simp only[H1];rw[B0n _ _ (by simp)];refine⟨k1,hx,by rw[C7,← k3];exact h1,?_⟩;rw[C7,F3];refine⟨_,h2,?_⟩;rw[T9];generalize hrows:(R.map fun cs=>mkr T.ag (cs.map (cav t.hp)))=rows at *
      have hl0:t.hp.length ∉ j' :: l':=fun hm=>by have:=hn.2 _ hm;omega
      have hnew:((F1 t.hp++[some (⟨T.sz,0,rows,0⟩:Blk)]))[t.hp.length]? = some (some ⟨T.sz,0,rows,0⟩):=by
       rw[B6 (by rw[F3];exact B9 _),F3,R7];rfl
      have hset:((F1 t.hp++[some (⟨T.sz,0,rows,0⟩:Blk)]).set t.hp.length (some ⟨T.sz,0,L2.map (enc true T),0⟩))=F1 t.hp++[some ⟨T.sz,0,L2.map (enc true T),0⟩]:=by
       rw[A1n _ _ (by rw[F3];exact B9 _),F3,R7];rfl
      have g0:=Get.take (s:=(D2 n t).new d ⟨T.sz,0,rows,0⟩ (.ref t.hp.length R.length 0 R.length)) (j:=t.hp.length) (b:=⟨T.sz,0,rows,0⟩) (rows':=L2.map (enc true T)) (l:=l') (i:=j')
       (by unfold AS.new;rw[A3u];exact hnew) (by unfold AS.new;rw[A3u];simp[E6,F3];have:=hn.2 j' (by simp);omega)
       (H9.2 ⟨fun hm=>hl0 (by simp[hm]),(H9.1 hnd).2⟩) (by rw[C7,k3,← hrows];simp)
       (fun _ y hy=>by
        obtain⟨q,_,rfl⟩:=C5.1 hy;rw[N6,O0])
       (by
        unfold AS.new;rw[A3u];refine k2.mono fun i hi => ?_;show(F1 t.hp++[_])[i]? = _;rw[B7 (by rw[F3];exact hn.2 i (by simp[hi]))])
      refine Get.trans g0 (L7.get ?_);unfold AS.new;rw[A3u,C2f];refine L7.put ?_ d ?_
      ·show L7 { D2 n t with hp:=K8 ((F1 t.hp++[some (⟨T.sz,0,rows,0⟩:Blk)]).set t.hp.length (some ⟨T.sz,0,L2.map (enc true T),0⟩)) (j' :: l') } _;rw[hset];have s1:=L7.new (n:=n) (t:=t) (.arr T true L2) (k:=⟨T.sz,0,L2.map (enc true T),0⟩) (R0.refl _);exact(s1.setAll (j' :: l')).trans (L7.kill (j' :: l'))
      ·have e5:hpk ((t.new [.arr T true L2]).kill (j' :: l')).hp t.hp.length=some (some R.length):=by
        rw[B5X hl0];unfold hpk;rw[A2C];simp[TB.rlen,k3]
       rw[t9 e5];exact Im.refl _
    ·cases h
 ·cases h
theorem C65{str:Bool}{sz by_:Nat}{x y:Operand}(h:A01 n Θ t d k (.app str sz by_ x y)=some r):ae (D2 n t) d (Kt k r n) (.app str sz by_ x y):=by
 simp only[A01] at h;cases hs:B1G str (t.ev n y) with
 |false=>rw[hs] at h;cases h
 |true =>
  rw[hs,A4] at h;split at h
  ·rename_i j hx;split at h
   ·rename_i T o L e;have hj:j<t.hp.length:=(B4.1 e).1;cases hz:Nat.beq T.sz sz with
    |false=>rw[hz] at h;cases h
    |true =>
     rw[hz,A4] at h;simp only[F4] at hz;subst hz;cases ho:(!o||T.flat) with
     |true =>
      rw[ho,A4] at h;split at h
      ·rename_i L2 hL;obtain⟨h1,h2⟩:=m7 h;have h1:=h1.sm;simp only[D7] at h1;simp only[ae,J0];refine⟨B7c hL hs,?_⟩;rw[A8P hL,hx,t9 (T8 e)];simp only[E6];rw[w9 e];refine⟨A3W L2,by trivial,by trivial,by trivial,by rw[C7];exact h1,?_⟩;rw[C7];refine Kt.of h2 ?_;rw[T9];refine L7.put (L7.grow hj ?_) d ?_
       ·show R0 ⟨T.sz,0,L.map (enc o T)++L2.map (enc false T),0⟩ ⟨T.sz,0,(L++L2).map (enc o T),0⟩;exact A9e (O6.append (B30 ho L) (B7w rfl ho L2))
       ·rw[t9 (l:=L.length+L2.length) (by rw[B5V hj];simp[TB.rlen])];exact Im.refl _
      ·cases h
     |false =>
      rw[ho,A9] at h;simp only[A0k,Bool.not_eq_false'] at ho;obtain⟨rfl,_⟩:=ho;split at h
      ·rename_i L2 l hL;cases hn:d5 (j :: l) with
       |false=>rw[hn] at h;cases h
       |true =>
        rw[hn,A4] at h;obtain⟨h1,h2⟩:=m7 h;have h1:=h1.sm;simp only[D7] at h1;obtain⟨j',l',R,e1,rfl,e3,e4⟩:=A9z hL;obtain⟨k1,k2,k3⟩:=A3S t.hp T e4;have hnd:=j5 hn;have hj':j'<t.hp.length:=(B4.1 e3).1;have hjl:j ∉ j' :: l':=(H9.1 hnd).1;simp only[ae,J0,e1];rw[e1] at hs
        rw[t9 (B8o e3),hx,t9 (T8 e)];refine⟨B55 (v:=R.length) (o:=0) (l:=R.length) hs,?_⟩;simp only[v9,E6];rw[B6C e3];simp only[H1];rw[B0n _ _ (by simp),w9 e];refine⟨k1,by trivial,by trivial,by trivial,by rw[C7,← k3];exact h1,?_⟩;rw[C7];refine⟨_,h2,?_⟩;rw[T9]
        generalize hrows:(R.map fun cs=>mkr T.ag (cs.map (cav t.hp)))=rows at *
        show Get (AS.put { D2 n t with hp:=(F1 t.hp).set j (some ⟨T.sz,0,L.map (enc true T)++rows,0⟩) } d (.ref j (L.length+R.length) 0 (L.length+R.length))) _;have hset:((F1 t.hp).set j (some (⟨T.sz,0,L.map (enc true T)++rows,0⟩:Blk))).set j (some ⟨T.sz,0,(L++L2).map (enc true T),0⟩)=(F1 t.hp).set j (some ⟨T.sz,0,(L++L2).map (enc true T),0⟩):=Z0 ..
        have g0:=Get.take (s:=AS.put { D2 n t with hp:=(F1 t.hp).set j (some ⟨T.sz,0,L.map (enc true T)++rows,0⟩) } d (.ref j (L.length+R.length) 0 (L.length+R.length))) (j:=j) (b:=⟨T.sz,0,L.map (enc true T)++rows,0⟩) (rows':=(L++L2).map (enc true T)) (l:=l') (i:=j')
         (by
          rw[A3u];show((F1 t.hp).set j _)[j]? = _;rw[G5,E9 rfl,E9 (by rw[F3];exact hj)])
         (by rw[A3u];simp[F3];exact hj')
         (H9.2 ⟨fun hm=>hjl (by simp[hm]),(H9.1 (H9.1 hnd).2).2⟩) (by simp[k3,← hrows])
         (fun _ y hy=>by
          obtain⟨q,_,rfl⟩:=C5.1 hy;rw[N6,O0])
         (by
          rw[A3u];simp only[O1,G0];refine Ab.append (l:=[]) (Ab.refl _ _) (k2.mono fun i hi => ?_);show((F1 t.hp).set j _)[i]? = _;rw[G5,G6 (fun e=>hjl (by rw[e];simp[hi]))])
        refine Get.trans g0 (L7.get ?_);rw[A3u,C2f];refine L7.put ?_ d ?_
        ·show L7 { D2 n t with hp:=K8 (((F1 t.hp).set j (some (⟨T.sz,0,L.map (enc true T)++rows,0⟩:Blk))).set j (some ⟨T.sz,0,(L++L2).map (enc true T),0⟩)) (j' :: l') } _;rw[hset];have s1:=L7.grow (n:=n) (t:=t) (j:=j) (b:=.arr T true (L++L2)) hj (k:=⟨T.sz,0,(L++L2).map (enc true T),0⟩) (R0.refl _);exact(s1.setAll (j' :: l')).trans (L7.kill (j' :: l'))
        ·rw[t9 (l:=L.length+R.length) (by rw[B5X hjl,B5V hj];simp[TB.rlen,k3])];exact Im.refl _
      ·cases h
   ·rename_i T L e;have hj:j<t.hp.length:=(B4.1 e).1;cases hz:(Nat.beq T.sz sz&&dIn d n) with
    |false=>rw[hz] at h;cases h
    |true =>
     rw[hz,A4] at h;simp only[A6,F4] at hz;obtain⟨hz,hd⟩:=hz;subst hz;obtain⟨d',rfl,hdn⟩:∃ d',d=some d'∧d'<n:=by
      cases d with
      |none=>cases hd
      |some d' =>
       simp only[dIn,Q5] at hd;exact⟨d',rfl,hd⟩
     split at h
     ·rename_i L2 hL;obtain⟨h1,h2⟩:=m7 h;have h1:=h1.sm;simp only[D7] at h1;simp only[ae,J0];refine⟨B7c hL hs,?_⟩;rw[A8P hL,hx,t9 (A5s e)];simp only[E6];rw[C1T e];refine⟨A3W L2,by trivial,by trivial,by trivial,by rw[C7];exact h1,?_⟩;rw[C7];refine⟨_,h2,?_⟩;rw[T9]
      let rows:=L.map (enc false T)++L2.map (enc false T)
      have hrl:rows.length=L.length+L2.length:=by simp[rows]
      have hre:rows=(L++L2).map (enc false T):=by simp[rows]
      show Get (AS.put { D2 n t with hp:=(F1 t.hp).set j (some ⟨T.sz,L.length,rows,0⟩) } (some d') (.ref j (L.length+L2.length) 0 (L.length+L2.length))) _;rw[← hrl];have g0:=Get.frz (s:=AS.put { D2 n t with hp:=(F1 t.hp).set j (some ⟨T.sz,L.length,rows,0⟩) } (some d') (.ref j rows.length 0 rows.length)) (j:=j) (k:=d') (b:=⟨T.sz,L.length,rows,0⟩)
       (by
        show((F1 t.hp).set j _)[j]? = _;rw[G5,E9 rfl,E9 (by rw[F3];exact hj)])
       (by rw[hre];exact A9h T _)
       (by
        show((D2 n t).sl.set d' _).getD d' .any=_;rw[B3,G5,E9 rfl,E9 (by rw[T5];exact hdn)];rfl)
      refine Get.trans g0 (L7.get ?_)
      have e1:(AS.put { (AS.put { D2 n t with hp:=(F1 t.hp).set j (some ⟨T.sz,L.length,rows,0⟩) } (some d') (.ref j rows.length 0 rows.length)) with hp:=K8 ((F1 t.hp).set j (some ⟨T.sz,L.length,rows,0⟩)) [j]++[some ⟨T.sz,rows.length,rows,rows.length⟩] } (some d') (.ref ((F1 t.hp).set j (some (⟨T.sz,L.length,rows,0⟩:Blk))).length rows.length 0 rows.length):AS)
        = AS.put { D2 n t with hp:=K8 (F1 t.hp) [j]++[some ⟨T.sz,rows.length,rows,rows.length⟩] } (some d') (.ref t.hp.length rows.length 0 rows.length):=by
       simp only[AS.put,K8,Z0,G1,F3]
      refine Eq.subst (motive:=fun s=>L7 s _) e1.symm ?_;refine L7.put ?_ (some d') ?_
      ·refine((L7.kill (n:=n) (t:=t) [j]).app [some ⟨T.sz,rows.length,rows,rows.length⟩]).trans ?_;rw[E6];refine L7.new (n:=n) (t:=t.kill [j]) (.log T (L++L2)) ?_;have:(⟨T.sz,rows.length,rows,rows.length⟩:Blk)=tb ((t.kill [j]).new [.log T (L++L2)]).hp (.log T (L++L2)):=by
        simp only[tb,hre,C7]
       rw[this];exact R0.refl _
      ·have hkl:(t.kill [j]).hp.length=t.hp.length:=by show(setAll (Z8 _ t.hp) [j]).length=_;simp[setAll,P8]
       have hun:hpk ((t.kill [j]).new [.log T (L++L2)]).hp t.hp.length=some (some rows.length):=by
        have:((t.kill [j]).new [.log T (L++L2)]).hp[t.hp.length]? = some (some (.log T (L++L2))):=by rw[← hkl];exact A2C (t:=t.kill [j]) _
        rw[A5s this,hrl,A5]
       rw[t9 hun];exact Im.refl _
     ·cases h
   ·cases h
  ·rename_i hx;exact B3e (by rw[hx];rfl) (fun j v o l e=>by rw[hx] at e;cases e) hs h
  ·rename_i hx;exact B3e (by rw[hx];rfl) (fun j v o l e=>by rw[hx] at e;cases e) hs h
  ·cases h
end
section
variable {n:Nat} {t:TS} {C:Ctx} {a:Act} {w:World}
theorem B4y(x:Operand)(hc:M8 C (D2 n t) a w):M8 C (D2 n (C0C n t x)) a w:=by
 unfold C0C;split
 case h_2=>exact hc
 rename_i j _;split
 case h_2=>exact hc
 rename_i T R e;split
 case h_2=>exact hc
 rename_i L l e4;cases hn:d5 (j :: l) with
 |false=>exact hc
 |true =>
  simp only[A4];have hnd:=j5 hn;have hj:j<t.hp.length:=(B4.1 e).1;obtain⟨k1,k2,k3⟩:=A3S t.hp T e4;have hat:(D2 n t).hp[j]? = some (some (tb t.hp (.rws T R))):=by rw[E6,I1,e];rfl
  have g:=Get.absorb (s:=D2 n t) hat hnd (rows':=L.map (enc true T)) (by simp[tb,k3]) (fun _ y hy=>by
   obtain⟨q,_,rfl⟩:=C5.1 hy;rw[N6,O0];rfl) (by rw[E6];exact k2)
  refine L7.conc ?_ (g _ _ _ hc);have e1:D2 n { t with hp:=t.hp.set j (some (.arr T true L)) }={ D2 n t with hp:=(F1 t.hp).set j (some ⟨T.sz,0,L.map (enc true T),0⟩) }:=A6z hj (by simp[hpk,e,TB.rlen,k3]);have:=L7.kill (n:=n) (t:={ t with hp:=t.hp.set j (some (.arr T true L)) }) l;rw[e1] at this
  have e2:F1 (t.hp.set j (some (.arr T true L)))=(F1 t.hp).set j (some ⟨T.sz,0,L.map (enc true T),0⟩):=congrArg AS.hp e1;rw[e2] at this;exact this
theorem C1E(x:Operand)(hc:M8 C (D2 n t) a w):M8 C (D2 n (C3b n t x)) a w:=by
 unfold C3b;split
 ·split
  ·rename_i T _ _;cases T.flat
   ·exact B4y x hc
   ·exact hc
  ·exact hc
 ·exact hc
theorem B4E:∀ (xs:List Operand) {t:TS},M8 C (D2 n t) a w→M8 C (D2 n (C3r n t xs)) a w
 |[],_,hc=>hc
 |x :: xs,_,hc=>B4E xs (C1E x hc)
theorem A9F{Θ:TyO}(no:NO)(hc:M8 C (D2 n t) a w):M8 C (D2 n (C4a Θ n t no)) a w:=by
 have h1:∀ (c:Bool),M8 C (D2 n (bif c then A0e t else t)) a w:=fun c=>by
  cases c
  ·exact hc
  ·exact A4A hc
 unfold C4a;split
 ·exact B4y _ (h1 _)
 ·exact A9g _ (B4k _ (h1 _))
 ·exact B4o _ _ hc
 ·exact B4L _ _ hc
 ·exact B4E _ (h1 _)
 ·rename_i m ag x;cases (Nat.beq m 1 && !ag) with
  |false=>exact B9S m x (h1 _)
  |true=>exact B9k x (h1 _)
 ·exact h1 _
end
open Go Go.RowKit
theorem B8m(H:HP)(n:Nat)(T:Ty)(o:Bool)(L:List (Den T)):(L.map (enc o T)).map (vw H n)=L.map (enc false T):=by
 rw[H7];exact E4 fun x _=>C7P H n T o x
theorem C8t(H:HP)(n:Nat)(cs:List AV):vw H (n+1) (.agg cs)=.agg (cs.map (vw H n)):=by
 cases hc:ci (.agg cs) with
 |true =>
  rw[A0F hc,A34 (by simpa[ci] using hc)]
 |false=>simp only[vw,hc,E0,E5]
theorem C5t(H:HP)(n:Nat)(f:FuncId)(cs:List AV):vw H (n+1) (.fn f cs)=.fn f (cs.map (vw H n)):=by
 cases hc:ci (.fn f cs) with
 |true =>
  rw[A0F hc,A34 (by simpa[ci] using hc)]
 |false=>simp only[vw,hc,E0,E5]
theorem C8u(H:HP)(n:Nat)(cs:List AV):vw H (n+1) (.ipt cs)=.ipt (cs.map (vw H n)):=by
 cases hc:ci (.ipt cs) with
 |true =>
  rw[A0F hc,A34 (by simpa[ci] using hc)]
 |false=>simp only[vw,hc,E0,E5]
section
variable {hp:THP}
theorem C2z{j:Nat}{A:Ty}{o:Bool}{L:List (Den A)}(e:hp[j]? = some (some (.arr A o L)))(n:Nat):vw (F1 hp) (n+1) (av hp (.own j))=enc false (.sl A) L:=by
 rw[t9 (T8 e)];have hc:ci (.ref j L.length 0 L.length)=false:=rfl;simp only[vw,hc,E0,E5];rw[w9 e];simp only;rw[B0n _ _ (by simp),B8m];rfl
theorem C08{j off len:Nat}{A:Ty}{o:Bool}{L:List (Den A)}(e:hp[j]? = some (some (.arr A o L)))(n:Nat):vw (F1 hp) (n+1) (av hp (.sub j off len))=enc false (.sl A) ((L.drop off).take len):=by
 have:av hp (.sub j off len)=.ref j L.length off len:=by simp only[av,T8 e]
 rw[this];have hc:ci (.ref j L.length off len)=false:=rfl;simp only[vw,hc,E0,E5];rw[w9 e];simp only;rw[C2I,← W7,← W0,B8m];rfl
theorem A6R:∀ (T:Ty) (cs:List TV) (y:Den T) (r:List TV),A2x.asArgC hp T cs=some (y,r) →
  ∃ c1,cs=c1++r∧(∀ n,O6 Im (c1.map fun c=>vw (F1 hp) (n+1) (av hp c)) (cls false T y))∧∀ c∈c1,c.c1 hp=true:=by
 intro T;induction T with
 |ar n k =>
  intro cs y r h;cases cs with
  |nil=>cases h
  |cons c cs=>cases h
 |i k =>
  intro cs y r h;cases cs with
  |nil=>cases h
  |cons c cs =>
   simp only[A2x.asArgC] at h;split at h
   ·split at h
    ·rename_i hz;cases h;obtain⟨rfl,hz⟩:=N5 hz;cases hz;exact⟨[_],rfl,fun n=>.cons (by show Im (vw (F1 hp) (n+1) (av hp _)) _;rw[A0F rfl];exact .refl _) .nil,by simp[TV.c1]⟩
    ·cases h
   ·cases h
 |bl =>
  intro cs y r h;cases cs with
  |nil=>cases h
  |cons c cs =>
   simp only[A2x.asArgC] at h;split at h
   ·split at h
    ·rename_i hz;cases h;obtain⟨rfl,hz⟩:=N5 hz;cases hz;exact⟨[_],rfl,fun n=>.cons (by show Im (vw (F1 hp) (n+1) (av hp _)) _;rw[A0F rfl];exact .refl _) .nil,by simp[TV.c1]⟩
    ·cases h
   ·cases h
 |tx =>
  intro cs y r h;cases cs with
  |nil=>cases h
  |cons c cs =>
   simp only[A2x.asArgC] at h;split at h
   ·split at h
    ·rename_i hz;cases h;obtain⟨rfl,hz⟩:=N5 hz;cases hz;exact⟨[_],rfl,fun n=>.cons (by show Im (vw (F1 hp) (n+1) (av hp _)) _;rw[A0F rfl];exact .refl _) .nil,by simp[TV.c1]⟩
    ·cases h
   ·cases h
 |sv t _ =>
  intro cs y r h;cases cs with
  |nil=>cases h
  |cons c cs =>
   simp only[A2x.asArgC] at h;split at h
   ·split at h
    ·rename_i hz;cases h;obtain⟨rfl,hz⟩:=N5 hz;cases hz;exact⟨[_],rfl,fun n=>.cons (by show Im (vw (F1 hp) (n+1) (enc false (.sl t) _)) _;rw[A0F (A4T (.sl t) _)];exact .refl _) .nil,by simp[TV.c1]⟩
    ·cases h
   ·cases h;exact⟨[_],rfl,fun n=>.cons (by show Im (vw (F1 hp) (n+1) (av hp _)) _;rw[A0F rfl];exact j9 false _) .nil,by simp[TV.c1]⟩
   ·cases h
 |sl t _ =>
  intro cs y r h;cases cs with
  |nil=>cases h
  |cons c cs =>
   simp only[A2x.asArgC] at h;split at h
   ·split at h
    ·rename_i A x _ z hz;cases h;have hz:=A14 hz;have h1:(TV.v A x).c1 hp=true:=by
      cases A<;>first|rfl|(exfalso;revert hz;simp[enc,Ty.ag,mkr,cls])
     exact⟨[_],rfl,fun n=>.cons (by show Im (vw (F1 hp) (n+1) (enc false _ _)) _;rw[A0F (A4T _ _),hz];exact .refl _) .nil,by simpa using h1⟩
    ·cases h
   ·split at h
    ·rename_i e;split at h
     ·rename_i hz;cases h;have hz:=A14 hz;exact⟨[_],rfl,fun n=>.cons (by show Im (vw (F1 hp) (n+1) (av hp _)) _;rw[C2z e,hz];exact .refl _) .nil,by simp[TV.c1,f8,T8 e]⟩
     ·cases h
    ·cases h
   ·split at h
    ·rename_i e;split at h
     ·rename_i hz;cases h;have hz:=A14 hz;exact⟨[_],rfl,fun n=>.cons (by show Im (vw (F1 hp) (n+1) (av hp _)) _;rw[C08 e,hz];exact .refl _) .nil,by simp[TV.c1,f8,T8 e]⟩
     ·cases h
    ·cases h
   ·cases h;exact⟨[_],rfl,fun n=>.cons (by show Im (vw (F1 hp) (n+1) (av hp _)) _;rw[A0F rfl];exact j9 false _) .nil,by simp[TV.c1]⟩
   ·cases h
 |pr a b iha ihb =>
  intro cs y r h;simp only[A2x.asArgC] at h;split at h
  ·rename_i h1;split at h
   ·rename_i h2;cases h;obtain⟨c1,rfl,k1,k2⟩:=iha _ _ _ h1;obtain⟨c2,rfl,k3,k4⟩:=ihb _ _ _ h2;refine⟨c1++c2,by simp,fun n => ?_,fun c hc => ?_⟩
    ·rw[G0];exact O6.append (k1 n) (k3 n)
    ·rcases C9.1 hc with h|h
     ·exact k2 c h
     ·exact k4 c h
   ·cases h
  ·cases h
 |st t ih =>
  intro cs y r h;exact ih cs y r h
theorem B2S{T:Ty}{x:TV}{y:Den T}(h:A2x hp T x=some y)(n:Nat):Im (vw (F1 hp) (n+2) (av hp x)) (enc false T y):=by
 unfold A2x at h;split at h
 ·split at h
  ·rename_i hz;cases h;obtain⟨c1,e,k1,_⟩:=A6R _ _ _ _ hz;rw[D5] at e;subst e;simp only[av,O8];rw[C8t,H7];exact Im.agg (k1 n)
  ·cases h
 ·have e:=(B1e hp h).1;have e2:av hp (.ag ‹List TV›)=enc false (.ar _ _) y:=by
   simp only[av,O8,e];rfl
  rw[e2,A0F (A4T _ _)];exact .refl _
 ·have hz:=A14 h;simp only[av];rw[A0F (A4T _ _),hz];exact .refl _
 ·split at h
  ·rename_i e;have hz:=A14 h;rw[C2z e,hz];exact .refl _
  ·cases h
 ·split at h
  ·rename_i e;have hz:=A14 h;rw[C08 e,hz];exact .refl _
  ·cases h
 ·cases h;simp only[av];rw[A0F rfl];exact j9 false _
 ·cases h;simp only[av];have hc:ci (.sl true 0 [])=false:=rfl;simp only[vw,hc,E0,E5,U3];intro w N M v r;cases r with
  |slI0=>exact .slI0 _ _ _
  |slI=>exact .slI0 _ _ _
 ·cases h
theorem C76:∀ (p:PK) (a:d9 p),(A28 p a).map (av hp)=(A28 p a).map (av []):=by
 intro p;induction p with
 |un|d|ip=>intro a;rfl
 |fn f c ih=>intro a;simp only[A28,F6,U3,av,O8,ih]
 |pr a b iha ihb=>intro x;simp only[A28,G0,iha,ihb]
theorem A8Y:∀ (p:PK) (xs:List TV) (a:d9 p) (r:List TV),A4m hp p xs=some (a,r)→∀ n,A3d p≤n →
  ∃ x1,xs=x1++r∧O6 Im (x1.map fun x=>vw (F1 hp) n (av hp x)) ((A28 p a).map (av [])):=by
 intro p;induction p with
 |un =>
  intro xs a r h n hn;simp only[A4m,C3,P5,A8H] at h;exact⟨[],by rw[h];rfl,.nil⟩
 |d T =>
  intro xs a r h n hn;cases xs with
  |nil=>cases h
  |cons x xs =>
   simp only[A4m] at h;split at h
   ·rename_i hz;cases h;obtain⟨n,rfl⟩:∃ k,n=k+2:=⟨n-2,by simp only[A3d] at hn;omega⟩;exact⟨[x],rfl,.cons (B2S hz n) .nil⟩
   ·cases h
 |ip T =>
  intro xs a r h n hn;cases xs with
  |nil=>cases h
  |cons x xs =>
   obtain⟨n,rfl⟩:∃ k,n=k+2:=⟨n-2,by simp only[A3d] at hn;omega⟩;simp only[A4m] at h;split at h
   ·rename_i A y off;cases hb:Nat.beq off 0 with
    |false=>rw[hb] at h;cases h
    |true =>
     rw[hb,A4] at h;simp only[F4] at hb;subst hb;split at h
     ·rename_i hz;cases h;obtain⟨rfl,hz⟩:=N5 hz;cases hz;refine⟨[_],rfl,.cons ?_ .nil⟩;show Im (vw (F1 hp) (n+2) (av hp (.ipv _ _ 0))) _;rw[A0F (by simp only[av,ci,N8];exact A2y _ _)];exact .refl _
     ·cases h
   ·split at h
    ·rename_i hz;cases h;obtain⟨c1,e,k1,_⟩:=A6R _ _ _ _ hz;rw[D5] at e;subst e;refine⟨[_],rfl,.cons ?_ .nil⟩;show Im (vw (F1 hp) (n+1+1) (av hp (.ipt _))) (av [] (.ipv T _ 0));simp only[av,O8];rw[C8u,H7,N8];exact Im.ipt (k1 n)
    ·cases h
   ·rename_i j row off;cases hb:(Nat.beq row 0&&Nat.beq off 0) with
    |false=>rw[hb] at h;cases h
    |true =>
     rw[hb,A4] at h;simp only[A6,F4] at hb;obtain⟨rfl,rfl⟩:=hb;split at h
     ·rename_i cs e;split at h
      ·rename_i hz;cases h;obtain⟨c1,e1,k1,k2⟩:=A6R _ _ _ _ hz;rw[D5] at e1;subst e1;refine⟨[_],rfl,.cons ?_ .nil⟩;have hav:av hp (.ptr j 0 0)=.ptr j 1 0 0:=by simp only[av,A2B e]
       show Im (vw (F1 hp) (n+2) (av hp (.ptr j 0 0))) _;rw[hav];have hc:ci (.ptr j 1 0 0)=false:=rfl;simp only[vw,hc,E0,E5];rw[B7o e];simp only[Nat.lt_one_iff,H1,List.getD_cons_zero,AV.cells,N8,av];have hcv:cs.map (cav hp)=cs.map (av hp):=E4 fun c hc=>by
        unfold cav;rw[k2 c hc];rfl
       rw[hcv,H7];exact Im.ipt (k1 n)
      ·cases h
     ·cases h
   ·cases h
 |fn f c ih =>
  intro xs a r h n hn;cases xs with
  |nil=>cases h
  |cons x xs =>
   obtain⟨n,rfl⟩:∃ k,n=k+1:=⟨n-1,by simp only[A3d] at hn;omega⟩;simp only[A4m] at h;split at h
   ·rename_i g cs;cases hb:Nat.beq f g with
    |false=>rw[hb] at h;cases h
    |true =>
     rw[hb,A4] at h;simp only[F4] at hb;subst hb;split at h
     ·rename_i hz;cases h;obtain⟨x1,e,k⟩:=ih _ _ _ hz n (by simp only[A3d] at hn;omega);rw[D5] at e;subst e;refine⟨[_],rfl,.cons ?_ .nil⟩;show Im (vw (F1 hp) (n+1) (av hp (.fn f _))) (av [] (.fn f _));simp only[av,O8];rw[C5t,H7];exact Im.fn k
     ·cases h
   ·cases h
 |pr a b iha ihb =>
  intro xs x r h n hn;simp only[A3d] at hn;simp only[A4m] at h;split at h
  ·rename_i h1;split at h
   ·rename_i h2;cases h;obtain⟨x1,rfl,k1⟩:=iha _ _ _ h1 n (by omega);obtain⟨x2,rfl,k2⟩:=ihb _ _ _ h2 n (by omega);refine⟨x1++x2,by simp,?_⟩;simp only[A28,G0];exact O6.append k1 k2
   ·cases h
  ·cases h
end
end Go.Proofs.YtkmhopbmpeiofaaGreat.Nx
