/- Contracts of functions, rows of law, and the pure library: sound, with no condition beyond those each lemma names. -/
import Derived.IntWalk
import Derived.Test.YtkmhopbmpeiofaaGreatNxp
set_option linter.unusedVariables false
set_option linter.unusedSimpArgs false
namespace Go.Proofs.YtkmhopbmpeiofaaGreat.Nx
open Go Go.RowKit
theorem C3e:∀ (s:SK) (x:D3 s) (base:Nat),(ust base s x).2.length=c9 s:=by
 intro s;induction s with
 |un|d|fn|ip|o|mo|lg|av|al|sum|bv=>intro x base;rfl
 |bx k T=>intro x base;simp only[ust,c9,A5,J5,z7]
 |ow k T=>intro x base;exact z7 T x base
 |pr a b iha ihb =>
  intro x base;simp only[ust,c9,A5,iha,ihb]
theorem C1a:∀ (s:SK) (x:D3 s) (base k:Nat) (y:TV),(k,y)∈(ust base s x).1→k∈k8 s:=by
 intro s;induction s with
 |un|al|sum=>intro x base k y h;cases h
 |d|fn|ip|o|mo|lg|av|bx|ow|bv=>intro x base k y h;simp only[ust,C1,P5] at h;simp[k8,h.1]
 |pr a b iha ihb =>
  intro x base k y h;simp only[ust] at h;simp only[k8,C9];rcases C9.1 h with h|h
  ·exact .inl (iha _ _ _ _ h)
  ·exact .inr (ihb _ _ _ _ h)
theorem C1p(hp:THP):∀ (T:Ty) (base:Nat) (y:A3P T),B1z hp base T=some y→∀ i,i<T.nsl→∃ (A:Ty) (o:Bool) (L:List (Den A)),hp[base+i]? = some (some (.arr A o L))∧(o||A.flat)=true∧(A0h T y)[i]? = some (.arr A true L):=by
 intro T;induction T with
 |i|bl|tx|sv|ar=>intro base y _ i hi;simp[Ty.nsl] at hi
 |sl t _ =>
  intro base y h i hi;have:i=0:=by simp[Ty.nsl] at hi;omega
  subst this;simp only[B1z] at h;split at h
  ·rename_i A o L e;cases ho:(o||A.flat) with
   |false=>rw[ho] at h;cases h
   |true =>
    rw[ho,A4] at h;obtain⟨e3,hz⟩:=N5 h;cases e3;cases hz;exact⟨_,o,_,e,ho,rfl⟩
  ·cases h
 |st t ih=>exact fun base y h i hi=>ih base y h i hi
 |pr a b iha ihb =>
  intro base y h i hi;simp only[B1z] at h;split at h
  ·rename_i x1 x2 h1 h2;cases h;simp only[Ty.nsl] at hi;simp only[A0h];have hl:=A3b a x1;rcases D9 i a.nsl with q|q
   ·rw[B7 (by omega)];exact iha _ _ h1 i q
   ·rw[B6 (by omega),hl];obtain⟨A,o,L,k1,k2,k3⟩:=ihb _ _ h2 (i-a.nsl) (by omega);refine⟨A,o,L,?_,k2,k3⟩;rw[show base+i=base+a.nsl+(i-a.nsl) from by omega];exact k1
  ·cases h
inductive Fxd (hp:THP) (b:Nat) (m:List (Option Nat)) (S:List TB) (j:Nat):Option TB→Prop
 |gone:Fxd hp b m S j none
 |arr {A:Ty} {o:Bool} {L:List (Den A)}:hp[j]? = some (some (.arr A o L))→(o||A.flat)=true→Fxd hp b m S j (some (.arr A true L))
 |box {cs:List TV} {T:Ty} {x:Den T} {o:Nat} {l:List (Option Nat)}:hp[j]? = some (some (.box cs))→SR hp (b+o) cs (rsC (b+o) T x).1 l (rsC (b+o) T x).2 →
   (∀ (i:Nat) z,l[i]? = some z→m[o+i]? = some z)→(∀ (i:Nat) z,(rsC (b+o) T x).2[i]? = some z→S[o+i]? = some z)→Fxd hp b m S j (some (.box (rsC (b+o) T x).1))
 |bv {cs:List TV} {T:Ty} {x:Den T}:hp[j]? = some (some (.box cs))→m6 T cs=some (x,[])→Fxd hp b m S j (some (.box (W8 T x)))
theorem Fxd.left{hp:THP}{b:Nat}{m m':List (Option Nat)}{S S':List TB}{j:Nat}{z:Option TB}(h:Fxd hp b m S j z):Fxd hp b (m++m') (S++S') j z:=by
 cases h with
 |gone=>exact .gone
 |arr h1 h2=>exact .arr h1 h2
 |bv h1 h2=>exact .bv h1 h2
 |box h1 h2 h3 h4 =>
  refine .box h1 h2 (fun i z e => ?_) fun i z e => ?_
  ·have:=h3 i z e;rw[B7 (B4.1 this).1];exact this
  ·have:=h4 i z e;rw[B7 (B4.1 this).1];exact this
theorem Fxd.right{hp:THP}{b:Nat}{m m':List (Option Nat)}{S S':List TB}{j:Nat}{z:Option TB}{n:Nat}(hm:m'.length=n)(hS:S'.length=n)(h:Fxd hp (b+n) m S j z):Fxd hp b (m'++m) (S'++S) j z:=by
 cases h with
 |gone=>exact .gone
 |arr h1 h2=>exact .arr h1 h2
 |bv h1 h2=>exact .bv h1 h2
 |box h1 h2 h3 h4 =>
  rename_i o l;rw[G4] at h2 h4 ⊢;refine .box h1 h2 (fun i z e => ?_) fun i z e => ?_
  ·have:=h3 i z e;rw[B6 (by omega),hm,show n+o+i-n=o+i from by omega];exact this
  ·have:=h4 i z e;rw[B6 (by omega),hS,show n+o+i-n=o+i from by omega];exact this
theorem C9j{hp:THP}{base:Nat}{cs cs':List TV}{l:List (Option Nat)}{B:List TB}(h:SR hp base cs cs' l B):∀ i:Nat,(∀ j,l[i]? = some (some j)→∃ (A:Ty) (o:Bool) (L:List (Den A)),hp[j]? = some (some (.arr A o L))∧(o||A.flat)=true∧B[i]? = some (.arr A true L)) ∧
  (l[i]? = some none→∃ A:Ty,B[i]? = some (.arr A true [])):=by
 induction h with
 |nil=>intro i;exact⟨fun j h=>by simp at h,fun h=>by simp at h⟩
 |leaf _ _ ih=>exact ih
 |own h1 h2 _ ih =>
  intro i;cases i with
  |zero=>exact⟨fun j e=>by simp only[E8,C3] at e;subst e;exact⟨_,_,_,h1,h2,rfl⟩,fun e=>by simp at e⟩
  |succ i=>simpa using ih i
 |none _ ih =>
  intro i;cases i with
  |zero=>exact⟨fun j e=>by simp at e,fun _=>⟨_,rfl⟩⟩
  |succ i=>simpa using ih i
theorem C0V(hp:THP):∀ (s:SK) (base:Nat) (y:N9 s) (m:List (Option Nat)),A4o hp base s=some (y,m)→m.length=Y8 s∧(∀ (b i:Nat),i<c9 s→∃ z,(fxW s b y)[i]? = some z∧Fxd hp b m (slW s b y) (base+i) z∧(z.isSome=true→base+i∈A3a s base)) ∧
  ∀ (b i:Nat),(∀ j,m[i]? = some (some j)→∃ (A:Ty) (o:Bool) (L:List (Den A)),hp[j]? = some (some (.arr A o L))∧(o||A.flat)=true∧(slW s b y)[i]? = some (.arr A true L))∧(m[i]? = some none→∃ A:Ty,(slW s b y)[i]? = some (.arr A true [])):=by
 intro s;induction s with
 |un|d|fn|ip|al|sum =>
  intro base y m h;simp only[A4o,C3,P5] at h;obtain⟨_,rfl⟩:=h;exact⟨rfl,fun b i hi=>by simp[c9] at hi,fun b i=>⟨fun j h=>by simp at h,fun h=>by simp at h⟩⟩
 |o k T =>
  intro base y m h;simp only[A4o] at h;split at h
  ·rename_i A o L e;cases ho:(o||A.flat) with
   |false=>rw[ho] at h;cases h
   |true =>
    rw[ho,A4] at h;split at h
    ·rename_i x hx;cases h;obtain⟨e3,hz⟩:=N5 hx;cases e3;cases hz;refine⟨rfl,fun b i hi => ?_,fun b i=>⟨fun j h=>by simp at h,fun h=>by simp at h⟩⟩;have:i=0:=by simp[c9] at hi;omega
     subst this;exact⟨_,rfl,.arr e ho,fun _=>by simp[A3a]⟩
    ·cases h
  ·cases h
 |mo k T =>
  intro base y m h;simp only[A4o,C3,P5] at h;obtain⟨_,rfl⟩:=h;refine⟨rfl,fun b i hi => ?_,fun b i=>⟨fun j h=>by simp at h,fun h=>by simp at h⟩⟩;have:i=0:=by simp[c9] at hi;omega
  subst this;exact⟨none,rfl,.gone,fun h=>by cases h⟩
 |lg k T =>
  intro base y m h;simp only[A4o,C3,P5] at h;obtain⟨_,rfl⟩:=h;refine⟨rfl,fun b i hi => ?_,fun b i=>⟨fun j h=>by simp at h,fun h=>by simp at h⟩⟩;have:i=0:=by simp[c9] at hi;omega
  subst this;exact⟨none,rfl,.gone,fun h=>by cases h⟩
 |av k m1 K =>
  intro base y m h;simp only[A4o,C3,P5] at h;obtain⟨_,rfl⟩:=h;refine⟨rfl,fun b i hi => ?_,fun b i=>⟨fun j h=>by simp at h,fun h=>by simp at h⟩⟩;have:i=0:=by simp[c9] at hi;omega
  subst this;exact⟨none,rfl,.gone,fun h=>by cases h⟩
 |ow k T =>
  intro base y m h;simp only[A4o] at h;split at h
  ·rename_i x hx;cases h;have key:=C1p hp T base _ hx;refine⟨rfl,fun b i hi => ?_,fun b i=>⟨fun j h=>by simp at h,fun h=>by simp at h⟩⟩;obtain⟨A,o,L,k1,k2,k3⟩:=key i hi;refine⟨_,by simp only[fxW,H3,k3,F8],.arr k1 k2,fun _ => ?_⟩;simp only[A3a,C5,R8];exact⟨i,hi,rfl⟩
  ·cases h
 |bx k T =>
  intro base y m h;simp only[A4o] at h;split at h
  ·rename_i cs e;split at h
   ·rename_i x l hx;cases h;obtain⟨c1,hc1,k1⟩:=j8 hp T cs _ _ [] hx;rw[D5] at hc1;subst hc1;have hl:=(k1 0).len.1;rw[z7] at hl;refine⟨hl.symm,fun b i hi => ?_,fun b i=>C9j (k1 b) i⟩;simp only[c9] at hi;rcases D9 i T.nsl with q|q
    ·exact⟨none,by simp only[fxW];rw[B7 (by simpa using q),d7,E9 q],.gone,fun h=>by cases h⟩
    ·have:i=T.nsl:=by omega
     subst this;refine⟨some (.box (rsC b T y).1),by simp only[fxW];rw[B6 (by simp),b9,R7];rfl,?_,fun _=>by simp[A3a]⟩;exact Fxd.box (o:=0) e (k1 b) (fun i z e=>by rw[E1];exact e) (fun i z e=>by rw[E1];exact e)
   ·cases h
  ·cases h
 |bv k T =>
  intro base y m h;simp only[A4o] at h;split at h
  ·rename_i cs e;split at h
   ·rename_i x hx;cases h;refine⟨rfl,fun b i hi => ?_,fun b i=>⟨fun j h=>by simp at h,fun h=>by simp at h⟩⟩;have:i=0:=by simp[c9] at hi;omega
    subst this;exact⟨_,rfl,.bv e hx,fun _=>by simp[A3a]⟩
   ·cases h
  ·cases h
 |pr a b iha ihb =>
  intro base y m h;simp only[A4o] at h;split at h
  ·rename_i x1 l1 x2 l2 h1 h2;cases h;obtain⟨p1,p2,p3⟩:=iha _ _ _ h1;obtain⟨q1,q2,q3⟩:=ihb _ _ _ h2;refine⟨by simp only[A5,Y8,p1,q1],fun c i hi => ?_,fun c i => ?_⟩
   ·simp only[c9] at hi;simp only[fxW,slW];rcases D9 i (c9 a) with h|h
    ·obtain⟨z,k1,k2,k3⟩:=p2 c i h;exact⟨z,by rw[B7 (by rw[A0s];exact h)];exact k1,k2.left,fun e=>by simp only[A3a];exact O3 _ (k3 e)⟩
    ·obtain⟨z,k1,k2,k3⟩:=q2 (c+Y8 a) (i-c9 a) (by omega);rw[show base+c9 a+(i-c9 a)=base+i from by omega] at k2 k3;exact⟨z,by rw[B6 (by rw[A0s];exact h),A0s];exact k1,k2.right p1 (A0M a x1 c),fun e=>by simp only[A3a];exact Q3 _ (k3 e)⟩
   ·simp only[slW];have hs:=A0M a x1 c;rcases D9 i (Y8 a) with h|h
    ·rw[B7 (by omega),B7 (by omega)];exact p3 c i
    ·rw[B6 (by omega),B6 (by omega),p1,hs];exact q3 (c+Y8 a) (i-Y8 a)
  ·cases h
theorem C3N{w:World}{N:NT}{M:MT}:∀ (ys:List AV) (vs:List Value),ys.length=vs.length→(∀ i,Rep w N M (ys.getD i .any) (vs.getD i undef) [])→F5 w N M ys vs []:=by
 intro ys;induction ys with
 |nil=>intro vs hl _;cases vs with|nil=>exact .nil|cons=>simp at hl
 |cons y ys ih =>
  intro vs hl h;cases vs with
  |nil=>simp at hl
  |cons v vs=>exact .cons (L1:=[]) (L2:=[]) (by simpa using h 0) (ih vs (by simpa using hl) fun i=>by simpa using h (i+1))
theorem C50{P:Program}{f:FuncId}{nf:NF}{Γ:List CX}{Θ:TyO}{s:SK}{R:RK}{Λ:List (LC (G8 R×N9 s))}(hf:nFn P f=some nf)(hm:P.follows .mixedOrders=true)(hΓ:∀ cx∈Γ,A9a P cx)
  (hΛ:∀ id B,(id,B)∈V9 nf.body→∀ l,A2K Λ id=some l→H8 Γ Θ Λ nf.n (A5G nf.n R nf.res s) l B) (hq:∀ id l,A2K Λ id=some l→c9 s≤l.q)
  (hsl:∀ k∈k8 s,k<(k8 s).length) (hp:(k8 s).length≤nf.n):t5 P ⟨f,s,R,B3X Γ Θ nf s R Λ⟩:=by
 intro arg out hx;replace hx:B3X Γ Θ nf s R Λ arg=some out:=hx;unfold B3X at hx;obtain⟨out',hx,hlen⟩:=U7.1 hx;cases hlw:A8Q s arg out'.2 with
 |false=>rw[hlw] at hlen;cases hlen
 |true =>
 rw[hlw,A4] at hlen;cases hlen;obtain⟨ρ,y⟩:=out;unfold nFn at hf;split at hf
 ·rename_i fn hfn;split at hf
  ·cases hf
  ·rename_i hname;split at hf
   ·rename_i c hb;split at hf
    ·rename_i b r h1 h2;cases hf;simp only at hp hx hΛ;refine⟨hlw,⟨fn,hfn,by rw[hb];rfl,by simpa using hname⟩,fun w N M L vs he hr => ?_⟩
     let C:Ctx:=⟨w,L.map Prod.fst,N,M⟩
     have hlenv:vs.length=(k8 s).length:=by
      have:=hr.length;rw[T5] at this;omega
     have hblen:=C3e s arg 0;have hC:∀ k,c9 s≤k→C.M0 k=none:=fun k hk=>he.un k (by rw[F3,C7,hblen];exact hk);have hinit:M8 C (D2 fn.ntmps (mkS s arg)) { tmps:=(⟨vs⟩:Array Value)++Array.replicate (fn.ntmps-(⟨vs⟩:Array Value).size) undef,defers:=[] } w:=by
      refine⟨N,M,L,rfl,?_,by rw[E6];exact he.hr,he.nd,fun p hp=>⟨(he.own p hp).1,.inr (L9 hp),(he.own p hp).2⟩,he.nlt,fun _ _ h=>h,fun _ _ h=>.inl h,FrN.refl _ _ _,fun k hk=>he.un k (by rw[E6] at hk;exact hk),fun k m m0 h1 h0=>(by cases h1.symm.trans h0;exact⟨B9 _,fun _=>rfl⟩),fun k hk=>he.un k (by rw[E6] at hk;exact hk)⟩
      refine C3N _ _ (by rw[T5];simp;omega) fun i => ?_;rw[R5];unfold TS.get;cases hi:Nat.blt i fn.ntmps with
      |false=>exact .any _
      |true =>
       simp only[A4];rcases B31 (mkS s arg).u i with e|e
       ·rw[e];exact .any _
       ·have hik:=hsl i (C1a s arg 0 i _ e);have rr:=hr.get i;rw[R5] at rr;unfold TS.get at rr;rw[show Nat.blt i (k8 s).length=true from by rw[Q5];exact hik,A4] at rr;have:(((⟨vs⟩:Array Value)++Array.replicate (fn.ntmps-(⟨vs⟩:Array Value).size) undef).toList.getD i undef)=vs.getD i undef:=by
         simp only[Array.toList_append,B3];rw[B7 (by omega)]
        rw[this];exact rr
     refine calls_of_wp hfn hb (wp_mono ((B4p (C:=C) hm hΓ hC hq b).1 hΛ (G8 R×N9 s) c _ _ _ (ρ,y) _ _ w h1 hx hinit) fun e a w' q => ?_)
     have fin:∀ t,A5G fn.ntmps R r s t=some (ρ,y)→M8 C (D2 fn.ntmps t) a w'→a.defers=[]∧∃ v,(results fn a.tmps).run P w'=.ok v w'∧(fun e w'=>∃ v,e=Ending.returned v∧∃ N' M' L',B0p w N M L (B2R R ρ s y) (Z9 R ρ s y).length (A00 (I3 0 R ρ).1) v w' N' M' L') (.returned v) w':=by
      intro t ht hc;replace hc:=A5e r t hc;unfold A5G at ht;generalize A8m fn.ntmps t r=t at ht hc;replace hc:=A3p (A9o R) r t hc;generalize A9B fn.ntmps t (A9o R) r=t at ht hc;obtain⟨N1,M1,ℓ,hD⟩:=hc.fn;unfold B8P at ht;split at ht
      ·rename_i x l hd;split at ht
       case h_2=>cases ht
       rename_i y' m hy;cases hnb:d5 (L8 (l++m)++A3a s 0) with
       |false=>rw[hnb] at ht;cases ht
       |true =>
        rw[hnb,A4] at ht;cases ht;have hnd0:=j5 hnb;have hnd:(L8 (l++m)).Nodup:=(J3.1 hnd0).1;have hdj:∀ x∈L8 (l++m),∀ z∈A3a s 0,x≠z:=(J3.1 hnd0).2.2;have hlt0:=B6r hD R r ρ l [] hd;have hs1:∀ l m:List (Option Nat),L8 (l++m)=L8 l++L8 m:=fun l m=>by
         induction l with
         |nil=>rfl
         |cons x l ih=>cases x<;>simp[L8,ih]
        obtain⟨hml,hfx,hsl'⟩:=C0V t.hp s 0 y m hy;have hltm:∀ j∈L8 m,j<t.hp.length:=fun j hj=>by
         obtain⟨i,hi⟩:=List.getElem?_of_mem (V6.1 hj);obtain⟨A,o,Z,k1,_⟩:=(hsl' 0 i).1 j hi;exact(B4.1 k1).1
        have hlt:∀ j∈L8 (l++m),j<t.hp.length:=fun j hj=>by
         rw[hs1] at hj;rcases C9.1 hj with h|h
         ·exact hlt0 j h
         ·exact hltm j h
        obtain⟨r1,er,hall,hres⟩:=A4E (N':=N1) (M':=fun _=>none) (ℓ:=ℓ) (ℓ':=ℓ) (hpT:=[]) hD.d R r ρ l [] hd;rw[D5] at er;subst er;obtain⟨hlen1,hlen2,_⟩:=hres 0
        let np:=(I3 0 R ρ).2.length
        let nq:=(Z9 R ρ s y).length
        let F:=fxW s np y
        let hpT:=B2R R ρ s y
        have hFl:F.length=c9 s:=A0s s y np;have hlenB:(Z9 R ρ s y).length=(l++m).length:=by
         unfold Z9;rw[A5,A5,hlen1,A0M,hml]
        obtain⟨v,v1,v2⟩:=B0J hD.d h2 hall;obtain⟨M',ℓ',k1,k2,k3⟩:=B3A (l++m) (Z9 R ρ s y) hlenB M1 ℓ
        let M2:MT:=fun i=>if i<nq then M' i else(match F[i-nq]? with|some (some _)=>M1 (i-nq)|some none=>some none|none=>none)
        let ℓ2:Nat→List (Nat×Nat):=fun i=>if i<nq then ℓ' i else(match F[i-nq]? with|some (some _)=>ℓ (i-nq)|some none=>[]|none=>[])
        have hM2a:∀ i,i<nq→M2 i=M' i∧ℓ2 i=ℓ' i:=fun i hi=>⟨by simp only[M2,hi,H1],by simp only[ℓ2,hi,H1]⟩;have hM2b:∀ i (z:TB),F[i]? = some (some z)→M2 (nq+i)=M1 i∧ℓ2 (nq+i)=ℓ i:=fun i z e=>by
         have:¬ nq+i<nq:=by omega
         refine⟨?_,?_⟩
         ·simp only[M2,this,E5,J8,e]
         ·simp only[ℓ2,this,E5,J8,e]
        have hM2c:∀ i,F[i]? = some none→M2 (nq+i)=some none∧ℓ2 (nq+i)=[]:=fun i e=>by
         have:¬ nq+i<nq:=by omega
         refine⟨?_,?_⟩
         ·simp only[M2,this,E5,J8,e]
         ·simp only[ℓ2,this,E5,J8,e]
        have hM2d:∀ i,F[i]? = none→M2 (nq+i)=none∧ℓ2 (nq+i)=[]:=fun i e=>by
         have:¬ nq+i<nq:=by omega
         refine⟨?_,?_⟩
         ·simp only[M2,this,E5,J8,e]
         ·simp only[ℓ2,this,E5,J8,e]
        have hpTn:∀ (i:Nat) (z:TB),(Z9 R ρ s y)[i]? = some z→hpT[i]? = some (some z):=fun i z e=>by
         show((Z9 R ρ s y).map some++F)[i]? = _;rw[B7 (by rw[C7];exact(B4.1 e).1),H3,e];rfl
        have hpTl:hpT.length=nq+c9 s:=by
         show((Z9 R ρ s y).map some++F).length=_;rw[A5,C7,hFl]
        have hpTm:∀ i,hpT[nq+i]? = F[i]? := fun i=>by
         show((Z9 R ρ s y).map some++F)[nq+i]? = _;rw[B6 (by rw[C7];exact w4 _ _),C7];congr 1;exact J8 _ _
        have k1':At M1 M2 ℓ ℓ2 hpT 0 (l++m) (Z9 R ρ s y):=by
         refine⟨fun i b e=>by rw[E1];exact hpTn i b e,fun i j e => ?_,fun i b e e' => ?_⟩
         ·have hi:i<nq:=by show i<(Z9 R ρ s y).length;rw[hlenB];exact(B4.1 e).1
          have:=k1.so i j e;rw[E1] at this ⊢;rw[(hM2a i hi).1,(hM2a i hi).2];exact this
         ·have hi:i<nq:=(B4.1 e').1;have:=k1.no i b e e';rw[E1] at this ⊢;rw[(hM2a i hi).1,(hM2a i hi).2];refine⟨?_,this.2⟩;rw[this.1];have harr:A6c b=true:=by
           rcases C9.1 (I8 e') with h|h
           ·exact B53 R ρ 0 b h
           ·have:=B3O s y _ b h;cases b<;>first|exact this|cases this
          cases b with
          |arr T o L=>rfl
          |box cs=>simp[tb]
          |rws=>cases harr
          |hol=>cases harr
          |tld=>cases harr
          |log=>cases harr
          |ara=>first|rfl|cases harr
        have kL:=At.left k1' hlen1;have kR:=At.right k1' hlen1;rw[E1] at kR;obtain⟨r1',er',_,hres'⟩:=A4E (N':=N1) (M':=M2) (ℓ:=ℓ) (ℓ':=ℓ2) (hpT:=hpT) hD.d R r ρ l [] hd;rw[D5] at er';subst er';have hH:=hD.hp;rw[E6] at hH;obtain⟨b1,b2⟩:=(hres' 0).2.2 (fun _ _ h=>h) hH kL;have hrep:Rep w' N1 M2 (av hpT (A00 (I3 0 R ρ).1)) v []:=by
         generalize (I3 0 R ρ).1=zs at b2 hlen2;match hr1:r,zs,hlen2 with
         |[],[],_ =>
          have:=b2 [] .nil;cases v2 with
          |tup q=>cases q;exact .tup .nil
         |[q],[z],_ =>
          have:=b2 [v] (.cons (L1:=[]) (L2:=[]) v2 .nil);have:=this.get 0;simpa[A00] using this
         |q :: q' :: qs,z :: z' :: zs,_ =>
          cases v2 with
          |tup qv =>
           have:=b2 _ qv;show Rep w' N1 M2 (.tup (avL hpT (z :: z' :: zs))) _ [];rw[O8];exact .tup this
        have hsrc:∀ i,∀ p∈ℓ2 i,∃ j,p∈ℓ j∧j<t.hp.length∧((i<nq∧(l++m)[i]? = some (some j))∨(nq≤i∧j=i-nq∧j∈A3a s 0)):=fun i p hp=>by
         rcases D9 i nq with h|h
         ·rw[(hM2a i h).2] at hp;obtain⟨j,e,hj⟩:=k3 i p hp;exact⟨j,hj,hlt j (V6.2 (I8 e)),.inl ⟨h,e⟩⟩
         ·obtain⟨q,rfl⟩:∃ q,i=nq+q:=⟨i-nq,by omega⟩;cases hF:F[q]? with
          |none=>rw[(hM2d q hF).2] at hp;cases hp
          |some z =>
           have hq:q<c9 s:=by rw[← hFl];exact(B4.1 hF).1
           obtain⟨z',g1,g2,g3⟩:=hfx np q hq;rw[show(fxW s np y)[q]? = some z from hF] at g1;cases g1;rw[E1] at g2 g3;cases z with
           |none=>rw[(hM2c q hF).2] at hp;cases hp
           |some z =>
            rw[(hM2b q z hF).2] at hp;refine⟨q,hp,?_,.inr ⟨by omega,by omega,g3 rfl⟩⟩;cases g2 with
            |arr e _=>exact(B4.1 e).1
            |box e _ _ _=>exact(B4.1 e).1
            |bv e _=>exact(B4.1 e).1
        have hown:∀ i,∀ p∈ℓ2 i,p.1<w'.heap.size∧(C.w0.heap.size≤p.1∨p.1∈C.X)∧∀ o,N1 p.1 o→o<p.2:=fun i p hp=>by
         obtain⟨j,hj,hl,_⟩:=hsrc i p hp;exact hD.own j (by rw[E6,F3];exact hl) p hj
        have hinj:∀ i i' j,((i<nq∧(l++m)[i]? = some (some j))∨(nq≤i∧j=i-nq∧j∈A3a s 0))→((i'<nq∧(l++m)[i']? = some (some j))∨(nq≤i'∧j=i'-nq∧j∈A3a s 0))→i=i':=fun i i' j h h'=>by
         rcases h with⟨a1,a2⟩|⟨a1,a2,a3⟩<;>rcases h' with⟨c1,c2⟩|⟨c1,c2,c3⟩
         ·exact A6L hnd a2 c2
         ·exact absurd rfl (hdj j (V6.2 (I8 a2)) j c3)
         ·exact absurd rfl (hdj j (V6.2 (I8 c2)) j a3)
         ·omega
        refine⟨hD.df,v,v1,v,rfl,N1,M2,(List.range (F1 hpT).length).flatMap ℓ2,hrep,⟨?_,?_,?_,hD.nlt,fun k hk => ?_⟩,hD.fr,hD.nup,hD.ndn,?_,fun k m1 m0 e1 e0 => ?_⟩
        ·refine HR.of_fn fun i z hz => ?_;rw[E1];rw[I1] at hz;rcases D9 i nq with hi|hi
         ·have hbi:(Z9 R ρ s y)[i]? = some ((Z9 R ρ s y)[i]'hi):=D1 hi;rw[hpTn i _ hbi] at hz;simp only[F8,C3] at hz;subst hz;rcases D9 i np with hi2|hi2
          ·have hb2:(I3 0 R ρ).2[i]? = some ((Z9 R ρ s y)[i]'hi):=by
            rw[← hbi];show _=((I3 0 R ρ).2++slW s np y)[i]?;rw[B7 hi2]
           have:=b1 i _ hb2;rw[E1] at this;exact this
          ·have hb2:(slW s np y)[i-np]? = some ((Z9 R ρ s y)[i]'hi):=by
            rw[← hbi];show _=((I3 0 R ρ).2++slW s np y)[i]?;rw[B6 hi2]
           have hmi:i-np<m.length:=by rw[hml,← A0M s y np];exact(B4.1 hb2).1
           generalize (Z9 R ρ s y)[i]'hi=bb at hb2;cases hmz:m[i-np]? with
           |none=>rw[D1 hmi] at hmz;cases hmz
           |some oj =>
            cases oj with
            |none =>
             obtain⟨A,e⟩:=(hsl' np (i-np)).2 hmz;rw[hb2] at e;cases e;obtain⟨g1,g2⟩:=kR.no _ _ hmz hb2;rw[show(I3 0 R ρ).2.length+(i-np)=i from by show np+(i-np)=i;omega] at g1 g2;exact A7h g1 g2
            |some j =>
             obtain⟨A,o,Z,q1,q2,e⟩:=(hsl' np (i-np)).1 j hmz;rw[hb2] at e;cases e;obtain⟨g1,g2⟩:=kR.so _ _ hmz;rw[show(I3 0 R ρ).2.length+(i-np)=i from by show np+(i-np)=i;omega] at g1 g2;exact A9n (fun _ _ h=>h) hH q1 q2 g1 g2
         ·obtain⟨q,rfl⟩:∃ q,i=nq+q:=⟨i-nq,by omega⟩;rw[hpTm] at hz;cases hF:F[q]? with
          |none=>rw[hF] at hz;cases hz
          |some zz =>
           rw[hF] at hz;simp only[F8,C3] at hz;subst hz;have hq:q<c9 s:=by rw[← hFl];exact(B4.1 hF).1
           obtain⟨z',g1,g2,g3⟩:=hfx np q hq;rw[show(fxW s np y)[q]? = some zz from hF] at g1;cases g1;rw[E1] at g2 g3;cases g2 with
           |gone=>exact hM2c q hF
           |arr e1 e2 =>
            obtain⟨f1,f2⟩:=hM2b q _ hF;exact A9n (fun _ _ h=>h) hH e1 e2 f1 f2
           |bv e1 e2 =>
            obtain⟨f1,f2⟩:=hM2b q _ hF;exact C0w (fun _ _ h=>h) hH e2 e1 f1 f2
           |box e1 e2 e3 e4 =>
            rename_i cs T x o l';obtain⟨f1,f2⟩:=hM2b q _ hF;refine C1Z (fun _ _ h=>h) hH e2 ⟨fun i b e => ?_,fun i j e => ?_,fun i b e e' => ?_⟩ e1 f1 f2
            ·rw[G4];exact kR.hp (o+i) b (e4 i b e)
            ·rw[G4];exact kR.so (o+i) j (e3 i _ e)
            ·rw[G4];exact kR.no (o+i) b (e3 i _ e) (e4 i b e')
        ·rw[A0C];refine b8.2 ⟨fun i hi => ?_,?_⟩
         ·rcases D9 i nq with h|h
          ·rw[(hM2a i h).2];cases hq':(l++m)[i]? with
           |none =>
            have:ℓ' i=[]:=by
             cases hl:ℓ' i with
             |nil=>rfl
             |cons p _=>obtain⟨j,e,_⟩:=k3 i p (by rw[hl];simp);rw[hq'] at e;cases e
            rw[this];simp
           |some o =>
            cases o with
            |none =>
             have:ℓ' i=[]:=by
              cases hl:ℓ' i with
              |nil=>rfl
              |cons p _=>obtain⟨j,e,_⟩:=k3 i p (by rw[hl];simp);rw[hq'] at e;cases e
             rw[this];simp
            |some j =>
             have:=(k1.so i j hq').2;rw[E1] at this;rw[this];exact hD.nd j (by rw[E6,F3];exact hlt j (V6.2 (I8 hq')))
          ·obtain⟨q,rfl⟩:∃ q,i=nq+q:=⟨i-nq,by omega⟩;cases hF:F[q]? with
           |none=>rw[(hM2d q hF).2];simp
           |some z =>
            cases z with
            |none=>rw[(hM2c q hF).2];simp
            |some z =>
             rw[(hM2b q z hF).2];rcases D9 q t.hp.length with hq|hq
             ·exact hD.nd q (by rw[E6,F3];exact hq)
             ·have:∀ p∈ℓ2 (nq+q),False:=fun p hp=>by
               obtain⟨j,_,hl,h⟩:=hsrc _ p hp;rcases h with h|h<;>omega
              rw[← (hM2b q z hF).2];cases hl:ℓ2 (nq+q) with
              |nil=>simp
              |cons p _=>exact(this p (by rw[hl];simp)).elim
         ·rw[O9];intro i i' hi hi' hii x hx y' hy' e;simp only[y9] at hx hy';obtain⟨p,hp,rfl⟩:=C5.1 hx;obtain⟨q,hq,e'⟩:=C5.1 hy';obtain⟨j,m1,l1,g1⟩:=hsrc i p hp;obtain⟨j',m2,l2,g2⟩:=hsrc i' q hq;refine hD.dj j j' (by rw[E6,F3];exact l1) (by rw[E6,F3];exact l2) (fun ee => ?_) p m1 q m2 (e.trans e'.symm);subst ee
          have:=hinj i i' j g1 g2;omega
        ·intro p hp;obtain⟨i,hi,hp⟩:=J6.1 hp;obtain⟨o1,o2,o3⟩:=hown i p hp;exact⟨o1,o3⟩
        ·rw[F3,hpTl] at hk;obtain⟨q,rfl⟩:∃ q,k=nq+q:=⟨k-nq,by omega⟩;exact(hM2d q (T1 (by omega))).1
        ·intro p hp;obtain⟨i,hi,hp⟩:=J6.1 hp;exact(hown i p hp).2.1
        ·cases hF:F[k]? with
         |none=>rw[show M2 ((Z9 R ρ s y).length+k)=none from(hM2d k hF).1] at e1;cases e1
         |some z =>
          cases z with
          |none=>rw[show M2 ((Z9 R ρ s y).length+k)=some none from(hM2c k hF).1] at e1;cases e1
          |some z =>
           rw[show M2 ((Z9 R ρ s y).length+k)=M1 k from(hM2b k z hF).1] at e1;exact hD.mv k m1 m0 e1 e0
      ·cases ht
     cases e with
     |normal =>
      obtain⟨t,k1,k2⟩:=q;exact fin t k1 k2
     |ret =>
      obtain⟨t,ρ',k1,k2,k3⟩:=q;cases k2;exact fin t k1 k3
     |exit i =>
      obtain⟨t,k1,_⟩:=q;cases k1
     |_=>exact q.elim
    ·cases hf
   ·cases hf
 ·cases hf
open Go Go.RowKit
def B3H:PK→Nat
 |.un=>0
 |.d _=>1
 |.ip _=>1
 |.fn _ _=>1
 |.pr a b=>B3H a+B3H b
theorem B1P:∀ (p:PK) (a:d9 p),(A28 p a).length=B3H p
 |.un,_=>rfl
 |.d _,_=>rfl
 |.ip _,_=>rfl
 |.fn _ _,_=>rfl
 |.pr a b,x=>by simp[A28,B3H,B1P a,B1P b]
def A4y(P:Program):List CX→Prop
 |[]=>True
 |cx :: Γ=>A9a P cx∧A4y P Γ
theorem A4y.mem{P:Program}:∀ {Γ:List CX},A4y P Γ→∀ cx∈Γ,A9a P cx
 |[],_,_,h=>by cases h
 |c :: Γ,h,ct,hm=>by
  rcases D8.1 hm with rfl|hm
  ·exact h.1
  ·exact A4y.mem h.2 ct hm
def A5t{R:Type}(Γ:List CX)(Θ:TyO)(Λ:List (LC R))(n:Nat)(res:TS→Option R):List (LC R)→List (Nat×NC)→Prop
 |[],_=>True
 |l :: ls,bs=>H8 Γ Θ Λ n res l (bs.headD (0,.skip)).2∧A5t Γ Θ Λ n res ls bs.tail
def B0t{R:Type}(Λ:List (LC R))(bs:List (Nat×NC)):Bool :=
 d5 (bs.map Prod.fst)&&(bs.map Prod.fst==Λ.map LC.id)
theorem H8.mk{R:Type}{Γ:List CX}{Θ:TyO}{Λ:List (LC R)}{n:Nat}{res:TS→Option R}{l:LC R}{B:NC}(N:Nat)(lp:∀ (Ω:Type),(D3 l.x→Option Ω)→(R→Option Ω)→(D3 l.s→Option Ω)→D3 l.s→Option Ω)
  (h:∀ (Ω:Type) (g:D3 l.s→Option Ω) (kx:D3 l.x→Option Ω) (kr:R→Option Ω) (s:D3 l.s),
   A3T (A25 Γ Θ Λ n res B (fun t=>(A3V n l.q l.s t).bind g) (fun i t=>bif Nat.beq i l.id then(A3V n l.q l.x t).bind kx else none) kr) l.s s=lp Ω kx kr g s)
  (h0:(fun (Ω:Type) (kx:D3 l.x→Option Ω) (kr:R→Option Ω)=>l.run kx kr)=fun Ω kx kr=>D4 (lp Ω kx kr) N:=by rfl):H8 Γ Θ Λ n res l B :=
 ⟨N,lp,fun Ω kx kr s=>congrFun (congrFun (congrFun (congrFun h0 Ω) kx) kr) s,h⟩
theorem B1w{R:Type}{Γ:List CX}{Θ:TyO}{Λ0:List (LC R)}{n:Nat}{res:TS→Option R}:∀ {Λ:List (LC R)} {bs:List (Nat×NC)},(bs.map Prod.fst).Nodup→bs.map Prod.fst=Λ.map LC.id→A5t Γ Θ Λ0 n res Λ bs →
  ∀ id B,(id,B)∈bs→∀ l,A2K Λ id=some l→H8 Γ Θ Λ0 n res l B
 |[],[],_,_,_,id,B,hm,_,_=>by cases hm
 |[],_ :: _,_,h,_,_,_,_,_,_=>by cases h
 |_ :: _,[],_,h,_,_,_,_,_,_=>by cases h
 |l0 :: Λ,b :: bs,hn,he,hl,id,B,hm,l,hlc=>by
  simp only[F6,A6F] at he;rw[F6] at hn;obtain⟨n1,n2⟩:=H9.1 hn;rcases D8.1 hm with rfl|hm
  ·simp only[A2K] at hlc;have:Nat.beq l0.id id=true:=by rw[F4];exact he.1.symm
   rw[this,A4] at hlc;cases hlc;exact hl.1
  ·simp only[A2K] at hlc;have:Nat.beq l0.id id=false:=by
    rw[← w6,F4];intro e;exact n1 (by rw[he.1,e];exact C5.2 ⟨_,hm,rfl⟩)
   rw[this,A9] at hlc;exact B1w n2 he.2 hl.2 id B hm l hlc
theorem J7{P:Program}{f:FuncId}{Γ:List CX}{Θ:TyO}{p:PK}{R:RK}{Λ:List (LC (G8 R))}{F:d9 p→Option (G8 R)}(hs:(nFn P f).isSome=true)(hm:P.follows .mixedOrders=true)(hΓ:A4y P Γ)
  (hi:B0t Λ (V9 (A0I P f).body)=true) (hl:A5t Γ Θ Λ (A0I P f).n (A7S (A0I P f).n R (A0I P f).res) Λ (V9 (A0I P f).body)) (hp:Nat.ble (B3H p) (A0I P f).n=true)
  (hF:∀ a,xfn Γ Θ (A0I P f) p R Λ a=F a):J9 P ⟨f,p,R,F⟩:=by
 obtain⟨nf,hnf⟩:=n6.1 hs;have e:A0I P f=nf:=by unfold A0I;rw[hnf];rfl
 rw[e] at hi hl hp hF;have:F=xfn Γ Θ nf p R Λ:=funext fun a=>(hF a).symm;rw[this];simp only[B0t,A6,j7] at hi;refine C6I hnf hm (fun ct h=>A4y.mem hΓ ct h) (B1w (j5 hi.1) hi.2 hl) fun a => ?_;unfold A6s;rw[C7,B1P];exact H6 hp
open Go Go.RowKit
def A5X{R:Type}(q:Nat):List (LC R)→Bool
 |[]=>true
 |l :: Λ=>Nat.ble q l.q&&A5X q Λ
theorem B0L{R:Type}{q:Nat}:∀ {Λ:List (LC R)},A5X q Λ=true→∀ id l,A2K Λ id=some l→q≤l.q
 |[],_,_,_,h=>by cases h
 |l0 :: Λ,h,id,l,hl=>by
  simp only[A5X,A6] at h;simp only[A2K] at hl;cases hb:Nat.beq l0.id id with
  |true=>rw[hb,A4] at hl;cases hl;exact H6 h.1
  |false=>rw[hb,A9] at hl;exact B0L h.2 id l hl
def B3Q(s:SK):Bool:=(k8 s).all fun k=>Nat.blt k (k8 s).length
theorem A1w{P:Program}{f:FuncId}{Γ:List CX}{Θ:TyO}{s:SK}{R:RK}{Λ:List (LC (G8 R×N9 s))}{F:D3 s→Option (G8 R×N9 s)}(hs:(nFn P f).isSome=true)(hm:P.follows .mixedOrders=true)(hΓ:A4y P Γ)
  (hi:B0t Λ (V9 (A0I P f).body)=true) (hl:A5t Γ Θ Λ (A0I P f).n (A5G (A0I P f).n R (A0I P f).res s) Λ (V9 (A0I P f).body))
  (hp:(Nat.ble (k8 s).length (A0I P f).n&&(B3Q s&&A5X (c9 s) Λ))=true)
  (hF:∀ x,B3X Γ Θ (A0I P f) s R Λ x=F x):t5 P ⟨f,s,R,F⟩:=by
 obtain⟨nf,hnf⟩:=n6.1 hs;have e:A0I P f=nf:=by unfold A0I;rw[hnf];rfl
 rw[e] at hi hl hp hF;have:F=B3X Γ Θ nf s R Λ:=funext fun a=>(hF a).symm;rw[this];simp only[B0t,A6,j7] at hi;simp only[A6] at hp;obtain⟨p1,p3,p4⟩:=hp;refine C50 hnf hm (fun cx h=>A4y.mem hΓ cx h) (B1w (j5 hi.1) hi.2 hl) (B0L p4) (fun k hk => ?_) (H6 p1);unfold B3Q at p3;rw[D6] at p3;have:=p3 k hk
 rwa [Q5] at this
theorem A1i{P:Program}{f:FuncId}{nf:NF}(hn:nFn P f=some nf){Γ:List CX}{Θ:TyO}{p:PK}{R:RK}{Λ:List (LC (G8 R))}{F:d9 p→Option (G8 R)}(hm:P.follows .mixedOrders=true)(hΓ:A4y P Γ)
  (hi:B0t Λ (V9 nf.body)=true) (hl:A5t Γ Θ Λ nf.n (A7S nf.n R nf.res) Λ (V9 nf.body)) (hp:Nat.ble (B3H p) nf.n=true)
  (hF:∀ a,xfn Γ Θ nf p R Λ a=F a):J9 P ⟨f,p,R,F⟩:=by
 have e:A0I P f=nf:=by unfold A0I;rw[hn];rfl
 subst e;exact J7 (by rw[hn];rfl) hm hΓ hi hl hp hF
theorem B2c{P:Program}{f:FuncId}{nf:NF}(hn:nFn P f=some nf){Γ:List CX}{Θ:TyO}{s:SK}{R:RK}{Λ:List (LC (G8 R×N9 s))}{F:D3 s→Option (G8 R×N9 s)}(hm:P.follows .mixedOrders=true)(hΓ:A4y P Γ)
  (hi:B0t Λ (V9 nf.body)=true) (hl:A5t Γ Θ Λ nf.n (A5G nf.n R nf.res s) Λ (V9 nf.body))
  (hp:(Nat.ble (k8 s).length nf.n&&(B3Q s&&A5X (c9 s) Λ))=true)
  (hF:∀ x,B3X Γ Θ nf s R Λ x=F x):t5 P ⟨f,s,R,F⟩:=by
 have e:A0I P f=nf:=by unfold A0I;rw[hn];rfl
 subst e;exact A1w (by rw[hn];rfl) hm hΓ hi hl hp hF
open Go Go.RowKit
mutual
def tyS:SH→Ty
 |.b=>.bl
 |.i k=>.i k
 |.s=>.tx
 |.sl _ _ _ e=>.sl (tyS e)
 |.st l=>.st (tyL l)
def tyL:List SH→Ty
 |[]=>.bl
 |[x]=>tyS x
 |x :: y :: l=>.pr (tyS x) (tyL (y :: l))
end
mutual
def okS:SH→Bool
 |.sl sz b ag e=>Nat.beq sz (tyS e).sz&&(Nat.blt 0 b&&(ag==(tyS e).ag&&okS e))
 |.st l => !l.isEmpty&&okL l
 |_=>true
def okL:List SH→Bool
 |[]=>true
 |x :: l=>okS x&&okL l
end
@[reducible] def good:(T:Ty)→Den T→Prop
 |.i k,x=>k.min≤x∧x≤k.max
 |.bl,_=>True
 |.tx,x=>x.size≤reachBytes
 |.sl t,x=>x.length≤reachBytes∧∀ y∈x,good t y
 |.sv t,x=>x.length≤reachBytes∧∀ y∈x,good t y
 |.ar _ k,x=>∀ y∈x,k.min≤y∧y≤k.max
 |.pr a b,x=>good a x.1∧good b x.2
 |.st t,x=>good t x
mutual
theorem B0b:∀ (sh:SH),okS sh=true→∀ xs,shC sh xs→∃ d:Den (tyS sh),xs=cls false (tyS sh) d∧good (tyS sh) d
 |.b,_,xs,h=>by
  obtain⟨b,rfl⟩:=h;exact⟨b,rfl,trivial⟩
 |.i k,_,xs,h=>by
  obtain⟨n,h1,h2,rfl⟩:=h;exact⟨n,rfl,h1,h2⟩
 |.s,_,xs,h=>by
  obtain⟨t,h1,rfl⟩:=h;exact⟨t,rfl,h1⟩
 |.sl sz b ag e,hok,xs,h=>by
  simp only[okS,A6,F4,Q5,j7] at hok;obtain⟨rfl,hb,rfl,he⟩:=hok;obtain⟨rows,h1,h2,rfl⟩:=h;have:∃ L:List (Den (tyS e)),rows=L.map (cls false (tyS e))∧∀ y∈L,good (tyS e) y:=by
   clear h2;induction rows with
   |nil=>exact⟨[],rfl,fun _ h=>by cases h⟩
   |cons r rows ih =>
    obtain⟨d,e1,e2⟩:=B0b e he r (h1 r (by simp));obtain⟨L,e3,e4⟩:=ih fun r hr=>h1 r (by simp[hr]);refine⟨d :: L,by rw[e1,e3];rfl,fun y hy => ?_⟩;rcases D8.1 hy with rfl|hy
    ·exact e2
    ·exact e4 y hy
  obtain⟨L,rfl,hg⟩:=this;refine⟨L,?_,?_,hg⟩
  ·show [AV.sl false (tyS e).sz ((L.map (cls false (tyS e))).map (mkr (tyS e).ag))]=[AV.sl false (tyS e).sz (L.map fun y=>mkr (tyS e).ag (cls false (tyS e) y))];rw[H7];rfl
  ·rw[C7] at h2;exact S2 (A2G _ hb) h2
 |.st l,hok,xs,h=>by
  simp only[okS,A6,M6,List.isEmpty_eq_false_iff] at hok;exact B6R l hok.1 hok.2 xs h
theorem B6R:∀ (l:List SH),l≠[]→okL l=true→∀ xs,B9f l xs→∃ d:Den (tyL l),xs=cls false (tyL l) d∧good (tyL l) d
 |[],h0,_,_,_=>absurd rfl h0
 |[x],_,hok,xs,h=>by
  simp only[okL,A6] at hok;obtain⟨ys,zs,h1,h2,rfl⟩:=h;obtain⟨d,e1,e2⟩:=B0b x hok.1 ys h1;have h2:zs=[]:=h2;subst h2;exact⟨d,by rw[D5,e1];rfl,e2⟩
 |x :: y :: l,_,hok,xs,h=>by
  simp only[okL,A6] at hok;obtain⟨ys,zs,h1,h2,rfl⟩:=h;obtain⟨d,e1,e2⟩:=B0b x hok.1 ys h1;obtain⟨d',e3,e4⟩:=B6R (y :: l) (by simp) (by simp only[okL,A6];exact hok.2) zs h2;exact⟨(d,d'),by rw[e1,e3];rfl,e2,e4⟩
end
def C7l(P:Program)(m:Nat)(t:TypeId)(T:Ty):Bool :=
 match A9w P m t with
 |some sh=>okS sh&&(decide (tyS sh=T)&&(K9 P t==T.ag))
 |none=>false
section
variable {H:Type} {enc:TypeId×Value→H} {P:Program} {W:World} {spare:Nat→Bool} {held:Bool} {M:MT}
theorem C62{m base:Nat}{t:TypeId}{T:Ty}(hsh:C7l P m t T=true){v:Value}{d:DataW H}{ps:List MemPlace}(hok:Value.okWide P W .any base t v)(ht:DataW.Trod enc P W 0 spare held t v d ps)(hw:∀ n∈DataW.weights P t d,n≤reachBytes) :
  ∃ x:Den T,good T x∧Rep W (A4l W) M (Nx.enc false T x) v []:=by
 unfold C7l at hsh;split at hsh
 ·rename_i sh hs;simp only[A6,D7,j7] at hsh;obtain⟨h1,rfl,h3⟩:=hsh;obtain⟨xs,k1,k2⟩:=C7k (M:=M) hs hok ht hw;obtain⟨x,rfl,k3⟩:=B0b sh h1 xs k1;rw[h3] at k2;exact⟨x,k3,k2⟩
 ·cases hsh
end
theorem C19{P:Program}{W:World}{p:PK}{F:d9 p→Option Bool}{f:FuncId}(hc:J9 P ⟨f,p,.t .bl,F⟩){a:d9 p}(hF:F a=some true){vs:List Value}(hr:F5 W (A4l W) (fun _=>none) (A6s p a) vs []) :
  Calls P f ⟨vs⟩ W fun e W'=>e=.returned (.bool true)∧Below W.heap.size W W' :=
 C0K (hc a true hF) hr
end Go.Proofs.YtkmhopbmpeiofaaGreat.Nx
namespace Go.Proofs.YtkmhopbmpeiofaaGreat.Nx
open Go Go.RowKit
abbrev Big(N:Nat):Prop:=1099511627776≤N
@[reducible] def okz:(T:Ty)→Den T→Prop
 |.i _,_=>True
 |.bl,_=>True
 |.tx,x=>x.size≤1048576
 |.sl t,x=>x.length≤1048576∧∀ y∈x,okz t y
 |.sv t,x=>x.length≤1048576∧∀ y∈x,okz t y
 |.ar _ _,x=>x.length≤1048576
 |.pr a b,x=>okz a x.1∧okz b x.2
 |.st t,x=>okz t x
theorem w64{x:Int}(h1 : -9223372036854775808≤x)(h2:x≤9223372036854775807):wrap64 x=x:=Go.IntWalk.wrap64_in x ⟨h1,h2⟩
theorem I5{i n:Nat}(h:i≤n)(hn:n≤140737488355328):wrap64 ((i:Int)+1)=((i+1:Nat):Int):=by
 rw[w64 (by omega) (by omega)];rfl
theorem dT{p:Prop}[Decidable p](h:p):decide p=true:=O5 h
theorem dF{p:Prop}[Decidable p](h:¬p):decide p=false:=T4 h
theorem B8B{α:Type}(L:List α){i:Nat}(h:i<L.length):(decide (0≤(i:Int))&&decide ((i:Int)<(L.length:Int)))=true:=by
 simp only[A6,D7];omega
theorem E3{α:Type}(L:List α){i:Nat}(h:i<L.length):decide ((i:Int)<(L.length:Int))=true:=O5 (by omega)
theorem E2(i:Nat):decide (0≤(i:Int))=true:=O5 (by omega)
theorem F2{α:Type}(L:List α){i:Nat}(h:i<L.length)(d:α):L.getD ((i:Int)).toNat d=L[i]:=by
 rw[C6];simp[List.getD,h]
theorem X3{α:Type}{L:List α}{i:Nat}(h:i<L.length):L.drop i=L[i] :: L.drop (i+1):=X8 h
section D4
variable {σ R:Type} {B:(σ→Option R)→σ→Option R}
theorem S3{A:Type}(st:Nat→A→σ)(Q:Nat→A→Option R→Prop)(n:Nat)
  (h1:∀ i a rec_,i<n→(∀ a',Q (i+1) a' (rec_ (st (i+1) a')))→Q i a (B rec_ (st i a)))
  (h2:∀ a rec_,Q n a (B rec_ (st n a))):∀ N,n<N→∀ a,Q 0 a (D4 B N (st 0 a)):=by
 have key:∀ k i N,i+k=n→k<N→∀ a,Q i a (D4 B N (st i a)):=by
  intro k;induction k with
  |zero =>
   intro i N hi hN a;obtain⟨M,rfl⟩:∃ M,N=M+1:=⟨N-1,by omega⟩;have:i=n:=by omega
   subst this;exact h2 a _
  |succ k ih =>
   intro i N hi hN a;obtain⟨M,rfl⟩:∃ M,N=M+1:=⟨N-1,by omega⟩;exact h1 i a _ (by omega) fun a'=>ih (i+1) M (by omega) (by omega) a'
 exact fun N hN a=>key n 0 N (by omega) hN a
theorem f7{α:Type}(L:List α)(st:Nat→σ)(F:Nat→List α→Option R)
  (h1:∀ i (h:i<L.length) rec_,rec_ (st (i+1))=F (i+1) (L.drop (i+1))→B rec_ (st i)=F i (L[i] :: L.drop (i+1)))
  (h2:∀ rec_,B rec_ (st L.length)=F L.length []) {N:Nat} (hN:L.length<N):D4 B N (st 0)=F 0 L:=by
 have:=S3 (B:=B) (A:=Unit) (fun i _=>st i) (fun i _ r=>r=F i (L.drop i)) L.length
  (fun i a rec_ hi h=>by rw[X3 hi];exact h1 i hi rec_ (h ()))
  (fun a rec_=>by rw[Q9];exact h2 rec_) N hN ()
 rwa [N8] at this
theorem A6i{α A:Type}(L:List α)(st:Nat→A→σ)(F:Nat→A→List α→Option R)
  (h1:∀ i (h:i<L.length) a rec_,(∀ a',rec_ (st (i+1) a')=F (i+1) a' (L.drop (i+1)))→B rec_ (st i a)=F i a (L[i] :: L.drop (i+1)))
  (h2:∀ a rec_,B rec_ (st L.length a)=F L.length a []) {N:Nat} (hN:L.length<N) (a:A):D4 B N (st 0 a)=F 0 a L:=by
 have:=S3 (B:=B) st (fun i a r=>r=F i a (L.drop i)) L.length
  (fun i a rec_ hi h=>by rw[X3 hi];exact h1 i hi a rec_ h)
  (fun a rec_=>by rw[Q9];exact h2 a rec_) N hN a
 rwa [N8] at this
end D4
def A43(f:Int→Option Int)(P:Prop):Prop:=∀ a,0≤a→a≤1048576→∃ r,f a=some r∧(r<0∨(0≤r∧r≤a∧P))
theorem A43.mono{f:Int→Option Int}{P Q:Prop}(h:A43 f P)(hq:P→Q):A43 f Q:=fun a h1 h2=>by
 obtain⟨r,e,h3⟩:=h a h1 h2;exact⟨r,e,h3.imp id fun h=>⟨h.1,h.2.1,hq h.2.2⟩⟩
theorem A43.last{f:Int→Option Int}{P:Prop}(h:A43 f P):A43 (fun a=>(f a).bind fun r=>bif decide (r<0) then some (-1) else some r) P:=fun a h1 h2=>by
 obtain⟨r,e,h3⟩:=h a h1 h2;show ∃ r,((f a).bind _)=_∧_;rw[e];rcases h3 with h3|h3
 ·exact⟨-1,by show(bif _ then _ else _)=_;rw[dT h3];rfl,.inl (by omega)⟩
 ·exact⟨r,by show(bif _ then _ else _)=_;rw[dF (by omega)];rfl,.inr h3⟩
theorem A43.bind{f g:Int→Option Int}{P Q:Prop}(h:A43 f P)(hg:A43 g Q):A43 (fun a=>(f a).bind fun r=>bif decide (r<0) then some (-1) else g r) (P∧Q):=fun a h1 h2=>by
 obtain⟨r,e,h3⟩:=h a h1 h2;show ∃ r,((f a).bind _)=_∧_;rw[e];rcases h3 with h3|h3
 ·exact⟨-1,by show(bif _ then _ else _)=_;rw[dT h3];rfl,.inl (by omega)⟩
 ·obtain⟨r',e',h4⟩:=hg r h3.1 (by omega);refine⟨r',by show(bif _ then _ else _)=_;rw[dF (by omega)];exact e',h4.imp id fun h=>⟨h.1,by omega,h3.2.2,h.2.2⟩⟩
theorem A43.len{n:Nat}(hn:n≤reachBytes):A43 (fun a=>bif decide (wrap64 (a-(n:Int))<0) then some (-1) else some (wrap64 (a-(n:Int)))) (n≤1048576):=fun a h1 h2=>by
 have hn:n≤140737488355328:=by have:=hn;unfold reachBytes at this;omega
 show ∃ r,(bif _ then _ else _)=_∧_;rw[w64 (by omega) (by omega)];by_cases h:a-(n:Int)<0
 ·exact⟨-1,by rw[dT h];rfl,.inl (by omega)⟩
 ·exact⟨_,by rw[dF h];rfl,.inr ⟨by omega,by omega,by omega⟩⟩
theorem B3s{t:Ty}{d:Den t}{L:List (Den t)}(hL:okz (.sl t) L){f:Den t→Den t→Option Bool}(hf:∀ x,okz t x→f x x=some true){N:Nat}(hN:Big N)
  {B:((List (Den t)×List (Den t)×Int)→Option Bool)→(List (Den t)×List (Den t)×Int)→Option Bool}
  (hB:∀ rec_ s0 s1 s5,B rec_ (s0,s1,s5)=(bif (decide (s5<(s0.length:Int))) then(bif (decide (0≤s5)&&decide (s5<s0.length)) then(bif (decide (0≤s5)&&decide (s5<s1.length)) then(f (s0.getD s5.toNat d) (s1.getD s5.toNat d)).bind fun r1=>(bif (!r1) then some false else rec_ (s0,s1,(wrap64 (s5+(1:Int))))) else none) else none) else some true)) :
  (bif (!decide ((L.length:Int)=(L.length:Int))) then some false else D4 B N (L,L,(0:Int)))=some true:=by
 have hl:=hL.1;have hN':1099511627776≤N:=hN;rw[dT rfl];exact S3 (B:=B) (A:=Unit) (fun i _=>(L,L,(i:Int))) (fun i _ r=>r=some true) L.length
  (fun i a rec_ hi h=>by
   rw[hB];simp only[E3 L hi,E2 i,D0,A4];rw[F2 L hi,hf _ (hL.2 _ (C2 hi)),A3,I5 (B9 i) (by omega)];exact h ())
  (fun a rec_=>by rw[hB,dF (by omega)];rfl) N (by omega) ()
theorem C27{P:Program}{f:FuncId}{F:ByteArray→ByteArray→Int}(hg:Go.Proofs.YtkmhopbmpeiofaaGreat.Nx.Good P f)(h:∀ a b w,Calls P f #[.string a,.string b] w fun e w'=>e=.returned (.int .i64 (F a b))∧w'=w) :
  J9 P ⟨f,.pr (.d .tx) (.d .tx),.t (.i .i64),fun a=>some (F a.1 a.2)⟩:=by
 intro a r hr;cases hr;refine⟨hg,fun w N M L vs he hv => ?_⟩;have hvs:vs=[.string a.1,.string a.2]:=B1n (us:=[.string a.1,.string a.2]) hv;subst hvs;have hL:L=[]:=by cases he.hr;rfl
 subst hL;refine(h a.1 a.2 w).mono fun e w' ⟨e1,e2⟩ => ?_;subst e1;subst e2;refine⟨_,rfl,A5z (.t (.i .i64)) (F a.1 a.2),A3K (.t (.i .i64)) (F a.1 a.2),N,M,[],⟨rfl,rfl⟩,.val _,he,FrN.refl _ _ _,fun k m m0 h1 h2 => ?_,fun _ _ h=>h,fun _ _ h=>.inl h,fun p hp=>by cases hp⟩;rw[h1] at h2;cases h2;exact⟨B9 _,fun _=>rfl⟩
open Go Go.RowKit
theorem B24{k:Nat}(hk:k≤140737488355328):wrap64 (((k+1:Nat):Int)-1)=(k:Int):=by
 rw[w64 (by omega) (by omega)];omega
def i6{α:Type}(p:Nat→α→Bool):Nat→List α→Bool
 |_,[]=>true
 |i,x :: xs=>p i x&&i6 p (i+1) xs
theorem A9y{α:Type}(p:Nat→α→Bool)(i:Nat)(x:α)(xs:List α):i6 p i (x :: xs)=(p i x&&i6 p (i+1) xs):=rfl
def Y1{α:Type}(p:α→Bool):Nat→List α→Int
 |_,[] => -1
 |i,x :: xs=>bif p x then i else Y1 p (i+1) xs
theorem A3O{α:Type}(p:α→Bool)(i:Nat)(x:α)(xs:List α):Y1 p i (x :: xs)=bif p x then(i:Int) else Y1 p (i+1) xs:=rfl
theorem A3r{α:Type}(p:α→Bool):∀ (l:List α) (i:Nat),decide (0≤Y1 p i l)=l.any p
 |[],i=>rfl
 |x :: xs,i=>by
  unfold Y1;rw[P6];cases p x
  ·exact A3r p xs (i+1)
  ·exact O5 (by show(0:Int)≤(i:Int);omega)
theorem B1F{α:Type}(p:α→Bool):∀ (l:List α) (i:Nat),Y1 p i l = -1∨∃ j,i≤j∧j<i+l.length∧Y1 p i l=(j:Int)
 |[],i=>.inl rfl
 |x :: xs,i=>by
  unfold Y1;cases p x
  ·rcases B1F p xs (i+1) with h|⟨j,h1,h2,h3⟩
   ·exact .inl h
   ·exact .inr ⟨j,by omega,by simp only[B5];omega,h3⟩
  ·exact .inr ⟨i,B9 _,by simp only[B5];omega,rfl⟩
theorem A7u{α:Type}(p:α→Bool):∀ (l:List α) (i:Nat),i6 (fun _=>p) i l=l.all p
 |[],i=>rfl
 |x :: xs,i=>by unfold i6;rw[d3,A7u p xs]
theorem A37{α σ R:Type}{B:(σ→Option R)→σ→Option R}(L:List α)(st:Nat→σ)(p:Nat→α→Bool)(a b:Option R)
  (h1:∀ i (h:i<L.length) rec_,B rec_ (st i)=bif p i L[i] then rec_ (st (i+1)) else b) (h2:∀ rec_,B rec_ (st L.length)=a) {N:Nat} (hN:L.length<N) :
  D4 B N (st 0)=bif i6 p 0 L then a else b :=
 f7 L st (fun i l=>bif i6 p i l then a else b) (fun i hi rec_ h=>by rw[h1 i hi,h,A9y];cases p i L[i]<;>rfl) (fun rec_=>h2 rec_) hN
theorem A3R{α C:Type}{d:α}{L:List α}(hL:L.length≤1099511627775)(c:C){f:α→Option Bool}(p:α→Bool)(hf:∀ x∈L,f x=some (p x)){N:Nat}(hN:Big N)
  {B:((List α×C×Int×Int)→Option Int)→(List α×C×Int×Int)→Option Int}
  (hB:∀ rec_ s0 s7 s8,B rec_ (s0,c,s7,s8)=(bif (decide (s8<s7)) then(bif (decide (0≤s8)&&decide (s8<s0.length)) then(f (s0.getD s8.toNat d)).bind fun r1=>(bif r1 then some s8 else rec_ (s0,c,s7,(wrap64 (s8+(1:Int))))) else none) else some (-1))) :
  D4 B N (L,c,(L.length:Int),(0:Int))=some (Y1 p 0 L):=by
 have hN':1099511627776≤N:=hN;refine f7 L (fun i=>(L,c,(L.length:Int),(i:Int))) (fun i l=>some (Y1 p i l)) (fun i hi rec_ h => ?_) (fun rec_ => ?_) (by omega)
 ·rw[hB];simp only[E3 L hi,E2 i,D0,A4,F2 L hi,I5 (B9 i) (by omega:i≤140737488355328),h,hf _ (C2 hi),A3];rw[A3O];cases p L[i]<;>rfl
 ·rw[hB,dF (M9 _)];rfl
open Go Go.RowKit
section
variable {α:Type}
theorem gD0(P S:List α)(x d:α):(P++x :: S).getD P.length d=x:=by simp[List.getD]
theorem gD1(P S:List α)(x y d:α):(P++x :: y :: S).getD (P.length+1) d=y:=by simp[List.getD]
theorem st0(P S:List α)(x y:α):(P++x :: S).set P.length y=P++y :: S:=by
 rw[A1n _ _ (B9 _),R7];rfl
theorem st1(P S:List α)(x y z:α):(P++x :: y :: S).set (P.length+1) z=P++x :: z :: S:=by
 rw[A1n _ _ (by omega),show P.length+1-P.length=1 by omega];rfl
theorem gDm(P M S:List α)(x y d:α){k:Nat}(hk:k=P.length+1+M.length):(P++x :: (M++y :: S)).getD k d=y:=by
 subst hk;have:=gD0 (P++x :: M) S y d;rw[F9,Y9,A5,B5] at this;rw[show P.length+1+M.length=P.length+(M.length+1) by omega];exact this
theorem stm(P M S:List α)(x y z:α){k:Nat}(hk:k=P.length+1+M.length):(P++x :: (M++y :: S)).set k z=P++x :: (M++z :: S):=by
 subst hk;have:=st0 (P++x :: M) S y z;rw[F9,F9,Y9,Y9,A5,B5] at this;rw[show P.length+1+M.length=P.length+(M.length+1) by omega];exact this
theorem wN{x:Int}{n:Nat}(h:x=(n:Int))(hn:n≤140737488355328):wrap64 x=(n:Int):=by
 rw[w64 (by omega) (by omega)];exact h
theorem inr{n k:Nat}(h:k<n):(decide (0≤(k:Int))&&decide ((k:Int)<(n:Int)))=true:=by
 simp only[A6,D7];omega
end
theorem A7o{α:Type}{a b:List α}(h:b.length=a.length):Nat.beq a.length b.length=true:=by rw[F4];exact h.symm
section marks
variable {α:Type}
variable {Ω:Type} {B:((List α×Int×Int)→Option Ω)→(List α×Int×Int)→Option Ω}
theorem C8C(pre post:List α)(y:α):decide ((pre.length:Int)<((pre++y :: post).length:Int))=true:=O5 (by simp only[A5,B5];omega)
theorem Y5(L:List α):decide ((L.length:Int)<(L.length:Int))=false:=T4 (M9 _)
theorem C8X(n:Nat):decide (0≤(n:Int))=true:=O5 (by omega)
end marks
end Go.Proofs.YtkmhopbmpeiofaaGreat.Nx
