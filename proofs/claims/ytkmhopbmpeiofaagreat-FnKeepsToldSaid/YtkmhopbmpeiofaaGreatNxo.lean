/- Calls that write into what is lent: sound, with no condition beyond those each lemma names. -/
import Derived.Test.YtkmhopbmpeiofaaGreatNxn
set_option linter.unusedVariables false
set_option linter.unusedSimpArgs false
namespace Go.Proofs.YtkmhopbmpeiofaaGreat.Nx
open Go Go.RowKit
def B1d:Nat→List AV→List (Nat×AV)
 |_,[]=>[]
 |k,x :: xs=>(k,x) :: B1d (k+1) xs
theorem B8p{n:Nat}:∀ {args:List AV} {k t:Nat},k+args.length≤n→lk n t (B1d k args)=if k≤t then args.getD (t-k) .any else .any
 |[],k,t,_=>by simp[B1d,lk]
 |x :: xs,k,t,h=>by
  simp only[B5] at h;simp only[B1d,lk];split
  ·rename_i e;subst e;rw[E9 (by omega),E9 (by omega)];simp
  ·rename_i e;rw[B8p (by omega)];by_cases h1:k+1≤t
   ·rw[E9 h1,E9 (by omega),show t-k=(t-(k+1))+1 from by omega];simp
   ·rw[G6 h1,G6 (by omega)]
theorem C4W{xs ys:List AV}(hl:xs.length=ys.length)(h:∀ i,xs.getD i .any=ys.getD i .any):xs=ys:=by
 apply A1B hl;intro i h1 h2;have:=h i;simpa[B3,h1,h2] using this
theorem C2O{n:Nat}{args:List AV}{hp:HP}(h:args.length≤n):(⟨args++List.replicate (n-args.length) .any,hp⟩:AS)=E n hp (B1d 0 args):=by
 unfold E;congr 1;refine C4W (by rw[B4Y];simp;omega) fun i => ?_;rw[B9L,B8p (by omega)];simp only[P1,H1,Nat.sub_zero];rw[B3,B3];rcases D9 i args.length with hi|hi
 ·rw[B7 hi]
 ·rw[B6 hi,T1 hi,d7];split<;>rfl
theorem B1t(hp:THP):∀ (k:Nat) (xs:List TV),B1d k (xs.map (av hp))=(A1f k xs).map fun p=>(p.1,av hp p.2)
 |_,[]=>rfl
 |k,x :: xs=>by simp only[F6,B1d,A1f,B1t hp (k+1) xs]
section
variable {n:Nat} {t:TS}
theorem B4a(hp:THP)(xs:List TV):(D2 xs.length ⟨A1f 0 xs,hp⟩).sl=xs.map (av hp):=by
 have h:(xs.map (av hp)).length≤xs.length:=by simp
 have:=C2O (n:=xs.length) (args:=xs.map (av hp)) (hp:=F1 hp) h;unfold D2;show(E xs.length (F1 hp) ((A1f 0 xs).map fun p=>(p.1,av hp p.2))).sl=_;rw[← B1t,← this];simp
theorem BR.data{w:World}{N N':NT}{M M':MT}{h h':THP}{B:Ty}{Y:List (Den B)}{m:Cn}{L:List Nat}(hv:B.nov=true)(r:BR w N M (tb h (.arr B true Y)) m L):BR w N' M' (tb h' (.arr B true Y)) m L:=by
 have hf:i7 ((Y.map (enc true B)).flatMap AV.cells)=true:=A6Y (by
  rw[d4,X5,D6];exact fun y _=>A8V B hv y)
 refine⟨r.len,r.sz,r.fr,r.cl,?_,r.vt,r.rm,r.lo,fun i hi=>by simp[tb] at hi,r.f0⟩;have r1:=r.rep.freshN (N':=N') hf;exact r1.lowM (M':=M') (n:=0) (fun j hj=>by omega) (A3c 0 true B Y)
theorem BR.dataS{w:World}{N:NT}{M M':MT}{h h':THP}{B:Ty}{Y:List (Den B)}{m:Cn}{L:List Nat}(r:BR w N M (tb h (.arr B true Y)) m L):BR w N M' (tb h' (.arr B true Y)) m L:=by
 refine⟨r.len,r.sz,r.fr,r.cl,?_,r.vt,r.rm,r.lo,fun i hi=>by simp[tb] at hi,r.f0⟩;exact r.rep.lowM (M':=M') (n:=0) (fun j hj=>by omega) (A3c 0 true B Y)
theorem C2P{n:Nat}{t:TS}:∀ (s:SK) (x:D3 s) (t':TS),S6 n t t' s=some x→∀ j∈L8 (I6 n t s),∃ z,t.hp[j]? = some (some z):=by
 have sr:∀ {base:Nat} {cs cs':List TV} {l:List (Option Nat)} {B:List TB},SR t.hp base cs cs' l B→∀ j∈L8 l,∃ z,t.hp[j]? = some (some z):=by
  intro base cs cs' l B h;induction h with
  |nil=>intro j hj;simp[L8] at hj
  |leaf _ _ ih=>exact ih
  |own h1 _ _ ih =>
   intro j hj;simp only[L8,D8] at hj;rcases hj with rfl|hj
   ·exact⟨_,h1⟩
   ·exact ih j hj
  |none _ ih=>exact ih
 have app:∀ (a b:List (Option Nat)) (j:Nat),j∈L8 (a++b)↔j∈L8 a∨j∈L8 b:=fun a b j=>by simp[V6]
 intro s;induction s with
 |un|d|fn|ip|al=>intro x t' _ j hj;simp[I6,L8] at hj
 |sum a b=>intro x t' h;cases h
 |lg k T =>
  intro x t' hc j hj;simp only[S6] at hc;split at hc
  ·rename_i i e;simp only[I6,e,L8,C1] at hj;subst hj;split at hc
   ·rename_i e2;exact⟨_,e2⟩
   ·rename_i e2;exact⟨_,e2⟩
   ·cases hc
  ·rename_i e;simp[I6,e,L8] at hj
  ·cases hc
 |av k m1 K =>
  intro x t' hc j hj;simp only[S6] at hc;split at hc
  ·rename_i i row off e;simp only[I6,e,L8,C1] at hj;subst hj;cases hb:(Nat.beq row 0&&Nat.beq off 0) with
   |false=>rw[hb] at hc;cases hc
   |true =>
    rw[hb,A4] at hc;split at hc
    ·rename_i cs e2;exact⟨_,e2⟩
    ·cases hc
  ·cases hc
 |o k T|mo k T =>
  intro x t' hc j hj;simp only[S6] at hc;split at hc
  ·rename_i i e;simp only[I6,e,L8,C1] at hj;subst hj;split at hc
   ·rename_i e2;exact⟨_,e2⟩
   ·cases hc
  ·rename_i e;simp[I6,e,L8] at hj
  ·cases hc
 |bx k T =>
  intro x t' hc j hj;simp only[S6] at hc;split at hc
  ·rename_i i row off e;cases hb:(Nat.beq row 0&&Nat.beq off 0) with
   |false=>rw[hb] at hc;cases hc
   |true =>
    rw[hb,A4] at hc;split at hc
    ·rename_i cs e2;split at hc
     ·rename_i y l hz;obtain⟨c1,_,k1⟩:=j8 t.hp T cs _ l [] hz;simp only[I6,e,e2,hz] at hj;rcases (app _ _ _).1 hj with h|h
      ·exact sr (k1 0) j h
      ·simp only[L8,C1] at h;subst h;exact⟨_,e2⟩
     ·cases hc
    ·cases hc
  ·cases hc
 |bv k T =>
  intro x t' hc j hj;simp only[S6] at hc;split at hc
  ·rename_i i row off e;simp only[I6,e,L8,C1] at hj;subst hj;cases hb:(Nat.beq row 0&&Nat.beq off 0) with
   |false=>rw[hb] at hc;cases hc
   |true =>
    rw[hb,A4] at hc;split at hc
    ·rename_i cs e2;exact⟨_,e2⟩
    ·cases hc
  ·cases hc
 |ow k T =>
  intro x t' hc j hj;simp only[S6] at hc;split at hc
  ·rename_i cs e;split at hc
   ·rename_i y l hz;obtain⟨c1,_,k1⟩:=j8 t.hp T cs _ l [] hz;simp only[I6,e,hz] at hj;exact sr (k1 0) j hj
   ·cases hc
  ·cases hc
 |pr a b iha ihb =>
  intro x t' hc j hj;simp only[S6] at hc;split at hc
  ·rename_i x1 x2 h1 h2;simp only[I6] at hj;rcases (app _ _ _).1 hj with h|h
   ·exact iha x1 t' h1 j h
   ·exact ihb x2 t' h2 j h
  ·cases hc
theorem B7U{P:Program}{S:Bool}{Ω:Type}{r:Ω}{cm:CM}(hcm:t5 P cm)(hSt:S=true){xs:List TV}{d:Option Nat}{k:TS→Option Ω}(hlen:xs.length=(k8 cm.s).length)(hfl:A5Q cm.s=true∧A23 cm.R=true)(h:(match B1c xs.length cm.s ⟨A1f 0 xs,t.hp⟩ with
  |some x=>(cm.F x).bind fun r=>k ((t.back (I6 xs.length ⟨A1f 0 xs,t.hp⟩ cm.s) (fxW cm.s (t.hp.length+(I3 t.hp.length cm.R r.1).2.length) r.2)
    ((I3 t.hp.length cm.R r.1).2++slW cm.s (t.hp.length+(I3 t.hp.length cm.R r.1).2.length) r.2)).put d (A00 (I3 t.hp.length cm.R r.1).1))
  |none=>none)=some r) :
  A2s P S (D2 n t) cm.f (xs.map (av t.hp)) d (Kt k r n):=by
  split at h
  case h_2=>cases h
  rename_i x hm;obtain⟨⟨ρ,y⟩,hF,hk⟩:=U7.1 h;obtain⟨hlw,hgood,hcall⟩:=hcm x (ρ,y) hF;refine .m hSt hgood fun C act w N M L vs hcd hr => ?_;obtain⟨ℓ,hD⟩:=hcd.fn
  let tA:TS:=⟨A1f 0 xs,t.hp⟩
  let X':List Nat:=((List.range t.hp.length).flatMap ℓ).map Prod.fst
  let C':Ctx:=⟨w,X',N,fun _=>none⟩
  have hhp:(D2 xs.length tA).hp=(D2 n t).hp:=by rw[E6,E6]
  have hlh:(D2 n t).hp.length=t.hp.length:=by rw[E6,F3]
  have hA:R9 C' (D2 xs.length tA) { tmps:=⟨vs⟩,defers:=[] } w N M ℓ:=by
   refine⟨rfl,?_,fun i z hz=>hD.hp i z (by rw[← hhp];exact hz),fun i hi=>hD.nd i (by rw[← hhp];exact hi),fun i j hi hj=>hD.dj i j (by rw[← hhp];exact hi) (by rw[← hhp];exact hj),fun i hi p hp => ?_,hD.nlt,fun _ _ h=>h,fun _ _ h=>.inl h,FrN.refl _ _ _,fun k hk=>hD.un k (by rw[← hhp];exact hk),fun _ _ _ _ h0=>(by cases h0),fun _ _=>rfl⟩
   ·rw[B4a];exact hr
   ·rw[hhp] at hi;obtain⟨o1,o2,o3⟩:=hD.own i hi p hp;exact⟨o1,.inr (L9 (J6.2 ⟨i,R8.2 (by rw[← hlh];exact hi),hp⟩)),o3⟩
  obtain⟨N1,M1,ℓ1,hE,hK,hN,hnd,hlt,hul,t',hcan⟩:=A8W (C:=C') (q:=0) (fun _ _=>rfl) rfl hm hA;have hE':=hE.d;have hpl:(D2 xs.length (mkS cm.s x)).hp.length=(ust 0 cm.s x).2.length:=by rw[E6,F3];simp[mkS]
  let n0:=t.hp.length
  let np:=(I3 0 cm.R ρ).2.length
  let resB':=Z9 cm.R ρ cm.s y
  let nq:=resB'.length
  let l:=I6 xs.length tA cm.s
  let B0:=fxW cm.s np y
  let B':=fxW cm.s (n0+np) y
  let hpC:=B2R cm.R ρ cm.s y
  let tp:TS:=t.back l B' resB'
  obtain⟨hbl,hat⟩:=C5L cm.s x y 0 np hcan hlw;have env:Env w N1 M1 (F1 ((ust 0 cm.s x).2.map some)) _:=⟨by have:=hE'.hp;rw[E6] at this;exact this,hE'.nd,fun p hp=>⟨(hE'.own p hp).1,(hE'.own p hp).2.2⟩,hE'.nlt,fun k hk=>hE'.un k (by rw[E6];exact hk)⟩;refine(hcall w N1 M1 _ vs env (by rw[← hlen];exact hE.sl)).mono fun e w' ⟨v,e1,N2,M2,L2,b⟩=>⟨v,e1,?_⟩
  have hF2:∃ ℓ2,R9 ⟨w',L2.map Prod.fst,N2,fun _=>none⟩ ⟨[],F1 hpC⟩ { tmps := #[],defers:=[] } w' N2 M2 ℓ2∧∀ i,∀ p∈ℓ2 i,i<(F1 hpC).length→p∈L2:=by
   have hd:H4 ⟨w',L2.map Prod.fst,N2,fun _=>none⟩ ⟨[],F1 hpC⟩ { tmps := #[],defers:=[] } w' N2 M2 L2 :=
    ⟨rfl,.nil,b.env.hr,b.env.nd,fun p hp=>⟨(b.env.own p hp).1,.inr (L9 hp),(b.env.own p hp).2⟩,b.env.nlt,fun _ _ h=>h,fun _ _ h=>.inl h,FrN.refl _ _ _,b.env.un,fun _ _ _ _ h0=>(by cases h0),fun _ _=>rfl⟩
   obtain⟨ℓ2,e,hl⟩:=hd.hp.fn;have hmem:∀ i,∀ p∈ℓ2 i,i<(F1 hpC).length→p∈L2:=fun i p hp hi=>by rw[e];exact J6.2 ⟨i,R8.2 hi,hp⟩
   subst e;have hnd':=hd.nd;rw[A0C] at hnd';obtain⟨n1,n2⟩:=b8.1 hnd';refine⟨ℓ2,⟨hd.df,hd.sl,fun i x hx=>by have:=hl i x hx;rwa [E1] at this,fun i hi=>n1 i (R8.2 hi),?_,fun i hi p hp=>hd.own p (hmem i p hp hi),hd.nlt,hd.nup,hd.ndn,hd.fr,hd.un,hd.mv,hd.mz⟩,hmem⟩;have key:∀ i j,i<j→j<(F1 hpC).length→∀ p∈ℓ2 i,∀ q∈ℓ2 j,p.1≠q.1:=by
    intro i j hij hj p hp q hq e;have n2:=O9.1 n2 i j (by simp;omega) (by simp;omega) hij;simp only[y9] at n2;exact n2 p.1 (L9 hp) q.1 (L9 hq) e
   intro i j hi hj hne p hp q hq;rcases A4X hne with h|h
   ·exact key i j h hj p hp q hq
   ·exact fun e=>key j i h hi q hq p hp e.symm
  obtain⟨ℓ2,hF2,hmem2⟩:=hF2;obtain⟨kat,kun,kfrom⟩:=hK
  let idx:Nat→Option Nat:=fun k=>(List.range l.length).find? fun i=>decide (l[i]? = some (some k))
  have idx_some:∀ (k i:Nat),idx k=some i→l[i]? = some (some k):=fun k i e=>by simpa using A6G e
  have idx_none:∀ k,idx k=none→∀ i:Nat,l[i]? ≠ some (some k):=fun k e i hi=>by
   have:=List.find?_eq_none.1 e i (R8.2 (B4.1 hi).1);simp[hi] at this
  let M3:MT:=fun k=>if k<n0 then(match idx k with|some i=>M2 (nq+i)|none=>M k) else if k<n0+nq then M2 (k-n0) else none
  let ℓ3:Nat→List (Nat×Nat):=fun k=>if k<n0 then(match idx k with|some i=>ℓ2 (nq+i)|none=>ℓ k) else ℓ2 (k-n0)
  have hB':B'=B0.map (Option.map (TB.shf n0)):=by
   show fxW cm.s (n0+np) y=_;rw[Z1];exact B4x cm.s y np n0
  have hbl0:B0.length=l.length:=hbl;have hbl':B'.length=l.length:=by rw[hB',C7];exact hbl0
  have hB'at:∀ i,B'[i]? = (B0[i]?).map (Option.map (TB.shf n0)):=fun i=>by rw[hB',H3]
  let p:Nat→Bool:=fun i=>Nat.blt i n0 && !A0J (A1u l B') i
  have hpm:(A1x (Z8 p t.hp) l B').length=n0:=by rw[A7Z,P8]
  have htp:tp.hp=A1x (Z8 p t.hp) l B'++resB'.map some:=rfl;have htpl:tp.hp.length=n0+nq:=by rw[htp,A5,hpm,C7]
  have hhpT:(F1 hpC).length=nq+B0.length:=by rw[F3];show((Z9 cm.R ρ cm.s y).map some++fxW cm.s np y).length=_;rw[A5,C7]
  have hllt:∀ (i k:Nat),l[i]? = some (some k)→k<n0:=fun i k e=>hlt k (V6.2 (I8 e));have hlent:∀ (i k:Nat),l[i]? = some (some k)→B0[i]? = some none∨(∃ (A B:Ty) (X:List (Den A)) (Y:List (Den B)) (o:Bool) (Z:List (Den A)),(ust 0 cm.s x).2[i]? = some (.arr A true X)∧B0[i]? = some (some (.arr B true Y))∧Y.length=X.length∧t.hp[k]? = some (some (.arr A o Z))∧Z.length=X.length) ∨
    ∃ (cs cs0 cs1:List TV),(ust 0 cm.s x).2[i]? = some (.box cs0)∧B0[i]? = some (some (.box cs1))∧t.hp[k]? = some (some (.box cs)):=fun i k e=>by
   rcases hat i (B4.1 e).1 with a1|⟨A,B,X,Y,a1,a2,_,a4,a5⟩|⟨cs,cs0,cs1,j,a1,a2,a3,a4⟩
   ·exact .inl a1
   ·obtain⟨o,Z,a6,a7⟩:=a5 k e;exact .inr (.inl ⟨A,B,X,Y,o,Z,a1,a2,a4,a6,a7⟩)
   ·rw[show I6 xs.length tA cm.s=l from rfl,e] at a3;cases a3;exact .inr (.inr ⟨cs,cs0,cs1,a1,a2,a4⟩)
  have hput:∀ (i k:Nat) (b:Option TB),l[i]? = some (some k)→B'[i]? = some b→tp.hp[k]? = some b:=fun i k b e e'=>by
   rw[htp,B7 (by rw[hpm];exact hllt i k e)];exact B0q l B' (Z8 p t.hp) hnd (fun j hj=>by rw[P8];exact hlt j hj) i k b e e'
  have hoth:∀ k,k<n0→idx k=none→tp.hp[k]? = (t.hp[k]?).map (Option.map (TB.flt p)):=fun k hk e=>by
   rw[htp,B7 (by rw[hpm];exact hk),A2A l B' (Z8 p t.hp) k (idx_none k e),A0y]
  have hhpk:∀ j,p j=true→hpk tp.hp j=hpk t.hp j:=fun j hj=>by
   simp only[p,A6,M6,Q5] at hj;obtain⟨hj1,hj2⟩:=hj;cases hi:idx j with
   |none =>
    have:=hoth j hj1 hi;unfold hpk;rw[this];cases t.hp[j]? with
    |none=>rfl
    |some z=>cases z with
     |none=>rfl
     |some z=>simp[A4t]
   |some i =>
    have e:=idx_some j i hi;rcases hlent i j e with a1|⟨A,B,X,Y,o,Z,a1,a2,a3,a4,a5⟩|⟨cs,cs0,cs1,a1,a2,a3⟩
    ·have:j∈A1u l B':=(A4P l B' hbl' j).2 ⟨i,e,by rw[hB'at,a1];rfl⟩;have:A0J (A1u l B') j=true:=by
      unfold A0J;rw[w8];exact⟨j,this,by simp⟩
     rw[this] at hj2;cases hj2
    ·unfold hpk;rw[hput i j (some (.arr B true Y)) e (by rw[hB'at,a2];rfl),a4];simp only[TB.rlen,a3,a5]
    ·unfold hpk;rw[hput i j (some (.box (Z7 n0 cs1))) e (by rw[hB'at,a2];rfl),a3];rfl
  have hnew:∀ j,hpk tp.hp (j+n0)=hpk (resB'.map some) j:=fun j=>by
   unfold hpk;rw[htp,B6 (by rw[hpm];omega),hpm,V8]
  have hnewAt:∀ (j:Nat) (k:TB),resB'[j]? = some k→tp.hp[j+n0]? = some (some k):=fun j k e=>by
   rw[htp,B6 (by rw[hpm];omega),hpm,V8,H3,e];rfl
  have hCat:∀ (j:Nat) (k:TB),resB'[j]? = some k→hpC[j]? = some (some k):=fun j k e=>by
   show((Z9 cm.R ρ cm.s y).map some++fxW cm.s np y)[j]? = _;rw[B7 (by rw[C7];exact(B4.1 e).1),H3,e];rfl
  have hClow:∀ j,j<nq→hpk hpC j=hpk (resB'.map some) j:=fun j hj=>by
   unfold hpk;rw[hCat j resB'[j] (D1 hj),H3,D1 hj];rfl
  have hresl:∀ (i:Nat) (b':TB),resB'[i]? = some b'→(F1 hpC)[i]? = some (some (tb hpC b')):=fun i b' e=>by
   rw[I1,hCat i b' e];rfl
  have hmovl:∀ (i:Nat) (b':Option TB),B0[i]? = some b'→(F1 hpC)[nq+i]? = some (b'.map (tb hpC)):=fun i b' e=>by
   rw[I1];show Option.map (Option.map (tb hpC)) (((Z9 cm.R ρ cm.s y).map some++fxW cm.s np y)[nq+i]?)=_;rw[B6 (by rw[C7];exact w4 _ _),C7,J8,show(fxW cm.s np y)[i]? = some b' from e];rfl
  have hL1:∀ z∈(List.range (D2 xs.length (mkS cm.s x)).hp.length).flatMap ℓ1,∃ i j,l[i]? = some (some j)∧z∈ℓ j:=fun z hz=>by
   obtain⟨i,_,hz⟩:=J6.1 hz;obtain⟨j,e,h⟩:=kfrom i z hz;exact⟨i,j,e,h⟩
  have hMlt:∀ j z,M j=some z→j<n0:=fun j z e=>by
   rcases D9 j n0 with h|h
   ·exact h
   ·rw[hD.un j (by rw[hlh];exact h)] at e;cases e
  have hMi:∀ k q,idx k=some q→(B0[q]? = some none∧M2 (nq+q)=some none∧ℓ2 (nq+q)=[])∨((∃ b',B0[q]? = some (some b'))∧M2 (nq+q)=M k):=fun k q hx=>by
   have hq:=idx_some k q hx;have f3:=(kat.so q k hq).1;rw[E1] at f3;rcases hlent q k hq with a1|⟨A,B,X,Y,o,Z,a1,a2,a3,a4,a5⟩|⟨cs,cs0,cs1,a1,a2,a3⟩
   ·exact .inl ⟨a1,hF2.hp (nq+q) _ (hmovl q _ a1)⟩
   ·obtain⟨m,K,e1,e2,e3⟩:=hF2.hp (nq+q) _ (hmovl q _ a2);obtain⟨m0,K0,f1,f2,_⟩:=hE.hp q (some (tb ((ust 0 cm.s x).2.map some) (.arr A true X))) (by rw[E6,I1];simp only[mkS,H3,a1,F8]);obtain⟨_,g2⟩:=b.mv q m m0 e1 f1;have l1:=e2.len;have l2:=f2.len;simp only[tb,C7] at l1 l2;have:=g2 (by omega);subst this;exact .inr ⟨⟨_,a2⟩,by rw[e1,← f3,f1]⟩
   ·obtain⟨m,K,e1,e2,e3⟩:=hF2.hp (nq+q) _ (hmovl q _ a2);obtain⟨m0,K0,f1,f2,_⟩:=hE.hp q (some (tb ((ust 0 cm.s x).2.map some) (.box cs0))) (by rw[E6,I1];simp only[mkS,H3,a1,F8]);obtain⟨_,g2⟩:=b.mv q m m0 e1 f1;have l1:=e2.len;have l2:=f2.len;simp only[tb,J5] at l1 l2;have:=g2 (by omega);subst this;exact .inr ⟨⟨_,a2⟩,by rw[e1,← f3,f1]⟩
  have hM3a:∀ k,k<n0→idx k=none→M3 k=M k:=fun k hk hx=>by simp only[M3,hk,H1,hx]
  have hM3b:∀ k q,k<n0→idx k=some q→M3 k=M2 (nq+q):=fun k q hk hx=>by simp only[M3,hk,H1,hx]
  have g:Gr w w' N N M M3:=⟨b.fr.shp,fun i o hn=>b.fr.nc i o (hN i o hn),fun _ _ hn=>hn,fun j z hj=>by
   have hj':=hMlt j z hj;cases hx:idx j with
   |none=>exact⟨z,by rw[hM3a j hj' hx];exact hj,fun m hm=>⟨m,hm,.inl rfl⟩⟩
   |some q =>
    rcases hMi j q hx with⟨_,e,_⟩|⟨_,e⟩
    ·exact⟨none,by rw[hM3b j q hj' hx];exact e,fun m hm=>by cases hm⟩
    ·exact⟨z,by rw[hM3b j q hj' hx,e];exact hj,fun m hm=>⟨m,hm,.inl rfl⟩⟩⟩
  have hold:∀ k,k<n0→idx k=none→∀ p∈ℓ k,p.1<w.heap.size∧p.1 ∉ ((List.range (D2 xs.length (mkS cm.s x)).hp.length).flatMap ℓ1).map Prod.fst:=fun k hk hi p hp=>by
   refine⟨(hD.own k (by rw[hlh];exact hk) p hp).1,fun hm => ?_⟩;obtain⟨z,hz,e⟩:=C5.1 hm;obtain⟨i,j,e',h⟩:=hL1 z hz;have hne:k≠j:=fun ee=>idx_none k hi i (by rw[ee];exact e');exact hD.dj k j (by rw[hlh];exact hk) (by rw[hlh];exact hllt i j e') hne p hp z h e.symm
  have hsame:∀ k,k<n0→idx k=none→∀ p∈ℓ k,t2 w w' p.1:=fun k hk hi p hp=>by
   obtain⟨q1,q2⟩:=hold k hk hi p hp;exact b.fr.same q1 q2
  have hM3n:∀ i,i<nq→M3 (n0+i)=M2 i:=fun i hi=>by
   have h1:¬ n0+i<n0:=by omega
   have h2:n0+i<n0+nq:=by omega
   simp only[M3,h1,E5,h2,H1,J8]
  have hcase:∀ k,k<n0+nq→(k<n0∧idx k=none∧ℓ3 k=ℓ k)∨∃ i,i<(F1 hpC).length∧ℓ3 k=ℓ2 i∧((k<n0∧∃ q,idx k=some q∧i=nq+q)∨(n0≤k∧i=k-n0)):=fun k hk=>by
   rcases D9 k n0 with h|h
   ·cases hi:idx k with
    |none=>exact .inl ⟨h,rfl,by simp only[ℓ3,h,H1,hi]⟩
    |some q =>
     have:=(B4.1 (idx_some k q hi)).1;exact .inr ⟨nq+q,by rw[hhpT];omega,by simp only[ℓ3,h,H1,hi],.inl ⟨h,q,rfl,rfl⟩⟩
   ·have h':¬ k<n0:=by omega
    exact .inr ⟨k-n0,by rw[hhpT];omega,by simp only[ℓ3,h',E5],.inr ⟨h,rfl⟩⟩
  have hs'len:({ D2 n t with hp:=F1 tp.hp }:AS).hp.length=n0+nq:=by
   show(F1 tp.hp).length=_;rw[F3,htpl]
  have main:R9 C { D2 n t with hp:=F1 tp.hp } act w' N M3 ℓ3:=by
   refine⟨hD.df,hD.sl.gr g (fun _ hb=>by cases hb),fun i z hz => ?_,fun i hi => ?_,fun i j hi hj hne p hp q hq => ?_,fun i hi p hp => ?_,fun i o hn=>P7 (hD.nlt i o hn) b.fr.size,hD.nup,hD.ndn,?_,fun k hk => ?_,fun k m m0 h1 h0 => ?_,fun k hk=>hD.mz k ?_⟩
   ·replace hz:(F1 tp.hp)[i]? = some z:=hz;rw[I1] at hz;rcases D9 i n0 with hi|hi
    ·cases hx:idx i with
     |none =>
      have hl3:ℓ3 i=ℓ i:=by simp only[ℓ3,hi,H1,hx]
      rw[hoth i hi hx] at hz;rw[hl3];have h0:=hD.hp i (Option.map (tb t.hp) (t.hp[i]'hi)) (by rw[E6,I1,D1 hi];rfl);rw[D1 hi] at hz;revert hz h0;generalize t.hp[i]'hi=q;intro hz h0;cases q with
      |none =>
       simp only[F8,A0X,C3] at hz;subst hz;exact⟨by rw[hM3a i hi hx];exact h0.1,h0.2⟩
      |some q =>
       simp only[F8,C3] at hz;subst hz;obtain⟨m,K,e1,e2,e3⟩:=h0;exact⟨m,K,by rw[hM3a i hi hx];exact e1,(e2.gr g (fun p hp=>hsame i hi hx p (by rw[e3];exact hp))).rowLe (A2R hhpk q),e3⟩
     |some q =>
      have hl3:ℓ3 i=ℓ2 (nq+q):=by simp only[ℓ3,hi,H1,hx]
      have hq:=idx_some i q hx;rw[hl3];have hM3i:=hM3b i q hi hx;rcases hlent q i hq with a1|⟨A,B,X,Y,o,Z,a1,a2,a3,a4,a5⟩|⟨cs,cs0,cs1,a1,a2,a3⟩
      ·rw[hput q i none hq (by rw[hB'at,a1];rfl)] at hz;simp only[F8,A0X,C3] at hz;subst hz;obtain⟨u1,u2⟩:=hF2.hp (nq+q) _ (hmovl q _ a1);exact⟨by rw[hM3i];exact u1,u2⟩
      ·rw[hput q i (some (.arr B true Y)) hq (by rw[hB'at,a2];rfl)] at hz;simp only[F8,C3] at hz;subst hz;obtain⟨m,K,e1,e2,e3⟩:=hF2.hp (nq+q) _ (hmovl q _ a2);exact⟨m,K,by rw[hM3i];exact e1,BR.data (C6U cm.s hfl.1 y np _ (I8 a2)) e2,e3⟩
      ·rw[hput q i (some (.box (Z7 n0 cs1))) hq (by rw[hB'at,a2];rfl)] at hz;simp only[F8,C3] at hz;subst hz;obtain⟨m,K,e1,e2,e3⟩:=hF2.hp (nq+q) _ (hmovl q _ a2);obtain⟨T,z,o,u1,u2,u3,u9⟩:=C3h cm.s hfl.1 y np q cs1 a2;have hnq:nq=np+Y8 cm.s:=by
        show((I3 0 cm.R ρ).2++slW cm.s np y).length=_;rw[A5,A0M]
       have u4:∀ (j:Nat) (k:TB),(rsC (np+o) T z).2[j]? = some k→resB'[np+o+j]? = some k:=fun j k e=>by
        show((I3 0 cm.R ρ).2++slW cm.s np y)[np+o+j]? = _;rw[B6 (by show np≤_;omega),show np+o+j-(I3 0 cm.R ρ).2.length=o+j from by show np+o+j-np=_;omega];exact u3 j k e
       have c1:∀ c∈cs1,c.c1 hpC=true:=by
        rw[u1];exact B1U T z (np+o) fun j k e=>hCat _ k (u4 j k e)
       have hsh:Z7 n0 cs1=(rsC (np+o+n0) T z).1:=by
        rw[u1,(o9 T z (np+o+n0)).1,(o9 T z (np+o)).1,A0n]
       have c2:∀ c∈Z7 n0 cs1,c.c1 tp.hp=true:=by
        rw[hsh];refine B1U T z (np+o+n0) fun j k e => ?_;rw[(o9 T z (np+o+n0)).2] at e;rw[show np+o+n0+j=np+o+j+n0 from by omega];exact hnewAt _ k (u4 j k (by rw[(o9 T z (np+o)).2];exact e))
       have A6J:∀ c∈cs1,(av hpC c).low nq=true∧∀ h',(∀ j,j<nq→hpk hpC j=hpk h' j)→av hpC c=av h' c:=by
        rw[u1];exact A91 T z (np+o) nq (by omega)
       have hcl:(Z7 n0 cs1).length=cs1.length:=by rw[A22,C7]
       have r:=e2.rep;simp only[tb,F0,R6,D5,AV.cells,B1u c1] at r;have:K=[]:=r.bare fun x hx=>by
        obtain⟨c,hc,rfl⟩:=C5.1 hx;exact A1I (c1 c hc)
       subst this;have r1:=r.freshN (N':=N) (by
        rw[d4,X5,D6];intro c hc;rw[u1] at hc;exact B4v T u9 z (np+o) c hc)
       have r2:=r1.lowM (M':=fun j=>if j<nq then M2 j else none) (n:=nq) (fun j hj z e=>by simp only[hj,H1];exact e) (by
        rw[A0Z,X5,D6];exact fun c hc=>(A6J c hc).1)
       have r3:=r2.ren (M:=M3) (f:=(· + n0)) (fun j z e=>by
        by_cases hj:j<nq
        ·simp only[hj,H1] at e;show M3 (j+n0)=_;rw[Z1,hM3n j hj];exact e
        ·simp only[hj,E5] at e;cases e)
       have e5:m8 (· + n0) (cs1.map (av hpC))=(Z7 n0 cs1).map (cav tp.hp):=by
        have:cs1.map (av hpC)=cs1.map (av (resB'.map some)):=E4 fun c hc=>(A6J c hc).2 _ hClow;rw[B1u c2,this,← O8,← O8,A4e hnew]
       rw[e5] at r3;refine⟨m,[],by rw[hM3i];exact e1,⟨e2.len,by rw[e2.sz];simp[tb,hcl],by simp[tb,hcl];have:=e2.fr;simpa[tb] using this,?_,?_,fun e => ?_,e2.rm,e2.lo,fun i hi=>by simp[tb] at hi,fun _=>e2.f0 rfl⟩,e3⟩
       ·intro y hy;simp only[tb,C1] at hy;subst hy;simp[tb,AV.cells]
       ·simp only[tb,F0,R6,D5,AV.cells];exact r3
       ·have:=e2.vt e;simp[tb] at this
    ·have hi':¬ i<n0:=by omega
     rw[htp,B6 (by rw[hpm];exact hi),hpm,H3] at hz;cases hb':resB'[i-n0]? with
     |none=>rw[hb'] at hz;cases hz
     |some b' =>
      rw[hb'] at hz;simp only[F8,C3] at hz;subst hz;have harr:A2a b'=true:=by
       rcases C9.1 (I8 hb') with h|h
       ·exact B0U cm.R (A61 hfl.2) ρ 0 b' h
       ·exact B3O cm.s y _ b' h
      have hnv:b'.novB=true:=by
       rcases C9.1 (I8 hb') with h|h
       ·exact B6Z cm.R hfl.2 ρ 0 b' h
       ·exact C6d cm.s hfl.1 y _ b' h
      have hlt2:i-n0<nq:=(B4.1 hb').1;cases b' with
      |arr T o Y =>
       simp only[A2a] at harr;subst harr;obtain⟨m,K,e1,e2,e3⟩:=hF2.hp (i-n0) _ (hresl _ _ hb');have hl3:ℓ3 i=ℓ2 (i-n0):=by simp only[ℓ3,hi',E5]
       rw[hl3];have hM3:=hM3n (i-n0) hlt2;rw[show n0+(i-n0)=i from by omega] at hM3;exact⟨m,K,by rw[hM3];exact e1,BR.data hnv e2,e3⟩
      |_=>cases harr
   ·rw[hs'len] at hi;rcases hcase i hi with⟨q1,q2,q3⟩|⟨j,q1,q2,_⟩
    ·rw[q3];exact hD.nd i (by rw[hlh];exact q1)
    ·rw[q2];exact hF2.nd j q1
   ·rw[hs'len] at hi hj;have G2:∀ k,k<n0→idx k=none→∀ j,j<(F1 hpC).length→∀ p∈ℓ k,∀ q∈ℓ2 j,p.1≠q.1:=fun k hk hx j hj p hp q hq e=>by
     obtain⟨u1,u2⟩:=hold k hk hx p hp;rcases b.new q (hmem2 j q hq hj) with h|h
     ·omega
     ·exact u2 (e▸h)
    rcases hcase i hi with⟨u1,u2,u3⟩|⟨i',u1,u2,u3⟩
    ·rcases hcase j hj with⟨v1,v2,v3⟩|⟨j',v1,v2,v3⟩
     ·rw[u3] at hp;rw[v3] at hq;exact hD.dj i j (by rw[hlh];exact u1) (by rw[hlh];exact v1) hne p hp q hq
     ·rw[u3] at hp;rw[v2] at hq;exact G2 i u1 u2 j' v1 p hp q hq
    ·rcases hcase j hj with⟨v1,v2,v3⟩|⟨j',v1,v2,v3⟩
     ·rw[u2] at hp;rw[v3] at hq;exact fun e=>G2 j v1 v2 i' u1 q hq p hp e.symm
     ·rw[u2] at hp;rw[v2] at hq;refine hF2.dj i' j' u1 v1 (fun e => ?_) p hp q hq;subst e;rcases u3 with⟨w1,a,w2,w3⟩|⟨w1,w2⟩
      ·rcases v3 with⟨x1,a',x2,x3⟩|⟨x1,x2⟩
       ·have:a=a':=by omega
        subst this;have e1:=idx_some i a w2;have e2:=idx_some j a x2;rw[e1] at e2;cases e2;exact hne rfl
       ·have:=(B4.1 (idx_some i a w2)).1;omega
      ·rcases v3 with⟨x1,a',x2,x3⟩|⟨x1,x2⟩
       ·omega
       ·omega
   ·rw[hs'len] at hi;rcases hcase i hi with⟨q1,q2,q3⟩|⟨j,q1,q2,_⟩
    ·rw[q3] at hp;obtain⟨o1,o2,o3⟩:=hD.own i (by rw[hlh];exact q1) p hp;exact⟨P7 o1 b.fr.size,o2,o3⟩
    ·rw[q2] at hp;have hpL:=hmem2 j p hp q1;obtain⟨o1,o3⟩:=b.env.own p hpL;refine⟨o1,?_,fun o hn=>o3 o (b.nup _ _ (hN _ _ hn))⟩;rcases b.new p hpL with h|h
     ·exact .inl (S2 hD.fr.size h)
     ·obtain⟨z,hz,e⟩:=C5.1 h;obtain⟨i',j',e',hz'⟩:=hL1 z hz;rw[← e];exact(hD.own j' (by rw[hlh];exact hllt i' j' e') z hz').2.1
   ·refine hD.fr.trans b.fr.toFr (fun y hy => ?_) (fun i o hn=>b.fr.nc i o (hN i o (hD.nup i o hn)));obtain⟨z,hz,rfl⟩:=C5.1 hy;obtain⟨i',j',e',hz'⟩:=hL1 z hz;exact((hD.own j' (by rw[hlh];exact hllt i' j' e') z hz').2.1).symm
   ·rw[hs'len] at hk;have h1:¬ k<n0:=by omega
    have h2:¬ k<n0+nq:=by omega
    simp only[M3,h1,h2,E5]
   ·rcases D9 k n0 with h|h
    ·cases hx:idx k with
     |none =>
      rw[hM3a k h hx] at h1;exact hD.mv k m m0 h1 h0
     |some q =>
      rw[hM3b k q h hx] at h1;rcases hMi k q hx with⟨_,e,_⟩|⟨_,e⟩
      ·rw[e] at h1;cases h1
      ·rw[e] at h1;exact hD.mv k m m0 h1 h0
    ·rw[hD.mz k (by rw[hlh];exact h)] at h0;cases h0
   ·rw[hs'len] at hk;rw[hlh];omega
  obtain⟨s1,s2⟩:=A7W cm.R ρ n0;have hnpq:np≤nq:=by show np≤((I3 0 cm.R ρ).2++slW cm.s np y).length;rw[A5];exact w4 _ _
  obtain⟨lo,ec⟩:=B8n (h:=hpC) (m:=nq) (B6k cm.R ρ 0 nq (by rw[E1];exact hnpq));have e1:=ec (resB'.map some) hClow;have rr:=b.rep;have rr':Rep w' N2 M2 (av hpC (A00 (I3 0 cm.R ρ).1)) v []:=rr;rw[e1] at rr' lo
  have r2:=(rr'.freshN (N':=N) (B4F (B2y cm.R hfl.2 ρ 0))).lowM (M':=fun j=>if j<nq then M2 j else none) (n:=nq) (fun j hj z e=>by simp only[hj,H1];exact e) lo;have r3:=r2.ren (M:=M3) (f:=(· + n0)) (fun j z e=>by
   by_cases hj:j<nq
   ·simp only[hj,H1] at e;show M3 (j+n0)=_;rw[Z1,hM3n j hj];exact e
   ·simp only[hj,E5] at e;cases e)
  refine⟨_,?_,N,M3,_,main.d.put d r3⟩;have ehk:t.back l (fxW cm.s (t.hp.length+(I3 t.hp.length cm.R ρ).2.length) y) ((I3 t.hp.length cm.R ρ).2++slW cm.s (t.hp.length+(I3 t.hp.length cm.R ρ).2.length) y)=tp:=by
   show _=t.back l (fxW cm.s (n0+np) y) ((I3 0 cm.R ρ).2++slW cm.s np y);rw[show(I3 t.hp.length cm.R ρ).2=(I3 0 cm.R ρ).2 from s2,A8C cm.s y np,A8C cm.s y (t.hp.length+(I3 0 cm.R ρ).2.length)]
  have hk':k (tp.put d (A00 (I3 n0 cm.R ρ).1))=some r:=by rw[← ehk];exact hk
  refine Kt.of hk' ?_;have hle:L7 { D2 n t with hp:=F1 tp.hp } (D2 n tp):=by
   refine⟨by rw[T5];exact(T5 n t).symm,fun i => ?_,by rw[E6],fun i z hz=>⟨z,by rw[E6];exact hz,by cases z;trivial;exact R0.refl _⟩⟩;show Im ((D2 n t).sl.getD i .any) _;rw[R5,R5,show tp.get n i=flt p (t.get n i) from A2u n t _ _ p rfl i];exact A1Y hhpk _
  rw[T9];refine L7.put hle d ?_;rw[s1,B1v,B27 (hp:=resB'.map some) hnew];exact Im.refl _
theorem B79{P:Program}{S:Bool}{Ω:Type}{r:Ω}{cm:CM}(hcm:t5 P cm)(hSt:S=true){xs:List TV}{d:Option Nat}{k:TS→Option Ω}(hlen:xs.length=(k8 cm.s).length)(h:(match B1c xs.length cm.s ((⟨A1f 0 xs,t.hp⟩:TS).kill (A8r t.hp xs)) with
  |some x=>(cm.F x).bind fun r=>k ((t.backV (B9U t.hp xs (I6 xs.length ((⟨A1f 0 xs,t.hp⟩:TS).kill (A8r t.hp xs)) cm.s)) (I6 xs.length ((⟨A1f 0 xs,t.hp⟩:TS).kill (A8r t.hp xs)) cm.s) (fxW cm.s (t.hp.length+(I3 t.hp.length cm.R r.1).2.length) r.2)
    ((I3 t.hp.length cm.R r.1).2++slW cm.s (t.hp.length+(I3 t.hp.length cm.R r.1).2.length) r.2)).put d (A00 (I3 t.hp.length cm.R r.1).1))
  |none=>none)=some r) :
  A2s P S (D2 n t) cm.f (xs.map (av t.hp)) d (Kt k r n):=by
  split at h
  case h_2=>cases h
  rename_i x hm;obtain⟨⟨ρ,y⟩,hF,hk⟩:=U7.1 h;obtain⟨hlw,hgood,hcall⟩:=hcm x (ρ,y) hF;refine .m hSt hgood fun C act w N M L vs hcd hr => ?_;obtain⟨ℓ,hD⟩:=hcd.fn
  let tA0:TS:=⟨A1f 0 xs,t.hp⟩
  let ur:List Nat:=A8r t.hp xs
  let tA:TS:=tA0.kill ur
  let X':List Nat:=((List.range t.hp.length).flatMap ℓ).map Prod.fst
  let C0:Ctx:=⟨w,X',N,fun _=>none⟩
  have hhp:(D2 xs.length tA0).hp=(D2 n t).hp:=by rw[E6,E6]
  have hlh:(D2 n t).hp.length=t.hp.length:=by rw[E6,F3]
  have hA0:R9 C0 (D2 xs.length tA0) { tmps:=⟨vs⟩,defers:=[] } w N M ℓ:=by
   refine⟨rfl,?_,fun i z hz=>hD.hp i z (by rw[← hhp];exact hz),fun i hi=>hD.nd i (by rw[← hhp];exact hi),fun i j hi hj=>hD.dj i j (by rw[← hhp];exact hi) (by rw[← hhp];exact hj),fun i hi p hp => ?_,hD.nlt,fun _ _ h=>h,fun _ _ h=>.inl h,FrN.refl _ _ _,fun k hk=>hD.un k (by rw[← hhp];exact hk),fun _ _ _ _ h0=>(by cases h0),fun _ _=>rfl⟩
   ·rw[B4a];exact hr
   ·rw[hhp] at hi;obtain⟨o1,o2,o3⟩:=hD.own i hi p hp;exact⟨o1,.inr (L9 (J6.2 ⟨i,R8.2 (by rw[← hlh];exact hi),hp⟩)),o3⟩
  have hur:∀ i,i∈ur↔i<t.hp.length∧i ∉ A8w t.hp xs:=fun i=>by
   show i∈(List.range t.hp.length).filter _↔_;rw[Y4,R8,M6,← w6,A4s]
  obtain⟨Mk,ℓk,hKl,hout,hMk⟩:=hA0.kill2 (l:=ur) (fun m hm=>by rw[hhp,hlh];exact((hur m).1 hm).1);have hA1:R9 C0 (D2 xs.length tA) { tmps:=⟨vs⟩,defers:=[] } w N Mk ℓk:=(L7.kill (n:=xs.length) (t:=tA0) ur).concF (by rw[E6] at hKl;exact hKl)
  let Xr:List Nat:=(((List.range t.hp.length).filter fun j=>A0J (A8w t.hp xs) j).flatMap ℓ).map Prod.fst
  have hXr:∀ b,b∈Xr→∃ j,j<t.hp.length∧j∈A8w t.hp xs∧∃ z∈ℓ j,z.1=b:=fun b hb=>by
   obtain⟨z,hz,e⟩:=C5.1 hb;obtain⟨j,hj,hz⟩:=J6.1 hz;rw[Y4,R8,A4s] at hj;exact⟨j,hj.1,hj.2,z,hz,e⟩
  let C':Ctx:=⟨w,Xr,N,fun _=>none⟩
  have hAl:(D2 xs.length tA).hp.length=t.hp.length:=by
   rw[E6,F3];show(setAll (Z8 _ t.hp) ur).length=_;rw[A2r,P8]
  have hA:R9 C' (D2 xs.length tA) { tmps:=⟨vs⟩,defers:=[] } w N Mk ℓk:=by
   refine⟨hA1.df,hA1.sl,hA1.hp,hA1.nd,hA1.dj,fun i hi p hp => ?_,hA1.nlt,fun _ _ h=>h,fun _ _ h=>.inl h,FrN.refl _ _ _,hA1.un,fun _ _ _ _ h0=>(by cases h0),fun _ _=>rfl⟩;obtain⟨g1,g2⟩:=hout i p hp;rw[hAl] at hi;obtain⟨o1,_,o3⟩:=hA1.own i (by rw[hAl];exact hi) p hp;refine⟨o1,.inr ?_,o3⟩;refine L9 (J6.2 ⟨i,?_,g2⟩);rw[Y4,R8,A4s]
   refine⟨hi,Classical.byContradiction fun hc=>g1 ((hur i).2 ⟨hi,hc⟩)⟩
  obtain⟨N1,M1,ℓ1,hE,hK,hN,hnd,hlt0,hul,t',hcan⟩:=A8W (C:=C') (q:=0) (fun _ _=>rfl) rfl hm hA;have hlt:∀ j∈L8 (I6 xs.length tA cm.s),j<t.hp.length:=fun j hj=>by
   have h0:j<tA.hp.length:=hlt0 j hj;have h1:tA.hp.length=t.hp.length:=by rw[← hAl,E6,F3]
   omega
  have hlk:∀ k (z:TB),tA.hp[k]? = some (some z)→k ∉ ur∧hpk t.hp k=some z.rlen:=fun k z e=>by
   have e':(setAll (Z8 (fun i => !A0J ur i) t.hp) ur)[k]? = some (some z):=e;rw[A0Q] at e';by_cases hk:k∈ur
   ·rw[E9 hk] at e';split at e'<;>cases e'
   ·rw[G6 hk,A0y] at e';refine⟨hk,?_⟩;unfold hpk;cases hz:t.hp[k]? with
    |none=>rw[hz] at e'; cases e'
    |some z0 =>
     rw[hz] at e';cases z0 with
     |none=>cases e'
     |some z0 =>
      simp only[F8,C3] at e';subst e';simp[A4t]
  have hE':=hE.d;have hpl:(D2 xs.length (mkS cm.s x)).hp.length=(ust 0 cm.s x).2.length:=by rw[E6,F3];simp[mkS]
  let n0:=t.hp.length
  let np:=(I3 0 cm.R ρ).2.length
  let resB':=Z9 cm.R ρ cm.s y
  let nq:=resB'.length
  let l:=I6 xs.length tA cm.s
  let B0:=fxW cm.s np y
  let B':=fxW cm.s (n0+np) y
  let hpC:=B2R cm.R ρ cm.s y
  let cons:List Nat:=B9U t.hp xs l
  let tp:TS:=t.backV cons l B' resB'
  have hcons:∀ i,i∈cons↔i∈A8w t.hp xs∧i ∉ L8 l:=fun i=>by
   show i∈(A8w t.hp xs).filter _↔_;rw[Y4,M6,← w6,A4s]
  obtain⟨hbl,hat⟩:=C5L cm.s x y 0 np hcan hlw;have env:Env w N1 M1 (F1 ((ust 0 cm.s x).2.map some)) _:=⟨by have:=hE'.hp;rw[E6] at this;exact this,hE'.nd,fun p hp=>⟨(hE'.own p hp).1,(hE'.own p hp).2.2⟩,hE'.nlt,fun k hk=>hE'.un k (by rw[E6];exact hk)⟩;refine(hcall w N1 M1 _ vs env (by rw[← hlen];exact hE.sl)).mono fun e w' ⟨v,e1,N2,M2,L2,b⟩=>⟨v,e1,?_⟩
  have hF2:∃ ℓ2,R9 ⟨w',L2.map Prod.fst,N2,fun _=>none⟩ ⟨[],F1 hpC⟩ { tmps := #[],defers:=[] } w' N2 M2 ℓ2∧∀ i,∀ p∈ℓ2 i,i<(F1 hpC).length→p∈L2:=by
   have hd:H4 ⟨w',L2.map Prod.fst,N2,fun _=>none⟩ ⟨[],F1 hpC⟩ { tmps := #[],defers:=[] } w' N2 M2 L2 :=
    ⟨rfl,.nil,b.env.hr,b.env.nd,fun p hp=>⟨(b.env.own p hp).1,.inr (L9 hp),(b.env.own p hp).2⟩,b.env.nlt,fun _ _ h=>h,fun _ _ h=>.inl h,FrN.refl _ _ _,b.env.un,fun _ _ _ _ h0=>(by cases h0),fun _ _=>rfl⟩
   obtain⟨ℓ2,e,hl⟩:=hd.hp.fn;have hmem:∀ i,∀ p∈ℓ2 i,i<(F1 hpC).length→p∈L2:=fun i p hp hi=>by rw[e];exact J6.2 ⟨i,R8.2 hi,hp⟩
   subst e;have hnd':=hd.nd;rw[A0C] at hnd';obtain⟨n1,n2⟩:=b8.1 hnd';refine⟨ℓ2,⟨hd.df,hd.sl,fun i x hx=>by have:=hl i x hx;rwa [E1] at this,fun i hi=>n1 i (R8.2 hi),?_,fun i hi p hp=>hd.own p (hmem i p hp hi),hd.nlt,hd.nup,hd.ndn,hd.fr,hd.un,hd.mv,hd.mz⟩,hmem⟩;have key:∀ i j,i<j→j<(F1 hpC).length→∀ p∈ℓ2 i,∀ q∈ℓ2 j,p.1≠q.1:=by
    intro i j hij hj p hp q hq e;have n2:=O9.1 n2 i j (by simp;omega) (by simp;omega) hij;simp only[y9] at n2;exact n2 p.1 (L9 hp) q.1 (L9 hq) e
   intro i j hi hj hne p hp q hq;rcases A4X hne with h|h
   ·exact key i j h hj p hp q hq
   ·exact fun e=>key j i h hi q hq p hp e.symm
  obtain⟨ℓ2,hF2,hmem2⟩:=hF2;obtain⟨kat,kun,kfrom⟩:=hK
  let idx:Nat→Option Nat:=fun k=>(List.range l.length).find? fun i=>decide (l[i]? = some (some k))
  have idx_some:∀ (k i:Nat),idx k=some i→l[i]? = some (some k):=fun k i e=>by simpa using A6G e
  have idx_none:∀ k,idx k=none→∀ i:Nat,l[i]? ≠ some (some k):=fun k e i hi=>by
   have:=List.find?_eq_none.1 e i (R8.2 (B4.1 hi).1);simp[hi] at this
  let M3:MT:=fun k=>if k<n0 then(match idx k with|some i=>M2 (nq+i)|none=>if k∈cons then some none else M k) else if k<n0+nq then M2 (k-n0) else none
  let ℓ3:Nat→List (Nat×Nat):=fun k=>if k<n0 then(match idx k with|some i=>ℓ2 (nq+i)|none=>if k∈cons then [] else ℓ k) else ℓ2 (k-n0)
  have idx_c:∀ (k i:Nat),idx k=some i→k ∉ cons:=fun k i e hc=>((hcons k).1 hc).2 (V6.2 (I8 (idx_some k i e)));have hB':B'=B0.map (Option.map (TB.shf n0)):=by
   show fxW cm.s (n0+np) y=_;rw[Z1];exact B4x cm.s y np n0
  have hbl0:B0.length=l.length:=hbl;have hbl':B'.length=l.length:=by rw[hB',C7];exact hbl0
  have hB'at:∀ i,B'[i]? = (B0[i]?).map (Option.map (TB.shf n0)):=fun i=>by rw[hB',H3]
  let p:Nat→Bool:=fun i=>Nat.blt i n0 && !A0J (A1u l B'++cons) i
  have hpm:(A1x (setAll (Z8 p t.hp) cons) l B').length=n0:=by rw[A7Z,A2r,P8]
  have htp:tp.hp=A1x (setAll (Z8 p t.hp) cons) l B'++resB'.map some:=rfl;have htpl:tp.hp.length=n0+nq:=by rw[htp,A5,hpm,C7]
  have hhpT:(F1 hpC).length=nq+B0.length:=by rw[F3];show((Z9 cm.R ρ cm.s y).map some++fxW cm.s np y).length=_;rw[A5,C7]
  have hllt:∀ (i k:Nat),l[i]? = some (some k)→k<n0:=fun i k e=>hlt k (V6.2 (I8 e));have hlent:∀ (i k:Nat),l[i]? = some (some k)→B0[i]? = some none∨(∃ (A B:Ty) (X:List (Den A)) (Y:List (Den B)) (o:Bool) (Z:List (Den A)),(ust 0 cm.s x).2[i]? = some (.arr A true X)∧B0[i]? = some (some (.arr B true Y))∧Y.length=X.length∧tA.hp[k]? = some (some (.arr A o Z))∧Z.length=X.length) ∨
    ∃ (cs cs0 cs1:List TV),(ust 0 cm.s x).2[i]? = some (.box cs0)∧B0[i]? = some (some (.box cs1))∧tA.hp[k]? = some (some (.box cs)):=fun i k e=>by
   rcases hat i (B4.1 e).1 with a1|⟨A,B,X,Y,a1,a2,_,a4,a5⟩|⟨cs,cs0,cs1,j,a1,a2,a3,a4⟩
   ·exact .inl a1
   ·obtain⟨o,Z,a6,a7⟩:=a5 k e;exact .inr (.inl ⟨A,B,X,Y,o,Z,a1,a2,a4,a6,a7⟩)
   ·rw[show I6 xs.length tA cm.s=l from rfl,e] at a3;cases a3;exact .inr (.inr ⟨cs,cs0,cs1,a1,a2,a4⟩)
  have hput:∀ (i k:Nat) (b:Option TB),l[i]? = some (some k)→B'[i]? = some b→tp.hp[k]? = some b:=fun i k b e e'=>by
   rw[htp,B7 (by rw[hpm];exact hllt i k e)];exact B0q l B' (setAll (Z8 p t.hp) cons) hnd (fun j hj=>by rw[A2r,P8];exact hlt j hj) i k b e e'
  have hothC:∀ k,k<n0→k∈cons→tp.hp[k]? = some none:=fun k hk hc=>by
   rw[htp,B7 (by rw[hpm];exact hk),A2A l B' (setAll (Z8 p t.hp) cons) k (fun i e=>((hcons k).1 hc).2 (V6.2 (I8 e))),A0Q,E9 hc,P8,E9 hk]
  have hoth:∀ k,k<n0→k ∉ cons→idx k=none→tp.hp[k]? = (t.hp[k]?).map (Option.map (TB.flt p)):=fun k hk hc e=>by
   rw[htp,B7 (by rw[hpm];exact hk),A2A l B' (setAll (Z8 p t.hp) cons) k (idx_none k e),A0Q,G6 hc,A0y]
  have hhpk:∀ j,p j=true→hpk tp.hp j=hpk t.hp j:=fun j hj=>by
   simp only[p,A6,M6,Q5] at hj;obtain⟨hj1,hj2⟩:=hj;rw[← w6,A4s,C9,not_or] at hj2;cases hi:idx j with
   |none =>
    have:=hoth j hj1 hj2.2 hi;unfold hpk;rw[this];cases t.hp[j]? with
    |none=>rfl
    |some z=>cases z with
     |none=>rfl
     |some z=>simp[A4t]
   |some i =>
    have e:=idx_some j i hi;rcases hlent i j e with a1|⟨A,B,X,Y,o,Z,a1,a2,a3,a4,a5⟩|⟨cs,cs0,cs1,a1,a2,a3⟩
    ·have:j∈A1u l B':=(A4P l B' hbl' j).2 ⟨i,e,by rw[hB'at,a1];rfl⟩;exact absurd this hj2.1
    ·rw[(hlk j _ a4).2];unfold hpk;rw[hput i j (some (.arr B true Y)) e (by rw[hB'at,a2];rfl)];simp only[TB.rlen,a3,a5]
    ·rw[(hlk j _ a3).2];unfold hpk;rw[hput i j (some (.box (Z7 n0 cs1))) e (by rw[hB'at,a2];rfl)];rfl
  have hnew:∀ j,hpk tp.hp (j+n0)=hpk (resB'.map some) j:=fun j=>by
   unfold hpk;rw[htp,B6 (by rw[hpm];omega),hpm,V8]
  have hnewAt:∀ (j:Nat) (k:TB),resB'[j]? = some k→tp.hp[j+n0]? = some (some k):=fun j k e=>by
   rw[htp,B6 (by rw[hpm];omega),hpm,V8,H3,e];rfl
  have hCat:∀ (j:Nat) (k:TB),resB'[j]? = some k→hpC[j]? = some (some k):=fun j k e=>by
   show((Z9 cm.R ρ cm.s y).map some++fxW cm.s np y)[j]? = _;rw[B7 (by rw[C7];exact(B4.1 e).1),H3,e];rfl
  have hClow:∀ j,j<nq→hpk hpC j=hpk (resB'.map some) j:=fun j hj=>by
   unfold hpk;rw[hCat j resB'[j] (D1 hj),H3,D1 hj];rfl
  have hresl:∀ (i:Nat) (b':TB),resB'[i]? = some b'→(F1 hpC)[i]? = some (some (tb hpC b')):=fun i b' e=>by
   rw[I1,hCat i b' e];rfl
  have hmovl:∀ (i:Nat) (b':Option TB),B0[i]? = some b'→(F1 hpC)[nq+i]? = some (b'.map (tb hpC)):=fun i b' e=>by
   rw[I1];show Option.map (Option.map (tb hpC)) (((Z9 cm.R ρ cm.s y).map some++fxW cm.s np y)[nq+i]?)=_;rw[B6 (by rw[C7];exact w4 _ _),C7,J8,show(fxW cm.s np y)[i]? = some b' from e];rfl
  have hL1:∀ z∈(List.range (D2 xs.length (mkS cm.s x)).hp.length).flatMap ℓ1,∃ i j,l[i]? = some (some j)∧z∈ℓ j:=fun z hz=>by
   obtain⟨i,_,hz⟩:=J6.1 hz;obtain⟨j,e,h⟩:=kfrom i z hz;exact⟨i,j,e,(hout j z h).2⟩
  have hMlt:∀ j z,M j=some z→j<n0:=fun j z e=>by
   rcases D9 j n0 with h|h
   ·exact h
   ·rw[hD.un j (by rw[hlh];exact h)] at e;cases e
  have hgu:∀ (q k:Nat),l[q]? = some (some k)→k∈ur→False:=fun q k hq hc=>by
   have hkk:k<t.hp.length:=hllt q k hq;have:tA.hp[k]? = some none:=by
    show(setAll (Z8 (fun i => !A0J ur i) t.hp) ur)[k]? = some none;rw[A0Q,E9 hc,P8,E9 hkk]
   have hb1:=C2P cm.s x t' hcan k (V6.2 (I8 hq));obtain⟨z,hz⟩:=hb1;rw[this] at hz;cases hz
  have hMi:∀ k q,idx k=some q→(B0[q]? = some none∧M2 (nq+q)=some none∧ℓ2 (nq+q)=[])∨((∃ b',B0[q]? = some (some b'))∧M2 (nq+q)=M k):=fun k q hx=>by
   have hq:=idx_some k q hx;have f3:=(kat.so q k hq).1;rw[E1] at f3;have hku:k ∉ ur:=by
    rcases hlent q k hq with a1|⟨A,B,X,Y,o,Z,a1,a2,a3,a4,a5⟩|⟨cs,cs0,cs1,a1,a2,a3⟩
    ·exact fun hc=>hgu q k hq hc
    ·exact(hlk k _ a4).1
    ·exact(hlk k _ a3).1
   rw[hMk k hku] at f3;rcases hlent q k hq with a1|⟨A,B,X,Y,o,Z,a1,a2,a3,a4,a5⟩|⟨cs,cs0,cs1,a1,a2,a3⟩
   ·exact .inl ⟨a1,hF2.hp (nq+q) _ (hmovl q _ a1)⟩
   ·obtain⟨m,K,e1,e2,e3⟩:=hF2.hp (nq+q) _ (hmovl q _ a2);obtain⟨m0,K0,f1,f2,_⟩:=hE.hp q (some (tb ((ust 0 cm.s x).2.map some) (.arr A true X))) (by rw[E6,I1];simp only[mkS,H3,a1,F8]);obtain⟨_,g2⟩:=b.mv q m m0 e1 f1;have l1:=e2.len;have l2:=f2.len;simp only[tb,C7] at l1 l2;have:=g2 (by omega);subst this;exact .inr ⟨⟨_,a2⟩,by rw[e1,← f3,f1]⟩
   ·obtain⟨m,K,e1,e2,e3⟩:=hF2.hp (nq+q) _ (hmovl q _ a2);obtain⟨m0,K0,f1,f2,_⟩:=hE.hp q (some (tb ((ust 0 cm.s x).2.map some) (.box cs0))) (by rw[E6,I1];simp only[mkS,H3,a1,F8]);obtain⟨_,g2⟩:=b.mv q m m0 e1 f1;have l1:=e2.len;have l2:=f2.len;simp only[tb,J5] at l1 l2;have:=g2 (by omega);subst this;exact .inr ⟨⟨_,a2⟩,by rw[e1,← f3,f1]⟩
  have hM3a:∀ k,k<n0→idx k=none→k ∉ cons→M3 k=M k:=fun k hk hx hc=>by simp only[M3,hk,H1,hx,hc,E5]
  have hM3c:∀ k,k<n0→k∈cons→M3 k=some none∧ℓ3 k=[]:=fun k hk hc=>by
   cases hx:idx k with
   |some q=>exact absurd hc (idx_c k q hx)
   |none=>exact⟨by simp only[M3,hk,H1,hx,hc],by simp only[ℓ3,hk,H1,hx,hc]⟩
  have hM3b:∀ k q,k<n0→idx k=some q→M3 k=M2 (nq+q):=fun k q hk hx=>by simp only[M3,hk,H1,hx]
  have g:Gr w w' N N2 M M3:=⟨b.fr.shp,fun i o hn=>b.fr.nc i o (hN i o hn),fun i o hn=>b.nup i o (hN i o hn),fun j z hj=>by
   have hj':=hMlt j z hj;by_cases hc:j∈cons
   ·exact⟨none,(hM3c j hj' hc).1,fun m hm=>by cases hm⟩
   cases hx:idx j with
   |none=>exact⟨z,by rw[hM3a j hj' hx hc];exact hj,fun m hm=>⟨m,hm,.inl rfl⟩⟩
   |some q =>
    rcases hMi j q hx with⟨_,e,_⟩|⟨_,e⟩
    ·exact⟨none,by rw[hM3b j q hj' hx];exact e,fun m hm=>by cases hm⟩
    ·exact⟨z,by rw[hM3b j q hj' hx,e];exact hj,fun m hm=>⟨m,hm,.inl rfl⟩⟩⟩
  have hold:∀ k,k<n0→idx k=none→∀ p∈ℓ k,p.1<w.heap.size∧p.1 ∉ ((List.range (D2 xs.length (mkS cm.s x)).hp.length).flatMap ℓ1).map Prod.fst:=fun k hk hi p hp=>by
   refine⟨(hD.own k (by rw[hlh];exact hk) p hp).1,fun hm => ?_⟩;obtain⟨z,hz,e⟩:=C5.1 hm;obtain⟨i,j,e',h⟩:=hL1 z hz;have hne:k≠j:=fun ee=>idx_none k hi i (by rw[ee];exact e');exact hD.dj k j (by rw[hlh];exact hk) (by rw[hlh];exact hllt i j e') hne p hp z h e.symm
  have hsame:∀ k,k<n0→idx k=none→∀ p∈ℓ k,t2 w w' p.1:=fun k hk hi p hp=>by
   obtain⟨q1,q2⟩:=hold k hk hi p hp;exact b.fr.same q1 q2
  have hM3n:∀ i,i<nq→M3 (n0+i)=M2 i:=fun i hi=>by
   have h1:¬ n0+i<n0:=by omega
   have h2:n0+i<n0+nq:=by omega
   simp only[M3,h1,E5,h2,H1,J8]
  have hcase:∀ k,k<n0+nq→(k<n0∧idx k=none∧k ∉ cons∧ℓ3 k=ℓ k)∨ℓ3 k=[]∨∃ i,i<(F1 hpC).length∧ℓ3 k=ℓ2 i∧((k<n0∧∃ q,idx k=some q∧i=nq+q)∨(n0≤k∧i=k-n0)):=fun k hk=>by
   rcases D9 k n0 with h|h
   ·cases hi:idx k with
    |none =>
     by_cases hc:k∈cons
     ·exact .inr (.inl (hM3c k h hc).2)
     ·exact .inl ⟨h,rfl,hc,by simp only[ℓ3,h,H1,hi,hc,E5]⟩
    |some q =>
     have:=(B4.1 (idx_some k q hi)).1;exact .inr (.inr ⟨nq+q,by rw[hhpT];omega,by simp only[ℓ3,h,H1,hi],.inl ⟨h,q,rfl,rfl⟩⟩)
   ·have h':¬ k<n0:=by omega
    exact .inr (.inr ⟨k-n0,by rw[hhpT];omega,by simp only[ℓ3,h',E5],.inr ⟨h,rfl⟩⟩)
  have hs'len:({ D2 n t with hp:=F1 tp.hp }:AS).hp.length=n0+nq:=by
   show(F1 tp.hp).length=_;rw[F3,htpl]
  have hN2:∀ b' o,N2 b' o→N b' o∨b'∈Xr∨w.heap.size≤b'∨b'∈((List.range (D2 xs.length (mkS cm.s x)).hp.length).flatMap ℓ1).map Prod.fst:=fun b' o hn=>by
   rcases b.ndn b' o hn with h|h|h
   ·rcases hE.ndn b' o h with h|h|h
    ·exact .inl h
    ·exact .inr (.inr (.inl h))
    ·exact .inr (.inl h)
   ·exact .inr (.inr (.inl h))
   ·exact .inr (.inr (.inr h))
  have main:R9 C { D2 n t with hp:=F1 tp.hp } act w' N2 M3 ℓ3:=by
   refine⟨hD.df,hD.sl.gr g (fun _ hb=>by cases hb),fun i z hz => ?_,fun i hi => ?_,fun i j hi hj hne p hp q hq => ?_,fun i hi p hp => ?_,fun i o hn=>b.env.nlt i o hn,fun i o hn=>b.nup i o (hN i o (hD.nup i o hn)),fun i o hn => ?_,?_,fun k hk => ?_,fun k m m0 h1 h0 => ?_,fun k hk=>hD.mz k ?_⟩
   ·replace hz:(F1 tp.hp)[i]? = some z:=hz;rw[I1] at hz;rcases D9 i n0 with hi|hi
    ·by_cases hc:i∈cons
     ·rw[hothC i hi hc] at hz;simp only[F8,A0X,C3] at hz;subst hz;exact hM3c i hi hc
     cases hx:idx i with
     |none =>
      have hl3:ℓ3 i=ℓ i:=by simp only[ℓ3,hi,H1,hx,hc,E5]
      rw[hoth i hi hc hx] at hz;rw[hl3];have h0:=hD.hp i (Option.map (tb t.hp) (t.hp[i]'hi)) (by rw[E6,I1,D1 hi];rfl);rw[D1 hi] at hz;revert hz h0;generalize t.hp[i]'hi=q;intro hz h0;cases q with
      |none =>
       simp only[F8,A0X,C3] at hz;subst hz;exact⟨by rw[hM3a i hi hx hc];exact h0.1,h0.2⟩
      |some q =>
       simp only[F8,C3] at hz;subst hz;obtain⟨m,K,e1,e2,e3⟩:=h0;exact⟨m,K,by rw[hM3a i hi hx hc];exact e1,(e2.gr g (fun p hp=>hsame i hi hx p (by rw[e3];exact hp))).rowLe (A2R hhpk q),e3⟩
     |some q =>
      have hl3:ℓ3 i=ℓ2 (nq+q):=by simp only[ℓ3,hi,H1,hx]
      have hq:=idx_some i q hx;rw[hl3];have hM3i:=hM3b i q hi hx;rcases hlent q i hq with a1|⟨A,B,X,Y,o,Z,a1,a2,a3,a4,a5⟩|⟨cs,cs0,cs1,a1,a2,a3⟩
      ·rw[hput q i none hq (by rw[hB'at,a1];rfl)] at hz;simp only[F8,A0X,C3] at hz;subst hz;obtain⟨u1,u2⟩:=hF2.hp (nq+q) _ (hmovl q _ a1);exact⟨by rw[hM3i];exact u1,u2⟩
      ·rw[hput q i (some (.arr B true Y)) hq (by rw[hB'at,a2];rfl)] at hz;simp only[F8,C3] at hz;subst hz;obtain⟨m,K,e1,e2,e3⟩:=hF2.hp (nq+q) _ (hmovl q _ a2);exact⟨m,K,by rw[hM3i];exact e1,e2.dataS,e3⟩
      ·rw[hput q i (some (.box (Z7 n0 cs1))) hq (by rw[hB'at,a2];rfl)] at hz;simp only[F8,C3] at hz;subst hz;obtain⟨m,K,e1,e2,e3⟩:=hF2.hp (nq+q) _ (hmovl q _ a2);rcases C3I cm.s y np q cs1 a2 with hdat|⟨T,z,o,u1,u2,u3⟩
       ·have hsh:Z7 n0 cs1=cs1:=by
         rw[A22]
         conv=>rhs;rw[← A0q cs1]
         refine E4 fun c hc => ?_;simp only[A6c,D6] at hdat;have:=hdat c hc;cases c<;>first|rfl|cases this
        rw[hsh];exact⟨m,K,by rw[hM3i];exact e1,(e2.dat (h':=tp.hp) (M':=M3) (n:=0) hdat).2,e3⟩
       have hnq:nq=np+Y8 cm.s:=by
        show((I3 0 cm.R ρ).2++slW cm.s np y).length=_;rw[A5,A0M]
       have u4:∀ (j:Nat) (k:TB),(rsC (np+o) T z).2[j]? = some k→resB'[np+o+j]? = some k:=fun j k e=>by
        show((I3 0 cm.R ρ).2++slW cm.s np y)[np+o+j]? = _;rw[B6 (by show np≤_;omega),show np+o+j-(I3 0 cm.R ρ).2.length=o+j from by show np+o+j-np=_;omega];exact u3 j k e
       have c1:∀ c∈cs1,c.c1 hpC=true:=by
        rw[u1];exact B1U T z (np+o) fun j k e=>hCat _ k (u4 j k e)
       have hsh:Z7 n0 cs1=(rsC (np+o+n0) T z).1:=by
        rw[u1,(o9 T z (np+o+n0)).1,(o9 T z (np+o)).1,A0n]
       have c2:∀ c∈Z7 n0 cs1,c.c1 tp.hp=true:=by
        rw[hsh];refine B1U T z (np+o+n0) fun j k e => ?_;rw[(o9 T z (np+o+n0)).2] at e;rw[show np+o+n0+j=np+o+j+n0 from by omega];exact hnewAt _ k (u4 j k (by rw[(o9 T z (np+o)).2];exact e))
       have A6J:∀ c∈cs1,(av hpC c).low nq=true∧∀ h',(∀ j,j<nq→hpk hpC j=hpk h' j)→av hpC c=av h' c:=by
        rw[u1];exact A91 T z (np+o) nq (by omega)
       have hcl:(Z7 n0 cs1).length=cs1.length:=by rw[A22,C7]
       have r:=e2.rep;simp only[tb,F0,R6,D5,AV.cells,B1u c1] at r;have:K=[]:=r.bare fun x hx=>by
        obtain⟨c,hc,rfl⟩:=C5.1 hx;exact A1I (c1 c hc)
       subst this;have r2:=r.lowM (M':=fun j=>if j<nq then M2 j else none) (n:=nq) (fun j hj z e=>by simp only[hj,H1];exact e) (by
        rw[A0Z,X5,D6];exact fun c hc=>(A6J c hc).1)
       have r3:=r2.ren (M:=M3) (f:=(· + n0)) (fun j z e=>by
        by_cases hj:j<nq
        ·simp only[hj,H1] at e;show M3 (j+n0)=_;rw[Z1,hM3n j hj];exact e
        ·simp only[hj,E5] at e;cases e)
       have e5:m8 (· + n0) (cs1.map (av hpC))=(Z7 n0 cs1).map (cav tp.hp):=by
        have:cs1.map (av hpC)=cs1.map (av (resB'.map some)):=E4 fun c hc=>(A6J c hc).2 _ hClow;rw[B1u c2,this,← O8,← O8,A4e hnew]
       rw[e5] at r3;refine⟨m,[],by rw[hM3i];exact e1,⟨e2.len,by rw[e2.sz];simp[tb,hcl],by simp[tb,hcl];have:=e2.fr;simpa[tb] using this,?_,?_,fun e => ?_,e2.rm,e2.lo,fun i hi=>by simp[tb] at hi,fun _=>e2.f0 rfl⟩,e3⟩
       ·intro y hy;simp only[tb,C1] at hy;subst hy;simp[tb,AV.cells]
       ·simp only[tb,F0,R6,D5,AV.cells];exact r3
       ·have:=e2.vt e;simp[tb] at this
    ·have hi':¬ i<n0:=by omega
     rw[htp,B6 (by rw[hpm];exact hi),hpm,H3] at hz;cases hb':resB'[i-n0]? with
     |none=>rw[hb'] at hz;cases hz
     |some b' =>
      rw[hb'] at hz;simp only[F8,C3] at hz;subst hz;have hdat:A6c b'=true:=by
       rcases C9.1 (I8 hb') with h|h
       ·exact B53 cm.R ρ 0 b' h
       ·have:=B3O cm.s y _ b' h;cases b'<;>first|exact this|cases this
      have hlt2:i-n0<nq:=(B4.1 hb').1;obtain⟨m,K,e1,e2,e3⟩:=hF2.hp (i-n0) _ (hresl _ _ hb');have hl3:ℓ3 i=ℓ2 (i-n0):=by simp only[ℓ3,hi',E5]
      rw[hl3];have hM3:=hM3n (i-n0) hlt2;rw[show n0+(i-n0)=i from by omega] at hM3;exact⟨m,K,by rw[hM3];exact e1,(e2.dat (h':=tp.hp) (M':=M3) (n:=0) hdat).2,e3⟩
   ·rw[hs'len] at hi;rcases hcase i hi with⟨q1,q2,_,q3⟩|q3|⟨j,q1,q2,_⟩
    ·rw[q3];exact hD.nd i (by rw[hlh];exact q1)
    ·rw[q3];simp
    ·rw[q2];exact hF2.nd j q1
   ·rw[hs'len] at hi hj;have G2:∀ k,k<n0→idx k=none→∀ j,j<(F1 hpC).length→∀ p∈ℓ k,∀ q∈ℓ2 j,p.1≠q.1:=fun k hk hx j hj p hp q hq e=>by
     obtain⟨u1,u2⟩:=hold k hk hx p hp;rcases b.new q (hmem2 j q hq hj) with h|h
     ·omega
     ·exact u2 (e▸h)
    rcases hcase i hi with⟨u1,u2,_,u3⟩|u3|⟨i',u1,u2,u3⟩
    ·rcases hcase j hj with⟨v1,v2,_,v3⟩|v3|⟨j',v1,v2,v3⟩
     ·rw[u3] at hp;rw[v3] at hq;exact hD.dj i j (by rw[hlh];exact u1) (by rw[hlh];exact v1) hne p hp q hq
     ·rw[v3] at hq;cases hq
     ·rw[u3] at hp;rw[v2] at hq;exact G2 i u1 u2 j' v1 p hp q hq
    ·rw[u3] at hp;cases hp
    ·rcases hcase j hj with⟨v1,v2,_,v3⟩|v3|⟨j',v1,v2,v3⟩
     ·rw[u2] at hp;rw[v3] at hq;exact fun e=>G2 j v1 v2 i' u1 q hq p hp e.symm
     ·rw[v3] at hq;cases hq
     ·rw[u2] at hp;rw[v2] at hq;refine hF2.dj i' j' u1 v1 (fun e => ?_) p hp q hq;subst e;rcases u3 with⟨w1,a,w2,w3⟩|⟨w1,w2⟩
      ·rcases v3 with⟨x1,a',x2,x3⟩|⟨x1,x2⟩
       ·have:a=a':=by omega
        subst this;have e1:=idx_some i a w2;have e2:=idx_some j a x2;rw[e1] at e2;cases e2;exact hne rfl
       ·have:=(B4.1 (idx_some i a w2)).1;omega
      ·rcases v3 with⟨x1,a',x2,x3⟩|⟨x1,x2⟩
       ·omega
       ·omega
   ·rw[hs'len] at hi;rcases hcase i hi with⟨q1,q2,qc,q3⟩|q3|⟨j,q1,q2,_⟩
    ·rw[q3] at hp;obtain⟨o1,o2,o3⟩:=hD.own i (by rw[hlh];exact q1) p hp;refine⟨P7 o1 b.fr.size,o2,fun o hn => ?_⟩;rcases hN2 p.1 o hn with h|h|h|h
     ·exact o3 o h
     ·obtain⟨j,hj,hjr,z,hz,e⟩:=hXr _ h;by_cases hij:i=j
      ·subst hij;refine absurd ((hcons i).2 ⟨hjr,fun hs => ?_⟩) qc;obtain⟨i',hi'⟩:=List.getElem?_of_mem (V6.1 hs);exact idx_none i q2 i' hi'
      ·exact absurd e.symm (hD.dj i j (by rw[hlh];exact q1) (by rw[hlh];exact hj) hij p hp z hz)
     ·omega
     ·exact absurd h (hold i q1 q2 p hp).2
    ·rw[q3] at hp;cases hp
    ·rw[q2] at hp;have hpL:=hmem2 j p hp q1;obtain⟨o1,o3⟩:=b.env.own p hpL;refine⟨o1,?_,o3⟩;rcases b.new p hpL with h|h
     ·exact .inl (S2 hD.fr.size h)
     ·obtain⟨z,hz,e⟩:=C5.1 h;obtain⟨i',j',e',hz'⟩:=hL1 z hz;rw[← e];exact(hD.own j' (by rw[hlh];exact hllt i' j' e') z hz').2.1
   ·rcases hN2 i o hn with h|h|h|h
    ·exact hD.ndn i o h
    ·obtain⟨j,hj,hjr,z,hz,e⟩:=hXr _ h;rw[← e];exact .inr (hD.own j (by rw[hlh];exact hj) z hz).2.1
    ·exact .inr (.inl (S2 hD.fr.size h))
    ·obtain⟨z,hz,e⟩:=C5.1 h;obtain⟨i',j',e',hz'⟩:=hL1 z hz;rw[← e];exact .inr (hD.own j' (by rw[hlh];exact hllt i' j' e') z hz').2.1
   ·refine hD.fr.trans b.fr.toFr (fun y hy => ?_) (fun i o hn=>b.fr.nc i o (hN i o (hD.nup i o hn)));obtain⟨z,hz,rfl⟩:=C5.1 hy;obtain⟨i',j',e',hz'⟩:=hL1 z hz;exact((hD.own j' (by rw[hlh];exact hllt i' j' e') z hz').2.1).symm
   ·rw[hs'len] at hk;have h1:¬ k<n0:=by omega
    have h2:¬ k<n0+nq:=by omega
    simp only[M3,h1,h2,E5]
   ·rcases D9 k n0 with h|h
    ·by_cases hc:k∈cons
     ·rw[(hM3c k h hc).1] at h1;cases h1
     cases hx:idx k with
     |none =>
      rw[hM3a k h hx hc] at h1;exact hD.mv k m m0 h1 h0
     |some q =>
      rw[hM3b k q h hx] at h1;rcases hMi k q hx with⟨_,e,_⟩|⟨_,e⟩
      ·rw[e] at h1;cases h1
      ·rw[e] at h1;exact hD.mv k m m0 h1 h0
    ·rw[hD.mz k (by rw[hlh];exact h)] at h0;cases h0
   ·rw[hs'len] at hk;rw[hlh];omega
  obtain⟨s1,s2⟩:=A7W cm.R ρ n0;have hnpq:np≤nq:=by show np≤((I3 0 cm.R ρ).2++slW cm.s np y).length;rw[A5];exact w4 _ _
  obtain⟨lo,ec⟩:=B8n (h:=hpC) (m:=nq) (B6k cm.R ρ 0 nq (by rw[E1];exact hnpq));have e1:=ec (resB'.map some) hClow;have rr:=b.rep;have rr':Rep w' N2 M2 (av hpC (A00 (I3 0 cm.R ρ).1)) v []:=rr;rw[e1] at rr' lo;have r2:=rr'.lowM (M':=fun j=>if j<nq then M2 j else none) (n:=nq) (fun j hj z e=>by simp only[hj,H1];exact e) lo
  have r3:=r2.ren (M:=M3) (f:=(· + n0)) (fun j z e=>by
   by_cases hj:j<nq
   ·simp only[hj,H1] at e;show M3 (j+n0)=_;rw[Z1,hM3n j hj];exact e
   ·simp only[hj,E5] at e;cases e)
  refine⟨_,?_,N2,M3,_,main.d.put d r3⟩;have ehk:t.backV cons l (fxW cm.s (t.hp.length+(I3 t.hp.length cm.R ρ).2.length) y) ((I3 t.hp.length cm.R ρ).2++slW cm.s (t.hp.length+(I3 t.hp.length cm.R ρ).2.length) y)=tp:=by
   show _=t.backV cons l (fxW cm.s (n0+np) y) ((I3 0 cm.R ρ).2++slW cm.s np y);rw[show(I3 t.hp.length cm.R ρ).2=(I3 0 cm.R ρ).2 from s2,A8C cm.s y np,A8C cm.s y (t.hp.length+(I3 0 cm.R ρ).2.length)]
  have hk':k (tp.put d (A00 (I3 n0 cm.R ρ).1))=some r:=by rw[← ehk];exact hk
  refine Kt.of hk' ?_;have hle:L7 { D2 n t with hp:=F1 tp.hp } (D2 n tp):=by
   refine⟨by rw[T5];exact(T5 n t).symm,fun i => ?_,by rw[E6],fun i z hz=>⟨z,by rw[E6];exact hz,by cases z;trivial;exact R0.refl _⟩⟩;show Im ((D2 n t).sl.getD i .any) _;rw[R5,R5,show tp.get n i=flt p (t.get n i) from A2u n t _ _ p rfl i];exact A1Y hhpk _
  rw[T9];refine L7.put hle d ?_;rw[s1,B1v,B27 (hp:=resB'.map some) hnew];exact Im.refl _
theorem B61{P:Program}{S:Bool}{Ω:Type}{r:Ω}{Γ:List CX}(hΓ:∀ cx∈Γ,A9a P cx)(hS:∀ cm,CX.m cm∈Γ→S=true){f:FuncId}{xs:List TV}{d:Option Nat}{k:TS→Option Ω}(h:B58 Γ t f xs d k=some r) :
  A2s P S (D2 n t) f (xs.map (av t.hp)) d (Kt k r n):=by
 have pick:∀ {Γ:List CX} {f:FuncId} {cm:CM},B0f Γ f=some cm→CX.m cm∈Γ∧cm.f=f:=by
  intro Γ;induction Γ with
  |nil=>intro f cm h;cases h
  |cons c Γ ih =>
   intro f cm h;cases c with
   |c ct=>exact⟨I7 _ (ih h).1,(ih h).2⟩
   |m c =>
    simp only[B0f] at h;cases hb:Nat.beq c.f f with
    |true=>rw[hb,A4] at h;cases h;exact⟨by simp,by simpa using hb⟩
    |false=>rw[hb,A9] at h;exact⟨I7 _ (ih h).1,(ih h).2⟩
 unfold B58 at h;split at h
 case h_2=>cases h
 rename_i cm hp;obtain⟨h1,rfl⟩:=pick hp;cases hb:Nat.beq xs.length (k8 cm.s).length with
 |false=>rw[hb] at h;cases h
 |true =>
  rw[hb,A4] at h;have hlen:xs.length=(k8 cm.s).length:=by simpa using hb
  cases hfl:(A5Q cm.s&&A23 cm.R) with
  |true =>
   rw[hfl,A4] at h;exact B7U (hΓ _ h1) (hS _ h1) hlen (by simpa using hfl) h
  |false =>
   rw[hfl,A9] at h;exact B79 (hΓ _ h1) (hS _ h1) hlen h
end
open Go Go.RowKit
section
variable {n:Nat} {t:TS}
theorem A6r{hp:THP}:∀ {Γ:List CX} {f:FuncId} {xs:List TV} {ct:CT} {a:d9 ct.p},pick hp Γ f xs=some ⟨ct,a⟩→CX.c ct∈Γ∧ct.f=f∧(A3d ct.p≤8∧okR ct.R xs=true)∧A4m hp ct.p xs=some (a,[])
 |[],_,_,_,_,h=>by cases h
 |.m c :: Γ,f,xs,ct,a,h=>by
  obtain⟨h1,h2⟩:=A6r (Γ:=Γ) h;exact⟨I7 _ h1,h2⟩
 |.c c :: Γ,f,xs,ct,a,h=>by
  simp only[pick] at h;cases hb:(Nat.beq c.f f&&(Nat.ble (A3d c.p) 8&&okR c.R xs)) with
  |false =>
   rw[hb,A9] at h;obtain⟨h1,h2⟩:=A6r h;exact⟨I7 _ h1,h2⟩
  |true =>
   rw[hb,A4] at h;split at h
   ·rename_i a' e;simp only[A6,F4] at hb;cases h;exact⟨by simp,hb.1,⟨H6 hb.2.1,hb.2.2⟩,e⟩
   ·obtain⟨h1,h2⟩:=A6r h;exact⟨I7 _ h1,h2⟩
def ΓOk(P:Program)(S:Bool)(Γ:List CX):Prop:=(∀ cx∈Γ,A9a P cx)∧∀ cm,CX.m cm∈Γ→S=true
theorem A4N:∀ {Γ:List CX} {cx:CX},cx∈B2W Γ→cx∈Γ∧∀ cm,cx ≠ .m cm
 |[],_,h=>by cases h
 |.c ct :: Γ,cx,h=>by
  simp only[B2W,D8] at h;rcases h with rfl|h
  ·exact⟨by simp,fun cm e=>by cases e⟩
  ·exact⟨I7 _ (A4N h).1,(A4N h).2⟩
 |.m cm :: Γ,cx,h=>by
  have:=A4N (Γ:=Γ) (cx:=cx) h;exact⟨I7 _ this.1,this.2⟩
theorem B0e{P:Program}{Γ:List CX}(h:∀ cx∈Γ,A9a P cx)(S:Bool):ΓOk P S (A6J S Γ):=by
 cases S with
 |true=>exact⟨h,fun _ _=>rfl⟩
 |false=>exact⟨fun cx hc=>h cx (A4N hc).1,fun cm hc=>absurd rfl ((A4N hc).2 cm)⟩
mutual
theorem C6q(hp:THP):∀ x:TV,C0q x=true→ci (av hp x)=true
 |.v T x,_=>by rw[av];exact A4T T x
 |.nil,_=>by simp[av,ci]
 |.ag cs,h=>by
  simp only[C0q] at h;rw[av,ci];exact B3o hp cs h
 |.any,h | .c _,h | .emp,h | .tp _,h | .own _,h | .sub _ _ _,h | .ptr _ _ _,h | .ipv _ _ _,h | .ipt _,h | .fn _ _,h=>by simp[C0q] at h
theorem B3o(hp:THP):∀ xs:List TV,B3u xs=true→ciL (avL hp xs)=true
 |[],_=>rfl
 |x :: xs,h=>by
  simp only[B3u,A6] at h;rw[avL,ciL,C6q hp x h.1,B3o hp xs h.2];rfl
end
theorem B0E{P:Program}{S:Bool}{Ω:Type}{r:Ω}{Γ:List CX}(hΓ:ΓOk P S Γ){f:FuncId}{xs:List TV}{d:Option Nat}{k:TS→Option Ω}(h:B5v Γ t f xs d k=some r) :
  A2s P S (D2 n t) f (xs.map (av t.hp)) d (Kt k r n):=by
 unfold B5v at h;split at h
 ·rename_i ct a hp;obtain⟨h1,h2,h3,h4⟩:=A6r hp;obtain⟨y,hy,hk⟩:=U7.1 h;obtain⟨x1,e,hi⟩:=A8Y _ _ _ _ h4 8 h3.1;rw[D5] at e;subst e;have hpt:A9x ct.R=true:=by
   have:=h3.2;simp only[okR,b7,A6] at this;exact this.elim A61 (·.1)
  have hK:∀ x hp',Is (A5z ct.R y) (A3K ct.R y) x hp'→Kt k r n (AS.put { D2 n t with hp:=(D2 n t).hp++impA (D2 n t).hp.length hp' } d (ren (· + (D2 n t).hp.length) x)):=by
   rintro x hp' ⟨rfl,rfl⟩;refine Kt.of hk ?_;rw[T9,E6,F3];obtain⟨s1,s2⟩:=A7W ct.R y t.hp.length;have hle:=L7.newL (n:=n) (t:=t) (B0U ct.R hpt y t.hp.length);rw[s2] at hle;rw[s2];refine L7.put hle d ?_;rw[s1,B1v,B27 (hp:=A9b ct.R y)]
   ·exact Im.refl _
   ·exact fun j=>C6T j
  have hac:AC P f ((xs.map (av t.hp)).map (vw (D2 n t).hp 8)) [] (Is (A5z ct.R y) (A3K ct.R y)):=by
   have:=(show J9 P ct from hΓ.1 _ h1) a y hy;rw[h2] at this;refine this.args ?_;rw[H7];exact hi
  cases hv:A23 ct.R with
  |true =>
   refine .a ⟨Is (A5z ct.R y) (A3K ct.R y),hac,?_⟩;exact fun x hp' hx=>⟨by rw[hx.1];exact C0v _ hv _,by rw[hx.2];exact B9d _ hv _,hK x hp' hx⟩
  |false =>
   have hd:B3u xs=true:=by
    have:=h3.2;simp only[okR,hv,p9,A6] at this;exact this.2
   have hci:(xs.map (av t.hp)).all ci=true:=by
    have:=B3o t.hp xs hd;rw[A1e,O8] at this;exact this
   refine .v ⟨hci,Is (A5z ct.R y) (A3K ct.R y),?_,hK⟩;have e:(xs.map (av t.hp)).map (vw (D2 n t).hp 8)=xs.map (av t.hp):=by
    refine(E4 fun x hx => ?_).trans (A0q _);exact A0F ((D6.1 hci) x hx)
   rwa [e] at hac
 ·exact B61 hΓ.1 hΓ.2 h
end
end Go.Proofs.YtkmhopbmpeiofaaGreat.Nx
