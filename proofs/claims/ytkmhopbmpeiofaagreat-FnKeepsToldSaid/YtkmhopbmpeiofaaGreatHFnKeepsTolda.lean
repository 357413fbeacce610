/- Each function of the program that is reached computes the datum printed here: no condition beyond the arguments that its contract names. -/
import Derived.Test.YtkmhopbmpeiofaaGreatNxq
import Derived.Test.YtkmhopbmpeiofaaGreatChecked
import Derived.KernelRfl
import Derived.Shelf.Spec.SlicesInsertGrow
import Derived.Lib.Strings
import Derived.Lib.Slices
import Derived.Lib.Walk
import Derived.Lib.Bytealg
namespace Go.Proofs.YtkmhopbmpeiofaaGreat.Nx
open Go Go.RowKit Go.Lib
set_option linter.unusedVariables false
set_option linter.unusedSimpArgs false
theorem A6h{P:Program}(w:World)(dT sT ty elem:TypeId)(b o dLen dCap:Nat)(a:Addr)(sLen sCap:Nat)(cs:List Value)(sz n:Nat)
  (hu:P.underlying dT=some (.slice elem)) (hs:(P.info? elem).map (·.size)=some sz) (hn:n=Nat.min sLen dLen) (hl:cs.length=n*sz)
  (hsrc:∀ j v,cs[j]? = some v→w.cell? (a.add j)=some v) (hc:∀ j,j<cs.length→(w.cell? ⟨b,o+j,none⟩).isSome=true) (hf:∀ j,j<cs.length→w.frozen? ⟨b,o+j,none⟩=false) (h1:∀ v∈cs,v.oneCell'=true) :
  (Builtin.copy_ #[dT,sT] ty #[.slice (some ⟨b,o,none⟩) dLen dCap,.slice (some a) sLen sCap]).run P w=.ok (goInt n) (w.setCells b o cs):=by
 have hl':=run_loadCells_list (P:=P) w a cs hsrc;have hst:=run_storeCells_cells (P:=P) b o cs 0 w (by simpa using hc) (by simpa using hf) h1;cases hq:P.info? elem with
 |none=>simp[hq] at hs
 |some i =>
  have hi:i.size=sz:=by simpa[hq] using hs
  simp[Builtin.copy_,run_underlying hu,Builtin.lenOf,Builtin.firstCells,sizeOf,typeInfo,hq,hi,← hn,← hl,hl',hst]
def C5i(P:Program)(f:FuncId):Prop:=∀ (b off n c vb voff vc:Nat) (vs:List Value) (w:World),n+1≤c→n≤1000000000→vs.length=2 →
 (∀ j,j<2→(w.cell? ⟨b,off+n*2+j,none⟩).isSome=true)→(∀ j,j<2→w.frozen? ⟨b,off+n*2+j,none⟩=false) →
 (∀ j v,vs[j]? = some v→w.cell? ⟨vb,voff+j,none⟩=some v)→(∀ v∈vs,v.oneCell'=true) →
 Calls P f #[.slice (some ⟨b,off,none⟩) n c,.int .i64 n,.slice (some ⟨vb,voff,none⟩) 1 vc] w fun e w' =>
  e=.returned (.slice (some ⟨b,off,none⟩) (n+1) c)∧w'=w.setCells b (off+n*2) vs
def C5B(P:Program)(f:FuncId)(E:TypeId)(zc:Array Value):Prop:=∀ (base:Option Addr) (n c vb voff vc:Nat) (cs vs:List Value) (w:World),n≤c→c<n+1→n≤1000000000 →
 cs.length=n*2→vs.length=2→(base=none→n=0)→(∀ a,base=some a→∀ j v,cs[j]? = some v→w.cell? (a.add j)=some v) →
 (∀ j v,vs[j]? = some v→w.cell? ⟨vb,voff+j,none⟩=some v)→(∀ v∈vs,v.oneCell'=true) →
 Calls P f #[.slice base n c,.int .i64 n,.slice (some ⟨vb,voff,none⟩) 1 vc] w fun e w' =>
  e=.returned (.slice (some ⟨w.heap.size,0,none⟩) (n+1) (grownCap w (n+1) c E)) ∧
  w'=w.drew.alloc (.cells ((cs++vs).toArray++Builtin.zeroCells zc (grownCap w (n+1) c E-(n+1))) E)
def C5z(P:Program)(f:FuncId):Prop:=∀ (b off n c i vb voff vc:Nat) (cs vs:List Value) (w:World),i<n→n+1≤c→n≤1000000000→vb≠b →
 cs.length=n*2→vs.length=2→(∀ j v,cs[j]? = some v→w.cell? ⟨b,off+j,none⟩=some v)→(∀ j,j<(n+1)*2→(w.cell? ⟨b,off+j,none⟩).isSome=true)→(∀ j,j<(n+1)*2→w.frozen? ⟨b,off+j,none⟩=false) →
 (∀ j v,vs[j]? = some v→w.cell? ⟨vb,voff+j,none⟩=some v)→(∀ v∈cs,v.oneCell'=true)→(∀ v∈vs,v.oneCell'=true) →
 ∀ (tA tB:TypeId) (kA kB:Nat),w.shape? vb=some (tA,kA)→w.shape? b=some (tB,kB)→kB≠0→w.frozen? ⟨vb,voff,none⟩=false→w.frozen? ⟨vb,kA,none⟩=false →
 Calls P f #[.slice (some ⟨b,off,none⟩) n c,.int .i64 i,.slice (some ⟨vb,voff,none⟩) 1 vc] w fun e w' =>
  e=.returned (.slice (some ⟨b,off,none⟩) (n+1) c)∧w'=(w.drew.setCells b (off+(i+1)*2) (cs.drop (i*2))).setCells b (off+i*2) vs
def C5M(P:Program)(f:FuncId)(E:TypeId)(zc:Array Value):Prop:=∀ (b off n c i vb voff vc:Nat) (cs vs:List Value) (w:World),i<n→n≤c→c<n+1→n≤1000000000 →
 cs.length=n*2→vs.length=2→(∀ j v,cs[j]? = some v→w.cell? ⟨b,off+j,none⟩=some v) →
 (∀ j v,vs[j]? = some v→w.cell? ⟨vb,voff+j,none⟩=some v)→(∀ v∈cs,v.oneCell'=true)→(∀ v∈vs,v.oneCell'=true) →
 Calls P f #[.slice (some ⟨b,off,none⟩) n c,.int .i64 i,.slice (some ⟨vb,voff,none⟩) 1 vc] w fun e w' =>
  e=.returned (.slice (some ⟨w.heap.size,0,none⟩) (n+1) (grownCap w (n+1) c E)) ∧
  w'=(((w.alloc (.cells ((cs.take (i*2)).toArray++Builtin.zeroCells zc (n+1-i)++Builtin.zeroCells zc (grownCap w (n+1) c E-(n+1))) E)).drew.setCells w.heap.size (i*2) vs).drew).setCells w.heap.size ((i+1)*2) (cs.drop (i*2))
section
variable {w w':World} {N N':NT} {M M':MT}
theorem C6o{x:AV}{v:Value}{L:List Nat}(r:Rep w N M x v L)(h1:x.cell1=true):v.oneCell'=true:=by
 cases r with
 |val u=>cases v<;>first|rfl|cases h1
 |any=>cases h1
 |agg=>cases h1
 |tup=>cases h1
 |_=>rfl
theorem A3f:∀ {xs:List AV} {vs:List Value} {L:List Nat},F5 w N M xs vs L→(∀ x∈xs,x.cell1=true)→∀ v∈vs,v.oneCell'=true
 |[],_,_,h,_=>by cases h;intro v hv;cases hv
 |x :: xs,_,_,h,h1=>by
  cases h with
  |cons hx ht =>
   intro v hv;rcases D8.1 hv with rfl|hv
   ·exact C6o hx (h1 x (by simp))
   ·exact A3f ht (fun y hy=>h1 y (by simp[hy])) v hv
theorem A1J{x:AV}{xs:List AV}{us:List Value}{L:List Nat}(h:F5 w N M (x :: xs) us L):∃ v vs L1 L2,us=v :: vs∧L=L1++L2∧Rep w N M x v L1∧F5 w N M xs vs L2:=by
 cases h with
 |cons h1 h2=>exact⟨_,_,_,_,rfl,rfl,h1,h2⟩
theorem B1s{j ver off len:Nat}{v:Value}{L:List Nat}(h:Rep w N M (.ref j ver off len) v L):∃ a cap mm,v=.slice a len cap∧M j=some mm∧∀ m,mm=some m→ver≤m.len∧(ver=m.len→A8A w m off len a cap):=by
 cases h with
 |ref mm h1 h2=>exact⟨_,_,mm,rfl,h1,h2⟩
theorem A4g(T:Ty)(X:List (Den T)):((X.map (enc true T)).flatMap AV.cells).length=X.length*T.sz:=by
 rw[v5 (sz:=T.sz) (fun y hy => ?_),C7];obtain⟨q,_,rfl⟩:=C5.1 hy;rw[N6,O0]
theorem A4q(T:Ty)(X:List (Den T)):∀ x∈(X.map (enc true T)).flatMap AV.cells,x.cell1=true:=fun x hx=>by
 obtain⟨y,hy,hx⟩:=J6.1 hx;obtain⟨q,_,rfl⟩:=C5.1 hy;rw[N6] at hx;exact(A1p true T q x hx).1
theorem A32(T:Ty)(X Y:List (Den T)):((X++Y).map (enc true T)).flatMap AV.cells=(X.map (enc true T)).flatMap AV.cells++(Y.map (enc true T)).flatMap AV.cells:=by
 rw[G0,O1]
theorem A15.shape{z b n:Nat}(h:A15 w z b n):∃ e k,w.shape? b=some (e,k)∧n≤k∧(z≠1→w.frozen? ⟨b,k,none⟩=false):=by
 obtain⟨c,e,fz,h1,h2,h3⟩:=h;refine⟨e,c.size,by simp[World.shape?,h1],h2,fun hz => ?_⟩;obtain⟨lo,hi⟩:=fz;rcases h3.2 with h|h
 ·exact absurd h hz
 ·have h:hi≤c.size:=h;simp only[World.frozen?,h1];simp;omega
theorem B4b{xs:List AV}{vs:List Value}{K:List Nat}(hl:q9 0 xs=true)(r:F5 w N M xs vs K):F5 w N M' xs vs K:=by
 have r1:=r.lowM (M':=M') (n:=0) (fun j hj=>by omega) hl;exact r1
theorem C37{mn:Cn}{L:List (Nat×Nat)}{T:Ty}{X V Z:List (Den T)}{cap:Nat}{zs:List Value}{LZ:List Nat}
  (henv:Env w N M [some ⟨T.sz,0,X.map (enc true T),0⟩,some ⟨T.sz,0,V.map (enc true T),0⟩] L)
  (hz:F5 w N M ((Z.map (enc true T)).flatMap AV.cells) zs LZ) (hfr:FrN N (L.map Prod.fst) w w') (hs:∀ b∈LZ,t2 w w' b)
  (hmsz:mn.sz=T.sz) (hml:mn.len=Z.length) (hmf:mn.fr=0) (hmv:mn.virt=false)
  (hcell:∀ j,j<zs.length→w'.cell? ⟨mn.b,mn.o+j,none⟩=zs[j]?) (hroom:A15 w' T.sz mn.b (mn.o+cap*T.sz)) (hcap:Z.length≤cap)
  (hnb:mn.b<w'.heap.size) (hNb:∀ o,N mn.b o→False) (hnd:(mn.b :: LZ).Nodup) (hin:∀ b∈LZ,(b,0)∈L) (hmb:w.heap.size≤mn.b∨mn.b∈L.map Prod.fst) :
  ∃ N' M' L',B0p w N M L [some (.arr T true Z),none,none] 1 (.own 0) (.slice (some ⟨mn.b,mn.o,none⟩) Z.length cap) w' N' M' L':=by
 let M':MT:=fun k=>if k=0 then some (some mn) else if k≤2 then some none else none
 have g:Gr w w' N N M M:=⟨hfr.shp,hfr.nc,fun _ _ h=>h,fun j x hx=>⟨x,hx,fun m hm=>⟨m,hm,.inl rfl⟩⟩⟩;have hz':=B4b (M':=M') (A3c 0 true T Z) (hz.gr g hs);have hbr:BR w' N M' ⟨T.sz,0,Z.map (enc true T),0⟩ mn LZ:=by
  refine⟨by rw[hml];simp,hmsz,by rw[hmf];exact P1 _,fun y hy => ?_,I0.of_values hz' hcell,fun e=>(by rw[hmv] at e;cases e),fun _ => ?_,P1 _,fun i hi=>absurd hi (by simp),fun _=>hmf⟩
  ·obtain⟨q,_,rfl⟩:=C5.1 hy;rw[N6,O0]
  ·obtain⟨c,e,fz,h1,h2,h3⟩:=hroom;rw[hmsz,hml];exact⟨c,e,fz,h1,S2 (i5 (O2 _ hcap) _) h2,h3⟩
 have hown:H0 mn LZ=(mn.b,0) :: LZ.map (fun b=>(b,0)):=by simp[H0,hmv,hmf]
 have hfst:(H0 mn LZ).map Prod.fst=mn.b :: LZ:=by rw[hown];simp[n8]
 refine⟨N,M',H0 mn LZ++[],?_,⟨?_,?_,?_,?_,?_⟩,hfr,fun _ _ h=>h,fun _ _ h=>.inl h,fun p hp => ?_,fun k m m0' h1 h2 => ?_⟩
 ·have e:av [some (TB.arr T true Z),none,none] (TV.own 0)=.ref 0 Z.length 0 Z.length:=by simp[av,hpk,TB.rlen]
  rw[e];refine .ref (some mn) (by simp[M']) fun m e => ?_;cases e;exact⟨by omega,fun _=>⟨by omega,.inr ⟨hmv,by simp,hcap,by rw[hmsz];simpa using hroom⟩⟩⟩
 ·exact .live (by simp[M']) hbr (.dead (by simp[M']) (.dead (by simp[M']) (.nil _)))
 ·rw[D5,hfst];exact hnd
 ·intro p hp;rw[D5,hown] at hp;rcases D8.1 hp with rfl|hp
  ·exact⟨hnb,fun o h=>absurd (hNb o h) id⟩
  ·obtain⟨b,hb,rfl⟩:=C5.1 hp;have:=henv.own _ (hin b hb);exact⟨P7 this.1 hfr.size,this.2⟩
 ·exact fun b o h=>P7 (henv.nlt b o h) hfr.size
 ·intro k hk;have hk:3≤k:=hk;simp[M',show k≠0 from by omega,show ¬ k≤2 from by omega]
 ·rw[D5,hown] at hp;rcases D8.1 hp with rfl|hp
  ·exact hmb
  ·obtain⟨b,hb,rfl⟩:=C5.1 hp;exact .inr (L9 (f:=Prod.fst) (hin b hb))
 ·exfalso;simp only[M'] at h1;rw[G6 (by omega)] at h1;split at h1<;>cases h1
end
open Go Go.RowKit Go.Lib
set_option linter.unusedVariables false
set_option linter.unusedSimpArgs false
theorem A0v(w:World)(b o:Nat)(vs:List Value):Fr [b] w (w.setCells b o vs):=by
 obtain⟨h1,h2,h3,h4,h5,h6⟩:=A1D b vs o w;exact⟨h4,h5,h6,by rw[h1];exact B9 _,fun k _ hk=>h2 k (by simpa using hk),h3⟩
theorem A96(X:List Nat)(w:World):Fr X w w.drew:=⟨rfl,rfl,rfl,B9 _,fun _ _ _=>rfl,fun _ c _ _ h=>⟨c,h,rfl⟩⟩
def A39{α:Type}(X:List α)(i:Int)(V:List α):List α:=X.take i.toNat++V++X.drop i.toNat
theorem C3u{α:Type}{X:List α}{i:Int}{V:List α}(h0:0≤i)(h1:i≤X.length):(A39 X i V).length=X.length+V.length:=by
 unfold A39;simp only[A5,E7,I4];omega
theorem C8d{P:Program}{f:FuncId}{E:TypeId}{zc:Array Value}(hg:Good P f)(hzc:zc.size=2)(rA:C5i P f)(rB:C5B P f E zc)(rC:C5z P f)(rD:C5M P f E zc)(T:Ty)(hT:T.sz=2) :
  t5 P ⟨f,.pr (.mo 0 T) (.pr (.d 1 (.i .i64)) (.mo 2 T)),.t (.sl T),fun x=>bif (decide (0≤x.2.1)&&decide (x.2.1≤(x.1.length:Int)))&&(decide (x.1.length≤1000000000)&&Nat.beq x.2.2.length 1) then some (A39 x.1 x.2.1 x.2.2,((),((),()))) else none⟩:=by
 rintro ⟨X,i,V⟩ r hr;change List (Den T) at X;change Int at i;change List (Den T) at V;have hr:(bif (decide (0≤i)&&decide (i≤(X.length:Int)))&&(decide (X.length≤1000000000)&&Nat.beq V.length 1) then some (A39 X i V,((),((),()))) else none:Option (List (Den T)×(Unit×(Unit×Unit))))=some r:=hr;cases hb:(decide (0≤i)&&decide (i≤(X.length:Int)))&&(decide (X.length≤1000000000)&&Nat.beq V.length 1) with
 |false=>rw[hb] at hr;cases hr
 |true =>
 rw[hb] at hr;have hr:some (A39 X i V,((),((),())))=some r:=hr;obtain rfl:=(P3 hr).symm;clear hr;simp only[A6,D7,F4] at hb;obtain⟨⟨hi0,hi1⟩,hn,hV⟩:=hb;refine⟨rfl,hg,fun w N M L us henv hrep => ?_⟩;have henv:Env w N M [some ⟨T.sz,0,X.map (enc true T),0⟩,some ⟨T.sz,0,V.map (enc true T),0⟩] L:=henv;have hgoal:∀ Q:Prop,Q→Q:=fun _ h=>h
 obtain⟨k,hk⟩:∃ k:Nat,k=i.toNat:=⟨_,rfl⟩;have hik:i=(k:Int):=by omega
 have hkn:k≤X.length:=by omega
 have hh:=henv.hr;cases hh with
 |@live _ _ m0 L0 _ L' hm0 hb0 hh =>
 cases hh with
 |@live _ _ m1 L1 _ L'' hm1 hb1 hh =>
 cases hh;have hv1:m1.virt=false:=by
  cases hv:m1.virt with
  |false=>rfl
  |true =>
   have:=hb1.vt hv;have hl:(V.map (enc true T)).length=0:=by
    have h:V.map (enc true T)=[]:=this;rw[h];rfl
   rw[C7] at hl;omega
 have hf1:m1.fr=0:=hb1.f0 rfl;have hf0:m0.fr=0:=hb0.f0 rfl;have hl0:m0.len=X.length:=by rw[hb0.len];simp
 have hl1:m1.len=1:=by rw[hb1.len];simp[hV]
 have hz0:m0.sz=2:=by rw[hb0.sz];exact hT
 have hz1:m1.sz=2:=by rw[hb1.sz];exact hT
 have ho1:H0 m1 L1=(m1.b,0) :: L1.map (fun b=>(b,0)):=by simp[H0,hv1,hf1]
 have hrep:F5 w N M [.ref 0 X.length 0 X.length,.val (.int .i64 i),.ref 1 V.length 0 V.length] us []:=hrep;obtain⟨u0,us1,K0,K1,rfl,e0,r0,hrep⟩:=A1J hrep;obtain⟨u1,us2,K2,K3,rfl,e1,r1,hrep⟩:=A1J hrep;obtain⟨u2,us3,K4,K5,rfl,e2,r2,hrep⟩:=A1J hrep;obtain rfl:us3=[]:=by cases hrep;rfl
 obtain⟨a0,c0,mm0,rfl,hM0,q0⟩:=B1s r0;obtain⟨a2,c2,mm2,rfl,hM2,q2⟩:=B1s r2;obtain rfl:u1=.int .i64 i:=by cases r1;rfl
 rw[hm0] at hM0;cases hM0;rw[hm1] at hM2;cases hM2;obtain⟨_,q0⟩:=q0 m0 rfl;obtain⟨_,q2⟩:=q2 m1 rfl;obtain⟨_,q2⟩:=q2 (by omega);obtain⟨_,q0⟩:=q0 (by omega);rcases q2 with⟨h,_⟩|⟨_,rfl,_,hroom1⟩
 ·omega
 rw[hV,hz1,A2m,H2];have hrep0:I0 w N M m0.b m0.o ((X.map (enc true T)).flatMap AV.cells) L0:=hb0.rep;rw[← G3 k X,A32] at hrep0;obtain⟨LA,LB,rfl,hA,hB⟩:=hrep0.append;obtain⟨cA,rA',lA,gA⟩:=hA.values;obtain⟨cB,rB',lB,gB⟩:=hB.values;obtain⟨cV,rV',lV,gV⟩:=hb1.rep.values;have rV':F5 w N M ((V.map (enc true T)).flatMap AV.cells) cV L1:=rV'
 have lV:cV.length=((V.map (enc true T)).flatMap AV.cells).length:=lV;have gV:∀ i,i<((V.map (enc true T)).flatMap AV.cells).length→w.cell? ⟨m1.b,m1.o+i,none⟩=cV[i]? := gV;have eA:(((X.take k).map (enc true T)).flatMap AV.cells).length=k*2:=by rw[A4g,hT,E7,X4 hkn]
 have eB:(((X.drop k).map (enc true T)).flatMap AV.cells).length=(X.length-k)*2:=by rw[A4g,hT,I4]
 have eV:((V.map (enc true T)).flatMap AV.cells).length=2:=by rw[A4g,hT,hV]
 rw[eA] at lA gA gB;rw[eB] at lB gB;rw[eV] at lV gV;have oA:=A3f rA' (A4q T _);have oB:=A3f rB' (A4q T _);have oV:=A3f rV' (A4q T _);have hzs:F5 w N M (((A39 X i V).map (enc true T)).flatMap AV.cells) (cA++cV++cB) (LA++L1++LB):=by
  unfold A39;rw[← hk,A32,A32];exact F5.join (F5.join rA' rV') rB'
 have hcs:∀ j v,(cA++cB)[j]? = some v→w.cell? ⟨m0.b,m0.o+j,none⟩=some v:=fun j v hj=>by
  rw[A0j] at hj;split at hj
  ·rw[gA j (by omega)];exact hj
  ·have hjl:=(B4.1 hj).1;have:=gB (j-cA.length) (by omega);rw[← hj,← this];congr 2;omega
 have hcl:(cA++cB).length=X.length*2:=by rw[A5,lA,lB];omega
 have hvs:∀ j v,cV[j]? = some v→w.cell? ⟨m1.b,m1.o+j,none⟩=some v:=fun j v hj=>by
  rw[gV j (by have:=(B4.1 hj).1;omega)];exact hj
 have htk:(cA++cB).take (k*2)=cA:=by rw[← lA,List.take_left]
 have hdr:(cA++cB).drop (k*2)=cB:=by rw[← lA,List.drop_left]
 have hoc:∀ v∈cA++cB,v.oneCell'=true:=fun v hv=>by
  rcases C9.1 hv with h|h
  ·exact oA v h
  ·exact oB v h
 have hNo:∀ b,(b,0)∈H0 m0 (LA++LB)++(H0 m1 L1++[])→b<w.heap.size∧∀ o,N b o→False:=fun b hb=>by
  obtain⟨h1,h2⟩:=henv.own (b,0) hb;exact⟨h1,fun o ho=>absurd (h2 o ho) (Nat.not_lt_zero o)⟩
 have hin0:∀ b∈LA++LB,(b,0)∈H0 m0 (LA++LB):=fun b hb=>by
  cases hv:m0.virt with
  |true =>
   have h:=hb0.vt hv;have h:X.map (enc true T)=[]:=h;have hr:=hb0.rep;have hr:I0 w N M m0.b m0.o ((X.map (enc true T)).flatMap AV.cells) (LA++LB):=hr;rw[h] at hr;generalize LA++LB=LZ at hr hb;cases hr;cases hb
  |false=>simp only[H0,hv,E0,E5];exact I7 _ (C5.2 ⟨b,hb,rfl⟩)
 have hin1:∀ b∈L1,(b,0)∈H0 m1 L1:=fun b hb=>by rw[ho1];exact I7 _ (C5.2 ⟨b,hb,rfl⟩)
 have hin:∀ b∈LA++L1++LB,(b,0)∈H0 m0 (LA++LB)++(H0 m1 L1++[]):=fun b hb=>by
  rcases C9.1 hb with hb|hb
  ·rcases C9.1 hb with hb|hb
   ·exact O3 _ (hin0 b (O3 _ hb))
   ·exact Q3 _ (O3 _ (hin1 b hb))
  ·exact O3 _ (hin0 b (Q3 _ hb))
 have hin':(m1.b,0)∈H0 m0 (LA++LB)++(H0 m1 L1++[]):=by rw[ho1];simp
 have hperm:(LA++L1++LB).Perm (LA++LB++L1):=by
  rw[F9,F9];exact List.perm_append_comm.append_left LA
 have hndl:(LA++L1++LB).Nodup:=by
  refine hperm.nodup_iff.2 ?_;have hnd:=henv.nd;rw[D5,G0,J3] at hnd;obtain⟨h1,h2,h3⟩:=hnd;have e1:(H0 m1 L1).map Prod.fst=m1.b :: L1:=by rw[ho1];simp[n8]
  rw[e1] at h2 h3;refine J3.2 ⟨?_,(H9.1 h2).2,fun a ha b hb=>h3 a (C5.2 ⟨_,hin0 a ha,rfl⟩) b (I7 _ hb)⟩;cases hv:m0.virt with
  |true =>
   have h:X.map (enc true T)=[]:=hb0.vt hv;have hr:I0 w N M m0.b m0.o ((X.map (enc true T)).flatMap AV.cells) (LA++LB):=hb0.rep;rw[h] at hr;generalize LA++LB=LZ at hr;cases hr;exact A4v
  |false =>
   simp only[H0,hv,E0,E5,F6,H7,n8,List.map_id'] at h1;exact(H9.1 h1).2
 have hlz:(A39 X i V).length=X.length+1:=by rw[C3u hi0 hi1,hV]
 have hzl:(cA++cV++cB).length=(X.length+1)*2:=by rw[A5,A5,lA,lB,lV];omega
 have fin:∀ (x o c':Nat) (w':World),Fr [x] w w'→(∀ o,N x o→False)→(w.heap.size≤x∨(x,0)∈H0 m0 (LA++LB)++(H0 m1 L1++[])∧x ∉ LA++L1++LB)→x<w'.heap.size→A15 w' 2 x (o+c'*2)→X.length+1≤c' →
   (∀ j,j<(cA++cV++cB).length→w'.cell? ⟨x,o+j,none⟩=(cA++cV++cB)[j]?) →
   ∃ v,Ending.returned (.slice (some ⟨x,o,none⟩) (X.length+1) c')=.returned v∧∃ N' M' L',B0p w N M (H0 m0 (LA++LB)++(H0 m1 L1++[])) [some (.arr T true (A39 X i V)),none,none] 1 (.own 0) v w' N' M' L':=by
  intro x o c' w' hfr hNx hx hxs hroom hc' hcell;have hxm:w.heap.size≤x∨x∈(H0 m0 (LA++LB)++(H0 m1 L1++[])).map Prod.fst:=by
   rcases hx with h|⟨h,_⟩
   ·exact .inl h
   ·exact .inr (C5.2 ⟨_,h,rfl⟩)
  have hnx:∀ b∈LA++L1++LB,b≠x:=fun b hb e=>by
   rcases hx with h|⟨_,h⟩
   ·have:=(hNo b (hin b hb)).1;omega
   ·exact h (e▸hb)
  have hF:FrN N ((H0 m0 (LA++LB)++(H0 m1 L1++[])).map Prod.fst) w w':=by
   refine⟨⟨hfr.os,hfr.tape,hfr.output,hfr.size,fun k hk hkn=>hfr.block k hk fun hm => ?_,hfr.shp⟩,fun b o hn=>hfr.same (henv.nlt b o hn) (fun hm => ?_) o⟩
   ·have hm:k=x:=by simpa using hm
    rcases hxm with h|h
    ·omega
    ·exact hkn (hm▸h)
   ·have hm:b=x:=by simpa using hm
    exact hNx o (hm▸hn)
  refine⟨_,rfl,?_⟩;have:=C37 (mn:=⟨x,o,2,X.length+1,0,false⟩) (cap:=c') (Z:=A39 X i V) henv hzs hF (fun b hb=>hfr.same (hNo b (hin b hb)).1 (by simpa using hnx b hb)) hT.symm hlz.symm rfl rfl hcell (by rw[hT];exact hroom) (by omega) hxs hNx
   (H9.2 ⟨fun h=>hnx x h rfl,hndl⟩) hin hxm
  rw[hlz] at this;exact this
 have hbw:∀ o,N w.heap.size o→False:=fun o ho=>by have:=henv.nlt _ _ ho;omega
 have hnx0:m0.virt=false→m0.b ∉ LA++L1++LB∧(m0.b,0)∈H0 m0 (LA++LB)++(H0 m1 L1++[])∧m1.b≠m0.b:=fun hv=>by
  have hnd:=henv.nd;rw[D5,G0] at hnd;have e0:(H0 m0 (LA++LB)).map Prod.fst=m0.b :: (LA++LB):=by simp[H0,hv,n8]
  have e1:(H0 m1 L1).map Prod.fst=m1.b :: L1:=by rw[ho1];simp[n8]
  rw[e0,e1,Y9,H9] at hnd;refine⟨fun h=>hnd.1 ?_,by simp[H0,hv,hf0],fun h=>hnd.1 (h▸by simp)⟩;rcases C9.1 (hperm.mem_iff.1 h) with h|h
  ·exact O3 _ h
  ·exact Q3 _ (I7 _ h)
 have hsh1:=hroom1.shape;obtain⟨tA,kA,hsA,hlA,hmA⟩:=hsh1;have hmA:=hmA (by omega);have hlA:m1.o+2≤kA:=by
  rw[hz1] at hlA;have:1≤c2:=by omega
  omega
 have hfA:w.frozen? ⟨m1.b,m1.o,none⟩=false:=(hroom1.cell (by rw[hz1];omega)).2;have hgrow:∀ (base:Option Addr),X.length≤c0→c0<X.length+1→k=X.length→(base=none→X.length=0)→(∀ a,base=some a→X.length=0∨a=⟨m0.b,m0.o,none⟩) →
   Calls P f #[.slice base X.length c0,.int .i64 i,.slice (some ⟨m1.b,m1.o,none⟩) 1 c2] w fun e w'=>∃ v,e=.returned v∧∃ N' M' L',B0p w N M (H0 m0 (LA++LB)++(H0 m1 L1++[])) [some (.arr T true (A39 X i V)),none,none] 1 (.own 0) v w' N' M' L':=by
  intro base hc hr hkX hb0' hb1';rw[show Value.int .i64 i=.int .i64 (X.length:Int) from by rw[hik,hkX]];refine(rB base X.length c0 m1.b m1.o c2 (cA++cB) cV w hc hr hn hcl lV hb0' (fun a ha j v hj => ?_) hvs oV).mono fun e w' ⟨he,hw⟩ => ?_
  ·rcases hb1' a ha with h|rfl
   ·have:=(B4.1 hj).1;omega
   ·rw[Addr.add_lit];exact hcs j v hj
  ·have hG:X.length+1≤grownCap w (X.length+1) c0 E:=grownCap_ge w _ _ _;generalize grownCap w (X.length+1) c0 E=G at he hw hG;subst hw;subst he;have hcB:cB=[]:=G7.1 (by rw[lB];omega);subst hcB
   have hp:d6 w (w.drew.alloc (.cells ((cA++[]++cV).toArray++Builtin.zeroCells zc (G-(X.length+1))) E)) ((cA++[]++cV).toArray++Builtin.zeroCells zc (G-(X.length+1))) E (0,0):=⟨rfl,rfl,rfl,rfl⟩;have hsz:((cA++[]++cV).toArray++Builtin.zeroCells zc (G-(X.length+1))).size=G*2:=by
    simp only[A2M,n7,D5,A5,Builtin.zeroCells,Array.size_map,Array.size_range,hzc];omega
   refine fin w.heap.size 0 G _ (hp.fr _) hbw (.inl (B9 _)) (by rw[hp.size];omega) ⟨_,E,(0,0),hp.new,by rw[hsz];omega,A5W _⟩ hG fun j hj => ?_;rw[A67 hp.new,E1,j6 (by simpa using hj)];simp
 rcases q0 with⟨hx0,rfl⟩|⟨hv0,rfl,hle0,hroom0⟩
 ·exact hgrow a0 (by omega) (by omega) (by omega) (fun _=>hx0) (fun _ _=>.inl hx0)
 ·rw[hz0,A2m,H2];rw[hz0,E1] at hroom0;obtain⟨hnx,hbL,hne⟩:=hnx0 hv0;have hN0:=(hNo m0.b hbL).2;have hs0:=(hNo m0.b hbL).1;by_cases hkX:k=X.length
  ·by_cases hc:X.length+1≤c0
   ·rw[show Value.int .i64 i=.int .i64 (X.length:Int) from by rw[hik,hkX]];have hsp:∀ j,j<2→(w.cell? ⟨m0.b,m0.o+X.length*2+j,none⟩).isSome=true:=fun j hj=>(hroom0.cell (by omega)).1;refine(rA m0.b m0.o X.length c0 m1.b m1.o c2 cV w hc hn lV hsp (fun j hj=>(hroom0.cell (by omega)).2) hvs oV).mono fun e w' ⟨he,hw⟩ => ?_;subst hw;subst he;have hcB:cB=[]:=G7.1 (by rw[lB];omega)
    subst hcB;have hf:=A0v w m0.b (m0.o+X.length*2) cV;refine fin m0.b m0.o c0 _ hf hN0 (.inr ⟨hbL,hnx⟩) (P7 hs0 hf.size) (hroom0.gr hf.shp) hc fun j hj => ?_;rw[d2 (fun j hj=>hsp j (by omega))];rw[D5] at hj ⊢;rw[A5] at hj;split
    ·rw[B6 (by omega)];congr 1;omega
    ·rw[B7 (by omega)];exact gA j (by omega)
   ·exact hgrow _ hle0 (by omega) hkX (fun h=>by cases h) (fun a h=>by cases h;exact .inr rfl)
  ·have hklt:k<X.length:=by omega
   rw[show Value.int .i64 i=.int .i64 (k:Int) from by rw[hik]];have hin2:∀ {j:Nat},j<(cA++cV++cB).length→(j<k*2∧(cA++cV++cB)[j]? = cA[j]?)∨(k*2≤j∧j<k*2+2∧(cA++cV++cB)[j]? = cV[j-k*2]?)∨(k*2+2≤j∧j<k*2+2+cB.length∧(cA++cV++cB)[j]? = cB[j-(k*2+2)]?):=fun {j} hj=>by
    rw[A5,A5] at hj;by_cases h1:j<k*2
    ·refine .inl ⟨h1,?_⟩;rw[F9,B7 (by omega)]
    ·by_cases h2:j<k*2+2
     ·refine .inr (.inl ⟨by omega,h2,?_⟩);rw[B7 (by rw[A5];omega),B6 (by omega)];congr 1;omega
     ·refine .inr (.inr ⟨by omega,by omega,?_⟩);rw[B6 (by rw[A5];omega)];congr 1;rw[A5];omega
   by_cases hc:X.length+1≤c0
   ·obtain⟨tB,kB,hsB,hlB,_⟩:=hroom0.shape;have hsp:∀ j,j<(X.length+1)*2→(w.cell? ⟨m0.b,m0.o+j,none⟩).isSome=true:=fun j hj=>(hroom0.cell (by omega)).1;refine(rC m0.b m0.o X.length c0 k m1.b m1.o c2 (cA++cB) cV w hklt hc hn hne hcl lV hcs hsp (fun j hj=>(hroom0.cell (by omega)).2) hvs hoc oV tA tB kA kB hsA hsB (by omega) hfA hmA).mono fun e w' ⟨he,hw⟩ => ?_;rw[hdr] at hw
    have hf1:Fr [m0.b] w (w.drew.setCells m0.b (m0.o+(k+1)*2) cB):=(A96 [m0.b] w).trans (A0v w.drew m0.b (m0.o+(k+1)*2) cB) fun y hy=>.inl hy;have hf:=hf1.trans (A0v (w.drew.setCells m0.b (m0.o+(k+1)*2) cB) m0.b (m0.o+k*2) cV) fun y hy=>.inl hy;have hr1:=hroom0.gr hf1.shp
    have hcw:∀ j,(w.drew.setCells m0.b (m0.o+(k+1)*2) cB).cell? ⟨m0.b,j,none⟩=if m0.o+(k+1)*2≤j∧j<m0.o+(k+1)*2+cB.length then cB[j-(m0.o+(k+1)*2)]? else w.cell? ⟨m0.b,j,none⟩:=fun j=>d2 (w:=w.drew) (fun t ht=>(hroom0.cell (by omega)).1) j;rw[← hw] at hf;subst he;refine fin m0.b m0.o c0 w' hf hN0 (.inr ⟨hbL,hnx⟩) (P7 hs0 hf.size) (hroom0.gr hf.shp) hc fun j hj => ?_
    rw[hw,d2 (fun t ht=>(hr1.cell (by omega)).1),hcw];rcases hin2 hj with⟨h1,h2⟩|⟨h1,h3,h2⟩|⟨h1,h3,h2⟩
    ·rw[h2,G6 (by omega),G6 (by omega)];exact gA j h1
    ·rw[h2,E9 (by omega)];congr 1;omega
    ·rw[h2,G6 (by omega),E9 (by omega)];congr 1;omega
   ·refine(rD m0.b m0.o X.length c0 k m1.b m1.o c2 (cA++cB) cV w hklt hle0 (by omega) hn hcl lV hcs hvs hoc oV).mono fun e w' ⟨he,hw⟩ => ?_;rw[hdr,htk] at hw;have hG:X.length+1≤grownCap w (X.length+1) c0 E:=grownCap_ge w _ _ _;generalize grownCap w (X.length+1) c0 E=G at he hw hG;subst he;have hsz:(cA.toArray++Builtin.zeroCells zc (X.length+1-k)++Builtin.zeroCells zc (G-(X.length+1))).size=G*2:=by
     simp only[A2M,n7,Builtin.zeroCells,Array.size_map,Array.size_range,hzc];omega
    have hget:∀ j,j<k*2→(cA.toArray++Builtin.zeroCells zc (X.length+1-k)++Builtin.zeroCells zc (G-(X.length+1)))[j]? = cA[j]? := fun j hj=>by
     rw[Array.append_assoc,j6 (by simpa[lA] using hj)];simp
    generalize cA.toArray++Builtin.zeroCells zc (X.length+1-k)++Builtin.zeroCells zc (G-(X.length+1))=ROW at hw hsz hget;have hp:d6 w (w.alloc (.cells ROW E)).drew ROW E (0,0):=⟨rfl,rfl,rfl,rfl⟩;generalize (w.alloc (.cells ROW E)).drew=W1 at hw hp;have hr1:A15 W1 2 w.heap.size (0+G*2):=⟨_,E,(0,0),hp.new,by omega,A5W _⟩
    have hf2:=(hp.fr [w.heap.size]).trans (A0v W1 w.heap.size (k*2) cV) fun y hy=>.inl hy;have hr2:=hr1.gr (A0v W1 w.heap.size (k*2) cV).shp;have hf3:=hf2.trans (A96 [w.heap.size] _) fun y hy=>.inl hy;have hf:=hf3.trans (A0v (W1.setCells w.heap.size (k*2) cV).drew w.heap.size ((k+1)*2) cB) fun y hy=>.inl hy
    have hr3:=hr2.gr ((A96 [w.heap.size] _).trans (A0v (W1.setCells w.heap.size (k*2) cV).drew w.heap.size ((k+1)*2) cB) fun y hy=>.inl hy).shp;have hc1:∀ j,(W1.setCells w.heap.size (k*2) cV).cell? ⟨w.heap.size,j,none⟩=if k*2≤j∧j<k*2+cV.length then cV[j-k*2]? else W1.cell? ⟨w.heap.size,j,none⟩:=fun j=>d2 (fun t ht=>(hr1.cell (by omega)).1) j
    have hc2:∀ j,w'.cell? ⟨w.heap.size,j,none⟩=if (k+1)*2≤j∧j<(k+1)*2+cB.length then cB[j-(k+1)*2]? else(W1.setCells w.heap.size (k*2) cV).cell? ⟨w.heap.size,j,none⟩:=fun j=>by
     rw[hw];exact d2 (w:=(W1.setCells w.heap.size (k*2) cV).drew) (fun t ht=>(hr2.cell (by omega)).1) j
    rw[← hw] at hf hr3
    refine fin w.heap.size 0 G w' hf hbw (.inl (B9 _)) (by have:=hf.size;have:=hp.size;have h4:=(A0v W1 w.heap.size (k*2) cV).size;have h5:=(A0v (W1.setCells w.heap.size (k*2) cV).drew w.heap.size ((k+1)*2) cB).size;rw[← hw] at h5;have h6:(W1.setCells w.heap.size (k*2) cV).drew.heap.size=(W1.setCells w.heap.size (k*2) cV).heap.size:=rfl;omega) hr3 hG fun j hj => ?_
    rw[E1,hc2,hc1];rcases hin2 hj with⟨h1,h2⟩|⟨h1,h3,h2⟩|⟨h1,h3,h2⟩
    ·rw[h2,G6 (by omega),G6 (by omega),A67 hp.new];exact hget j h1
    ·rw[h2,G6 (by omega),E9 (by omega)]
    ·rw[h2,E9 (by omega)];congr 1;omega
end Go.Proofs.YtkmhopbmpeiofaaGreat.Nx
namespace Go.Proofs.InsW
open Go Go.Proofs Go.Shelf Go.RowKit Go.Lib Go.Proofs.YtkmhopbmpeiofaaGreat.Nx
set_option linter.unusedSimpArgs false
set_option linter.unusedVariables false
theorem t0:Tryz.prog.underlying 42=some (.slice 74):=by kernel_rfl
theorem t3:Tryz.prog.underlying 3=some (.int .i64):=by kernel_rfl
theorem t4:Tryz.prog.underlying 4=some .bool:=by kernel_rfl
theorem iE:(Tryz.prog.info? 74).map (fun i=>(i.zero,i.size,i.bytes))=some (some (.agg #[.int .i64 0,.slice none 0 0]),2,32):=by kernel_rfl
theorem aS(w:World):(isAgg 42).run Tryz.prog w=.ok false w:=by kernel_rfl
theorem a3(w:World):(isAgg 3).run Tryz.prog w=.ok false w:=by kernel_rfl
theorem a4(w:World):(isAgg 4).run Tryz.prog w=.ok false w:=by kernel_rfl
theorem zE(w:World):(Go.sizeOf 74).run Tryz.prog w=.ok 2 w:=by kernel_rfl
theorem zS(w:World):(Go.sizeOf 42).run Tryz.prog w=.ok 1 w:=by kernel_rfl
theorem z3(w:World):(Go.sizeOf 3).run Tryz.prog w=.ok 1 w:=by kernel_rfl
theorem z4(w:World):(Go.sizeOf 4).run Tryz.prog w=.ok 1 w:=by kernel_rfl
theorem vS(w:World):(zeroValue 42).run Tryz.prog w=.ok (.slice none 0 0) w:=by kernel_rfl
theorem v3(w:World):(zeroValue 3).run Tryz.prog w=.ok (.int .i64 0) w:=by kernel_rfl
theorem v4(w:World):(zeroValue 4).run Tryz.prog w=.ok (.bool false) w:=by kernel_rfl
theorem G2:Tryz.prog.follows .mixedOrders=true:=by kernel_rfl
theorem A4C:∃ i,Tryz.prog.info? 74=some i∧i.zero=some (.agg #[.int .i64 0,.slice none 0 0])∧i.size=2∧i.bytes=32:=by
 have h:=iE;cases hq:Tryz.prog.info? 74 with
 |none=>rw[hq] at h;cases h
 |some i =>
  rw[hq] at h;simp only[F8,C3,P5] at h;exact⟨i,rfl,h.1,h.2.1,h.2.2⟩
theorem C5D(w:World)(a:Addr)(vc:Nat)(vs:List Value)(hvl:vs.length=2)(hvs:∀ j v,vs[j]? = some v→w.cell? (a.add j)=some v)(h1v:∀ v∈vs,v.oneCell'=true):Src Tryz.prog 2 42 (.slice (some a) 1 vc) 1 vs w :=
 Src.ofSlice w t0 a 1 vc vs (by omega) hvs h1v
set_option maxHeartbeats 4000000 in
set_option maxRecDepth 100000 in
theorem ins_end_room:C5i Tryz.prog 51:=by
 intro b off n c vb voff vc vs w hroom hn hvl hsp hfz hvs h1v;have t0:=t0;have t3:=t3;have t4:=t4;have aS:=aS;have a3:=a3;have a4:=a4;have zE:=zE;have zS:=zS;have z3:=z3;have z4:=z4;have vS:=vS;have v3:=v3;have v4:=v4;have u0:=run_underlying t0;have u3:=run_underlying t3;have u4:=run_underlying t4;have G2:=G2;obtain⟨i0,hi0,hz0,hzs,hzb⟩:=A4C
 have hsrc:=C5D w ⟨vb,voff,none⟩ vc vs hvl (fun j v h=>by rw[Addr.add_lit];exact hvs j v h) h1v;have hrun:∀ ty,(Builtin.append_ #[42,42] ty #[.slice (some ⟨b,off,none⟩) n c,.slice (some ⟨vb,voff,none⟩) 1 vc]).run Tryz.prog w=.ok (.slice (some ⟨b,off,none⟩) (n+1) c) (w.setCells b (off+n*2) vs):=fun ty=>by
  have:=run_append_room_src (w:=w) 42 42 ty 74 i0 t0 hi0 b off n c (.slice (some ⟨vb,voff,none⟩) 1 vc) 1 vs (by rw[hzs];exact hsrc) hroom (by rw[hzs,hvl];exact hsp) (by rw[hzs,hvl];exact hfz);rw[hzs] at this;exact this
 go_enter Tryz.func51,Tryz.ntmps51
 go_wp2_with (at_builtin;refine Lib.wpList_append_run _ rfl _ _ _ _ rfl _ _ rfl rfl _ _ (hrun _) ?_)
 go_ret
 exact⟨rfl,rfl⟩
set_option maxHeartbeats 4000000 in
set_option maxRecDepth 100000 in
theorem ins_end_grow:C5B Tryz.prog 51 74 #[.int .i64 0,.slice none 0 0]:=by
 intro base n c vb voff vc cs vs w hnc hroom hn hcl hvl hnil hcs hvs h1v;have hbig:(n+1)*32≤140737488355328:=by omega
 have t0:=t0;have t3:=t3;have t4:=t4;have aS:=aS;have a3:=a3;have a4:=a4;have zE:=zE;have zS:=zS;have z3:=z3;have z4:=z4;have vS:=vS;have v3:=v3;have v4:=v4;have u0:=run_underlying t0;have u3:=run_underlying t3;have u4:=run_underlying t4;have G2:=G2;obtain⟨i0,hi0,hz0,hzs,hzb⟩:=A4C;have hsrc:Src Tryz.prog i0.size 42 (.slice (some ⟨vb,voff,none⟩) 1 vc) 1 vs w:=by
  rw[hzs];exact C5D w ⟨vb,voff,none⟩ vc vs hvl (fun j v h=>by rw[Addr.add_lit];exact hvs j v h) h1v
 have hold:(Builtin.firstCells i0.size n (.slice base n c)).run Tryz.prog w.drew=.ok cs.toArray w.drew:=by
  rw[hzs];cases base with
  |none =>
   have h0:=hnil rfl;subst h0;rw[G7.1 (by omega:cs.length=0)];exact run_firstCells_none w.drew 2 0 0 c
  |some a=>exact run_firstCells_some w.drew 2 n a n c cs (by omega) (fun j v hj=>hcs a rfl j v hj)
 have hrun:∀ ty,(Builtin.append_ #[42,42] ty #[.slice base n c,.slice (some ⟨vb,voff,none⟩) 1 vc]).run Tryz.prog w=_:=fun ty =>
  run_append_grow_src w 42 42 ty 74 i0 _ t0 hi0 hz0 base n c cs hold _ 1 vs hsrc hroom (by omega) (by rw[hzb];exact growslice_fits hroom hbig)
 go_enter Tryz.func51,Tryz.ntmps51
 cases base with
 |none =>
  have h0:=hnil rfl;subst h0
  go_wp2_with (at_builtin;refine Lib.wpList_append_run _ rfl _ _ _ _ rfl _ _ rfl rfl _ _ (hrun _) ?_)
  go_ret
  exact⟨rfl,rfl⟩
 |some a =>
  obtain⟨ab,ao,asp⟩:=a
  go_wp2_with (at_builtin;refine Lib.wpList_append_run _ rfl _ _ _ _ rfl _ _ rfl rfl _ _ (hrun _) ?_)
  all_goals (go_ret;exact⟨rfl,rfl⟩)
set_option maxHeartbeats 4000000 in
set_option maxRecDepth 100000 in
theorem ins_shift:C5z Tryz.prog 51:=by
 intro b off n c i vb voff vc cs vs w hi hroom hn hvb hcl hvl hcs hsp hfz hvs h1c h1v tA tB kA kB hsa hsb hkB hfa hfe;have t0:=t0;have t3:=t3;have t4:=t4;have aS:=aS;have a3:=a3;have a4:=a4;have zE:=zE;have zS:=zS;have z3:=z3;have z4:=z4;have vS:=vS;have v3:=v3;have v4:=v4;have u0:=run_underlying t0;have u3:=run_underlying t3;have u4:=run_underlying t4;have hz2:¬ ((i:Int)=(n:Int)):=by omega
 have hsz:(Tryz.prog.info? 74).map (·.size)=some 2:=by
  obtain⟨i0,hi0,h0,h1,h2⟩:=A4C;rw[hi0];simp[h1]
 have hov:∀ lb cb,(callFunc 79 #[.slice (some ⟨vb,voff,none⟩) 1 vc,.slice (some ⟨b,off+(i+1)*2,none⟩) lb cb]).run Tryz.prog w=.ok (.value (.bool false)) w:=fun lb cb=>by
  rw[run_callFunc_extern Tryz.func79 (by kernel_rfl) (by kernel_rfl) (by kernel_rfl) (e:=Extern.SlicesOverlaps.overlaps #[42,42] #[4]) (by kernel_rfl),
   Lib.run_overlaps_apart w 42 4 74 t0 2 zE ⟨vb,voff,none⟩ ⟨b,off+(i+1)*2,none⟩ 1 vc lb cb hvb tA tB kA kB hsa hsb hkB hfa hfe]
  rfl
 have hdl:(cs.drop (i*2)).length=(n-i)*2:=by rw[I4,hcl];omega
 have G2:=G2;have hw1:IntKind.i64.wrap ((i:Int)+1)=(i:Int)+1:=by rw[IntKind.wrap_i64];omega
 have hw2:IntKind.i64.wrap ((n:Int)+1)=(n:Int)+1:=by rw[IntKind.wrap_i64];omega
 have hb1:(0:Int)≤(i:Int)+1:=by omega
 have hin:i≤n:=by omega
 have htn:((i:Int)+1).toNat=i+1:=by omega
 have htm:((n:Int)+1).toNat=n+1:=by omega
 have hb2:¬ (c=i+1):=by omega
 have hb3:(i:Int)≤(n:Int)+1:=by omega
 have hb4:¬ (c=i):=by omega
 have hcp1:∀ ty dc sc,(Builtin.copy_ #[42,42] ty #[.slice (some ⟨b,off+(i+1)*2,none⟩) (n-i) dc,.slice (some ⟨b,off+i*2,none⟩) (n+1-i) sc]).run Tryz.prog w.drew=.ok (goInt (n-i:Nat)) (w.drew.setCells b (off+(i+1)*2) (cs.drop (i*2))):=fun ty dc sc =>
  A6h w.drew _ _ ty 74 b (off+(i+1)*2) (n-i) dc ⟨b,off+i*2,none⟩ (n+1-i) sc (cs.drop (i*2)) 2 (n-i) t0 hsz (by simp only[A60];split<;>omega) hdl
   (fun j v hj=>by rw[Addr.add_lit,G4];exact hcs (i*2+j) v (by rwa [m3] at hj))
   (fun j hj=>by rw[G4];exact hsp _ (by omega)) (fun j hj=>by rw[G4];exact hfz _ (by omega)) (fun v hv=>h1c v (R3 hv))
 obtain⟨W1,hW1⟩:∃ W1,W1=w.drew.setCells b (off+(i+1)*2) (cs.drop (i*2)):=⟨_,rfl⟩;have hsp1:∀ k,k<(n+1)*2→(W1.cell? ⟨b,off+k,none⟩).isSome=true:=fun k hk=>by
  rw[hW1];exact isSome_setCells b _ _ _ (fun j hj=>by rw[G4];exact hsp _ (by omega)) _ (hsp k hk)
 have hcp2:∀ (W:World),(∀ x,W.cell? x=W1.cell? x)→(∀ x,W.frozen? x=W1.frozen? x)→∀ ty dc,(Builtin.copy_ #[42,42] ty #[.slice (some ⟨b,off+i*2,none⟩) (n+1-i) dc,.slice (some ⟨vb,voff,none⟩) 1 vc]).run Tryz.prog W=.ok (goInt 1) (W.setCells b (off+i*2) vs):=fun W hWc hWf ty dc =>
  A6h W _ _ ty 74 b (off+i*2) (n+1-i) dc ⟨vb,voff,none⟩ 1 vc vs 2 1 t0 hsz (by simp only[A60];split<;>omega) (by omega)
   (fun j v hj=>by
    rw[Addr.add_lit,hWc,hW1,World.cell?_setCells_out b _ _ _ _ (fun h _=>absurd h hvb)];exact hvs j v hj)
   (fun j hj=>by rw[hWc,G4];exact hsp1 _ (by omega)) (fun j hj=>by rw[hWf,hW1,World.frozen?_setCells,G4];exact hfz _ (by omega)) h1v
 rw[← hW1] at hcp1
 go_enter Tryz.func51,Tryz.ntmps51
 go_wp2_with (simp only[hov])
 go_region_law_o (refine step_copy_runI rfl _ _ 42 42 rfl _ _ (by simp[Act.eval,Act.put]) (by simp[Act.eval,Act.put]) (hcp1 _ _ _) ?_)
 go_wp2_with (at_builtin;refine wpList_copy_runI _ rfl _ _ 42 42 rfl _ _ rfl rfl (hcp2 _ (fun _=>rfl) (fun _=>rfl) _ _) ?_)
 go_ret
 first|exact⟨rfl,rfl⟩|exact⟨rfl,by rw[hW1]⟩
set_option maxHeartbeats 4000000 in
set_option maxRecDepth 100000 in
theorem ins_grow:C5M Tryz.prog 51 74 #[.int .i64 0,.slice none 0 0]:=by
 intro b off n c i vb voff vc cs vs w hi hnc hroom hn hcl hvl hcs hvs h1c h1v;have hbig:(n+1)*32≤140737488355328:=by omega
 have t0:=t0;have t3:=t3;have t4:=t4;have aS:=aS;have a3:=a3;have a4:=a4;have zE:=zE;have zS:=zS;have z3:=z3;have z4:=z4;have vS:=vS;have v3:=v3;have v4:=v4;have u0:=run_underlying t0;have u3:=run_underlying t3;have u4:=run_underlying t4;have G2:=G2;obtain⟨i0,hi0,hz0,hzs,hzb⟩:=A4C;have hz2:¬ ((i:Int)=(n:Int)):=by omega
 have hz3:(c:Int)<(n:Int)+1:=by omega
 have hsz:(Tryz.prog.info? 74).map (·.size)=some 2:=by rw[hi0];simp[hzs]
 have hbw:b<w.heap.size:=block_lt_of_cell (hcs 0 _ (D1 (by omega)));have hvw:vb<w.heap.size:=block_lt_of_cell (hvs 0 _ (D1 (by omega)));have hkk:(n:Int)+1-(i:Int)=((n+1-i:Nat):Int):=by omega
 have hik:i+(n+1-i)=n+1:=by omega
 have hold:(Builtin.firstCells i0.size i (.slice (some ⟨b,off,none⟩) i c)).run Tryz.prog w.drew=.ok (cs.take (i*2)).toArray w.drew:=by
  rw[hzs];exact run_firstCells_some w.drew 2 i ⟨b,off,none⟩ i c (cs.take (i*2)) (by rw[E7];omega) (fun j v hj=>by
   rw[Addr.add_lit];rw[A0W] at hj;split at hj
   ·exact hcs j v hj
   ·cases hj)
 have hrz:∀ ty,(Builtin.append_ #[42,3] ty #[.slice (some ⟨b,off,none⟩) i c,.int .i64 ((n:Int)+1-(i:Int))]).run Tryz.prog w =
   .ok (.slice (some ⟨w.heap.size,0,none⟩) (n+1) (grownCap w (n+1) c 74)) (w.drew.alloc (.cells ((cs.take (i*2)).toArray++Builtin.zeroCells #[.int .i64 0,.slice none 0 0] (n+1-i)++Builtin.zeroCells #[.int .i64 0,.slice none 0 0] (grownCap w (n+1) c 74-(n+1))) 74)):=fun ty=>by
  have h:=Lib.run_append_grow_zeros w 42 3 ty 74 i0 _ .i64 .i64 t0 t3 hi0 hz0 (some ⟨b,off,none⟩) i c (cs.take (i*2)) hold (n+1-i) (by omega) (by omega) (by omega) (by omega) (by rw[hzb];omega) (by rw[hzb,hik];exact growslice_fits hroom hbig);rw[hik] at h;rw[hkk];exact h
 obtain⟨G,hG⟩:∃ G,G=grownCap w (n+1) c 74:=⟨_,rfl⟩;obtain⟨ROW,hROW⟩:∃ ROW:Array Value,ROW=(cs.take (i*2)).toArray++Builtin.zeroCells #[.int .i64 0,.slice none 0 0] (n+1-i)++Builtin.zeroCells #[.int .i64 0,.slice none 0 0] (G-(n+1)):=⟨_,rfl⟩;rw[← hG] at hrz ⊢;rw[← hROW] at hrz ⊢;have hRl:(n+1)*2≤ROW.size:=by
  rw[hROW];simp[Builtin.zeroCells,Value.cells];omega
 obtain⟨W1,hW1⟩:∃ W1,W1=w.drew.alloc (.cells ROW 74):=⟨_,rfl⟩;rw[← hW1] at hrz;have hN:∀ j,j<(n+1)*2→(W1.cell? ⟨w.heap.size,j,none⟩).isSome=true:=fun j hj=>by
  rw[hW1,World.cell?_alloc_at (w:=w.drew) ROW _ w.heap.size j rfl,T3 (by omega)];rfl
 have hNf:∀ j,W1.frozen? ⟨w.heap.size,j,none⟩=false:=fun j=>by rw[hW1];exact World.frozen?_alloc_at (w:=w.drew) ROW _ w.heap.size j rfl
 have hOb:∀ j v,w.cell? ⟨b,j,none⟩=some v→W1.cell? ⟨b,j,none⟩=some v:=fun j v h=>by rw[hW1,World.cell?_alloc_past (w:=w.drew) _ b j hbw];exact h
 have hOv:∀ j v,w.cell? ⟨vb,j,none⟩=some v→W1.cell? ⟨vb,j,none⟩=some v:=fun j v h=>by rw[hW1,World.cell?_alloc_past (w:=w.drew) _ vb j hvw];exact h
 have hcpA:∀ (W:World),(∀ x,W.cell? x=W1.cell? x)→(∀ x,W.frozen? x=W1.frozen? x)→∀ ty dc,(Builtin.copy_ #[42,42] ty #[.slice (some ⟨w.heap.size,i*2,none⟩) (n+1-i) dc,.slice (some ⟨vb,voff,none⟩) 1 vc]).run Tryz.prog W=.ok (goInt 1) (W.setCells w.heap.size (i*2) vs):=fun W hWc hWf ty dc =>
  A6h W _ _ ty 74 w.heap.size (i*2) (n+1-i) dc ⟨vb,voff,none⟩ 1 vc vs 2 1 t0 hsz (by simp only[A60];split<;>omega) (by omega)
   (fun j v hj=>by rw[Addr.add_lit,hWc];exact hOv _ v (hvs j v hj))
   (fun j hj=>by rw[hWc];exact hN _ (by omega)) (fun j hj=>by rw[hWf];exact hNf _) h1v
 have hGn:n+1≤G:=by rw[hG];exact grownCap_ge w _ _ _
 have hG63:G≤9223372036854775807:=by
  have:=grownCap_le_maxLen w (n+1) c 74 (by unfold maxLen;omega);rw[← hG] at this;unfold maxLen at this;omega
 have hGi:¬ (G=i):=by omega
 have hGim:¬ (G=i+1):=by omega
 have hci:¬ (c=i):=by omega
 have hbN:b≠w.heap.size:=by omega
 have hdl:(cs.drop (i*2)).length=(n-i)*2:=by rw[I4,hcl];omega
 have hcpB:∀ (W:World),(∀ x,W.cell? x=(W1.setCells w.heap.size (i*2) vs).cell? x)→(∀ x,W.frozen? x=(W1.setCells w.heap.size (i*2) vs).frozen? x)→∀ ty dc sc,(Builtin.copy_ #[42,42] ty #[.slice (some ⟨w.heap.size,(i+1)*2,none⟩) (n-i) dc,.slice (some ⟨b,off+i*2,none⟩) (n-i) sc]).run Tryz.prog W=.ok (goInt (n-i:Nat)) (W.setCells w.heap.size ((i+1)*2) (cs.drop (i*2))):=fun W hWc hWf ty dc sc =>
  A6h W _ _ ty 74 w.heap.size ((i+1)*2) (n-i) dc ⟨b,off+i*2,none⟩ (n-i) sc (cs.drop (i*2)) 2 (n-i) t0 hsz (by simp only[A60];split<;>omega) hdl
   (fun j v hj=>by
    rw[Addr.add_lit,hWc,World.cell?_setCells_out _ _ _ _ _ (fun h _=>absurd h hbN),G4];exact hOb _ v (hcs (i*2+j) v (by rwa [m3] at hj)))
   (fun j hj=>by rw[hWc];exact isSome_setCells _ _ _ _ (fun t ht=>hN _ (by omega)) _ (hN _ (by omega)))
   (fun j hj=>by rw[hWf,World.frozen?_setCells];exact hNf _) (fun v hv=>h1c v (R3 hv))
 subst hW1;have hE1:∀ x,((w.alloc (.cells ROW 74)).drew).cell? x=(w.drew.alloc (.cells ROW 74)).cell? x:=fun x=>rfl;have hE2:∀ x,((w.alloc (.cells ROW 74)).drew).frozen? x=(w.drew.alloc (.cells ROW 74)).frozen? x:=fun x=>rfl;have hF1:∀ x,(((w.alloc (.cells ROW 74)).drew.setCells w.heap.size (i*2) vs).drew).cell? x=((w.drew.alloc (.cells ROW 74)).setCells w.heap.size (i*2) vs).cell? x:=fun x=>rfl
 have hF2:∀ x,(((w.alloc (.cells ROW 74)).drew.setCells w.heap.size (i*2) vs).drew).frozen? x=((w.drew.alloc (.cells ROW 74)).setCells w.heap.size (i*2) vs).frozen? x:=fun x=>rfl;have hw1:IntKind.i64.wrap ((i:Int)+1)=(i:Int)+1:=by rw[IntKind.wrap_i64];omega
 have hw2:IntKind.i64.wrap ((n:Int)+1)=(n:Int)+1:=by rw[IntKind.wrap_i64];omega
 have hw3:IntKind.i64.wrap ((n:Int)+1-(i:Int))=(n:Int)+1-(i:Int):=by rw[IntKind.wrap_i64];omega
 have hb1:(0:Int)≤(i:Int)+1:=by omega
 have hin:i≤n:=by omega
 have htn:((i:Int)+1).toNat=i+1:=by omega
 have hb3:(i:Int)≤(n:Int):=by omega
 have hb5:(i:Int)≤(n:Int)+1:=by omega
 have hb6:(i:Int)≤(c:Int):=by omega
 clear hkk hik hold hROW hG hRl
 go_enter Tryz.func51,Tryz.ntmps51
 go_wp2_with (first
  |(at_builtin;refine Lib.wpList_append_run _ rfl _ _ _ _ rfl _ _ rfl rfl _ _ (hrz _) ?_)
  |(at_builtin;refine wpList_copy_runI _ rfl _ _ 42 42 rfl _ _ rfl rfl (hcpA _ hE1 hE2 _ _) ?_)
  |(at_builtin;refine wpList_copy_runI _ rfl _ _ 42 42 rfl _ _ rfl rfl (hcpB _ (fun _=>rfl) (fun _=>rfl) _ _ _) ?_))
 go_region_law_o (refine step_copy_runI rfl _ _ 42 42 rfl (.slice (some ⟨w.heap.size,(i+1)*2,none⟩) (n-i) (G-(i+1))) (.slice (some ⟨b,off+i*2,none⟩) (n-i) (c-i)) (by simp[Act.eval,Act.put]) (by simp[Act.eval,Act.put]) (hcpB _ hF1 hF2 3 (G-(i+1)) (c-i)) ?_)
 go_wp2
 go_ret
 exact⟨rfl,rfl⟩
theorem ins_good:Go.Proofs.YtkmhopbmpeiofaaGreat.Nx.Good Tryz.prog 51:=⟨_,Tryz.func51,by kernel_rfl,by kernel_rfl⟩
end Go.Proofs.InsW
namespace Go.Proofs.YtkmhopbmpeiofaaGreat.Nx
open Go Go.RowKit Go.Lib
set_option linter.unusedVariables false
set_option linter.unusedSimpArgs false
def C9T(P:Program)(f:FuncId)(zc:List Value):Prop:=∀ (b off c i m:Nat) (cs:List Value) (w:World),i+1+m≤c→i+1+m≤1000000000→cs.length=(i+1+m)*2 →
 (∀ j v,cs[j]? = some v→w.cell? ⟨b,off+j,none⟩=some v)→(∀ j,j<(i+1+m)*2→w.frozen? ⟨b,off+j,none⟩=false)→(∀ v∈cs,v.oneCell'=true) →
 Calls P f #[.slice (some ⟨b,off,none⟩) (i+1+m) c,.int .i64 i,.int .i64 ((i:Int)+1)] w fun e w' =>
  e=.returned (.slice (some ⟨b,off,none⟩) (i+m) c)∧w'=(w.drew.setCells b (off+i*2) (cs.drop ((i+1)*2))).setCells b (off+(i+m)*2) zc
def A6K{α:Type}(X:List α)(i:Int):List α:=X.take i.toNat++X.drop (i.toNat+1)
theorem C47{w w':World}{N:NT}{M:MT}{hp:HP}{mn:Cn}{L:List (Nat×Nat)}{T:Ty}{Z:List (Den T)}{cap:Nat}{zs:List Value}{LZ:List Nat}
  (henv:Env w N M hp L)
  (hz:F5 w N M ((Z.map (enc true T)).flatMap AV.cells) zs LZ) (hfr:FrN N (L.map Prod.fst) w w') (hs:∀ b∈LZ,t2 w w' b)
  (hmsz:mn.sz=T.sz) (hml:mn.len=Z.length) (hmf:mn.fr=0) (hmv:mn.virt=false)
  (hcell:∀ j,j<zs.length→w'.cell? ⟨mn.b,mn.o+j,none⟩=zs[j]?) (hroom:A15 w' T.sz mn.b (mn.o+cap*T.sz)) (hcap:Z.length≤cap)
  (hnb:mn.b<w'.heap.size) (hNb:∀ o,N mn.b o→False) (hnd:(mn.b :: LZ).Nodup) (hin:∀ b∈LZ,(b,0)∈L) (hmb:w.heap.size≤mn.b∨mn.b∈L.map Prod.fst) :
  ∃ N' M' L',B0p w N M L [some (.arr T true Z),none] 1 (.own 0) (.slice (some ⟨mn.b,mn.o,none⟩) Z.length cap) w' N' M' L':=by
 let M':MT:=fun k=>if k=0 then some (some mn) else if k≤1 then some none else none
 have g:Gr w w' N N M M:=⟨hfr.shp,hfr.nc,fun _ _ h=>h,fun j x hx=>⟨x,hx,fun m hm=>⟨m,hm,.inl rfl⟩⟩⟩;have hz':=B4b (M':=M') (A3c 0 true T Z) (hz.gr g hs);have hbr:BR w' N M' ⟨T.sz,0,Z.map (enc true T),0⟩ mn LZ:=by
  refine⟨by rw[hml];simp,hmsz,by rw[hmf];exact P1 _,fun y hy => ?_,I0.of_values hz' hcell,fun e=>(by rw[hmv] at e;cases e),fun _ => ?_,P1 _,fun i hi=>absurd hi (by simp),fun _=>hmf⟩
  ·obtain⟨q,_,rfl⟩:=C5.1 hy;rw[N6,O0]
  ·obtain⟨c,e,fz,h1,h2,h3⟩:=hroom;rw[hmsz,hml];exact⟨c,e,fz,h1,S2 (i5 (O2 _ hcap) _) h2,h3⟩
 have hown:H0 mn LZ=(mn.b,0) :: LZ.map (fun b=>(b,0)):=by simp[H0,hmv,hmf]
 have hfst:(H0 mn LZ).map Prod.fst=mn.b :: LZ:=by rw[hown];simp[n8]
 refine⟨N,M',H0 mn LZ++[],?_,⟨?_,?_,?_,?_,?_⟩,hfr,fun _ _ h=>h,fun _ _ h=>.inl h,fun p hp => ?_,fun k m m0' h1 h2 => ?_⟩
 ·have e:av [some (TB.arr T true Z),none] (TV.own 0)=.ref 0 Z.length 0 Z.length:=by simp[av,hpk,TB.rlen]
  rw[e];refine .ref (some mn) (by simp[M']) fun m e => ?_;cases e;exact⟨by omega,fun _=>⟨by omega,.inr ⟨hmv,by simp,hcap,by rw[hmsz];simpa using hroom⟩⟩⟩
 ·exact .live (by simp[M']) hbr (.dead (by simp[M']) (.nil _))
 ·rw[D5,hfst];exact hnd
 ·intro p hp;rw[D5,hown] at hp;rcases D8.1 hp with rfl|hp
  ·exact⟨hnb,fun o h=>absurd (hNb o h) id⟩
  ·obtain⟨b,hb,rfl⟩:=C5.1 hp;have:=henv.own _ (hin b hb);exact⟨P7 this.1 hfr.size,this.2⟩
 ·exact fun b o h=>P7 (henv.nlt b o h) hfr.size
 ·intro k hk;have hk:2≤k:=hk;simp[M',show k≠0 from by omega,show ¬ k≤1 from by omega]
 ·rw[D5,hown] at hp;rcases D8.1 hp with rfl|hp
  ·exact hmb
  ·obtain⟨b,hb,rfl⟩:=C5.1 hp;exact .inr (L9 (f:=Prod.fst) (hin b hb))
 ·exfalso;simp only[M'] at h1;rw[G6 (by omega)] at h1;split at h1<;>cases h1
theorem C8k{P:Program}{f:FuncId}{zc:List Value}(hg:Good P f)(hzc:zc.length=2)(rE:C9T P f zc)(T:Ty)(hT:T.sz=2) :
  t5 P ⟨f,.pr (.mo 0 T) (.pr (.d 1 (.i .i64)) (.d 2 (.i .i64))),.t (.sl T),fun x=>bif (decide (0≤x.2.1)&&decide (x.2.1<(x.1.length:Int)))&&(decide (x.1.length≤1000000000)&&decide (x.2.2=x.2.1+1)) then some (A6K x.1 x.2.1,((),((),()))) else none⟩:=by
 rintro ⟨X,i,j⟩ r hr;change List (Den T) at X;change Int at i;change Int at j;have hr:(bif (decide (0≤i)&&decide (i<(X.length:Int)))&&(decide (X.length≤1000000000)&&decide (j=i+1)) then some (A6K X i,((),((),()))) else none:Option (List (Den T)×(Unit×(Unit×Unit))))=some r:=hr;cases hb:(decide (0≤i)&&decide (i<(X.length:Int)))&&(decide (X.length≤1000000000)&&decide (j=i+1)) with
 |false=>rw[hb] at hr;cases hr
 |true =>
 rw[hb] at hr;have hr:some (A6K X i,((),((),())))=some r:=hr;obtain rfl:=(P3 hr).symm;clear hr;simp only[A6,D7] at hb;obtain⟨⟨hi0,hi1⟩,hn,rfl⟩:=hb;refine⟨rfl,hg,fun w N M L us henv hrep => ?_⟩;have henv:Env w N M [some ⟨T.sz,0,X.map (enc true T),0⟩] L:=henv;obtain⟨k,hk⟩:∃ k:Nat,k=i.toNat:=⟨_,rfl⟩;have hik:i=(k:Int):=by omega
 have hkn:k<X.length:=by omega
 have hh:=henv.hr;cases hh with
 |@live _ _ m0 L0 _ L' hm0 hb0 hh =>
 cases hh;have hf0:m0.fr=0:=hb0.f0 rfl;have hl0:m0.len=X.length:=by rw[hb0.len];simp
 have hz0:m0.sz=2:=by rw[hb0.sz];exact hT
 have hrep:F5 w N M [.ref 0 X.length 0 X.length,.val (.int .i64 i),.val (.int .i64 (i+1))] us []:=hrep;obtain⟨u0,us1,K0,K1,rfl,e0,r0,hrep⟩:=A1J hrep;obtain⟨u1,us2,K2,K3,rfl,e1,r1,hrep⟩:=A1J hrep;obtain⟨u2,us3,K4,K5,rfl,e2,r2,hrep⟩:=A1J hrep;obtain rfl:us3=[]:=by cases hrep;rfl
 obtain⟨a0,c0,mm0,rfl,hM0,q0⟩:=B1s r0;obtain rfl:u1=.int .i64 i:=by cases r1;rfl
 obtain rfl:u2=.int .i64 (i+1):=by cases r2;rfl
 rw[hm0] at hM0;cases hM0;obtain⟨_,q0⟩:=q0 m0 rfl;obtain⟨_,q0⟩:=q0 (by omega);rcases q0 with⟨h,_⟩|⟨hv0,rfl,hle0,hroom0⟩
 ·omega
 rw[hz0,A2m,H2];rw[hz0,E1] at hroom0;obtain⟨m,hXl⟩:∃ m,X.length=k+1+m:=⟨X.length-(k+1),by omega⟩;have hrep0:I0 w N M m0.b m0.o ((X.map (enc true T)).flatMap AV.cells) L0:=hb0.rep;rw[← G3 (k+1) X,A32,← G3 k (X.take (k+1)),A32,List.take_take,X4 (Nat.le_succ k)] at hrep0;obtain⟨LAX,LB,rfl,hAX,hB⟩:=hrep0.append
 obtain⟨LA,LX,rfl,hA,hX⟩:=hAX.append;obtain⟨cA,rA',lA,gA⟩:=hA.values;obtain⟨cX,rX',lX,gX⟩:=hX.values;obtain⟨cB,rB',lB,gB⟩:=hB.values;have eA:(((X.take k).map (enc true T)).flatMap AV.cells).length=k*2:=by rw[A4g,hT,E7,X4 (Nat.le_of_lt hkn)]
 have eX:((((X.take (k+1)).drop k).map (enc true T)).flatMap AV.cells).length=2:=by
  rw[A4g,hT,I4,E7,X4 hkn];omega
 have eB:(((X.drop (k+1)).map (enc true T)).flatMap AV.cells).length=m*2:=by
  rw[A4g,hT,I4];omega
 rw[A5,eA,eX] at gB;rw[eA] at lA gA gX;rw[eX] at lX gX;rw[eB] at lB gB;have oA:=A3f rA' (A4q T _);have oX:=A3f rX' (A4q T _);have oB:=A3f rB' (A4q T _);have hzs:F5 w N M (((A6K X i).map (enc true T)).flatMap AV.cells) (cA++cB) (LA++LB):=by
  unfold A6K;rw[← hk,A32];exact F5.join rA' rB'
 have hcs:∀ j v,(cA++cX++cB)[j]? = some v→w.cell? ⟨m0.b,m0.o+j,none⟩=some v:=fun j v hj=>by
  have hjl:=(B4.1 hj).1;rw[A5,A5] at hjl;by_cases h1:j<k*2
  ·rw[F9,B7 (by omega)] at hj;rw[gA j h1];exact hj
  ·by_cases h2:j<k*2+2
   ·rw[B7 (by rw[A5];omega),B6 (by omega)] at hj;have:=gX (j-cA.length) (by omega);rw[← hj,← this];congr 2;omega
   ·rw[B6 (by rw[A5];omega)] at hj;have:=gB (j-(cA++cX).length) (by rw[A5];omega);rw[← hj,← this];congr 2;rw[A5];omega
 have hcl:(cA++cX++cB).length=(k+1+m)*2:=by rw[A5,A5,lA,lX,lB];omega
 have hdr:(cA++cX++cB).drop ((k+1)*2)=cB:=by
  rw[show(k+1)*2=(cA++cX).length from by rw[A5];omega,List.drop_left]
 have hoc:∀ v∈cA++cX++cB,v.oneCell'=true:=fun v hv=>by
  rcases C9.1 hv with h|h
  ·rcases C9.1 h with h|h
   ·exact oA v h
   ·exact oX v h
  ·exact oB v h
 have hown0:H0 m0 (LA++LX++LB)=(m0.b,0) :: (LA++LX++LB).map (fun b=>(b,0)):=by simp[H0,hv0,hf0]
 have hNo:∀ b,(b,0)∈H0 m0 (LA++LX++LB)++[]→b<w.heap.size∧∀ o,N b o→False:=fun b hb=>by
  obtain⟨h1,h2⟩:=henv.own (b,0) hb;exact⟨h1,fun o ho=>absurd (h2 o ho) (Nat.not_lt_zero o)⟩
 have hsub:∀ b∈LA++LB,b∈LA++LX++LB:=fun b hb=>by
  rcases C9.1 hb with h|h
  ·exact O3 _ (O3 _ h)
  ·exact Q3 _ h
 have hbL:(m0.b,0)∈H0 m0 (LA++LX++LB)++[]:=by rw[hown0];simp
 have hin:∀ b∈LA++LB,(b,0)∈H0 m0 (LA++LX++LB)++[]:=fun b hb=>by
  rw[hown0,D5];exact I7 _ (C5.2 ⟨b,hsub b hb,rfl⟩)
 have hnd:=henv.nd;have e0:(H0 m0 (LA++LX++LB)++[]).map Prod.fst=m0.b :: (LA++LX++LB):=by rw[hown0];simp[n8]
 rw[e0] at hnd;have hnx:m0.b ∉ LA++LB:=fun h=>(H9.1 hnd).1 (hsub _ h);have hndl:(LA++LB).Nodup:=by
  have h:=(H9.1 hnd).2;obtain⟨h1,h2,h3⟩:=J3.1 h;exact J3.2 ⟨(J3.1 h1).1,h2,fun a ha b hb=>h3 a (O3 _ ha) b hb⟩
 have hN0:=(hNo m0.b hbL).2;have hs0:=(hNo m0.b hbL).1;have hlz:(A6K X i).length=k+m:=by
  unfold A6K;rw[← hk,A5,E7,I4];omega
 rw[show Value.int .i64 i=.int .i64 (k:Int) from by rw[hik],show Value.int .i64 (i+1)=.int .i64 ((k:Int)+1) from by rw[hik],hXl];refine(rE m0.b m0.o c0 k m (cA++cX++cB) w (by omega) (by omega) hcl hcs (fun j hj=>(hroom0.cell (by omega)).2) hoc).mono fun e w' ⟨he,hw⟩ => ?_;rw[hdr] at hw
 have hf1:Fr [m0.b] w (w.drew.setCells m0.b (m0.o+k*2) cB):=(A96 [m0.b] w).trans (A0v w.drew m0.b (m0.o+k*2) cB) fun y hy=>.inl hy;have hf:=hf1.trans (A0v (w.drew.setCells m0.b (m0.o+k*2) cB) m0.b (m0.o+(k+m)*2) zc) fun y hy=>.inl hy;have hr1:=hroom0.gr hf1.shp
 have hcw:∀ j,(w.drew.setCells m0.b (m0.o+k*2) cB).cell? ⟨m0.b,j,none⟩=if m0.o+k*2≤j∧j<m0.o+k*2+cB.length then cB[j-(m0.o+k*2)]? else w.cell? ⟨m0.b,j,none⟩:=fun j=>d2 (w:=w.drew) (fun t ht=>(hroom0.cell (by omega)).1) j;rw[← hw] at hf;subst he;have hmem:m0.b∈(H0 m0 (LA++LX++LB)++[]).map Prod.fst:=by rw[e0];exact List.mem_cons_self ..
 have hF:FrN N ((H0 m0 (LA++LX++LB)++[]).map Prod.fst) w w':=by
  refine⟨⟨hf.os,hf.tape,hf.output,hf.size,fun k hk hkn=>hf.block k hk fun hm => ?_,hf.shp⟩,fun b o hn=>hf.same (henv.nlt b o hn) (fun hm => ?_) o⟩
  ·have hm:k=m0.b:=by simpa using hm
   exact hkn (hm▸hmem)
  ·have hm:b=m0.b:=by simpa using hm
   exact hN0 o (hm▸hn)
 refine⟨_,rfl,?_⟩;have:=C47 (mn:=⟨m0.b,m0.o,2,k+m,0,false⟩) (cap:=c0) (Z:=A6K X i) henv hzs hF (fun b hb=>hf.same (hNo b (hin b hb)).1 (by have hne:b≠m0.b:=fun e=>hnx (e▸hb);simpa using hne)) hT.symm hlz.symm rfl rfl (fun j hj => ?_) (by rw[hT];exact hroom0.gr hf.shp) (by omega) (P7 hs0 hf.size) hN0 (H9.2 ⟨hnx,hndl⟩) hin (.inr hmem)
 ·rw[hlz] at this;exact this
 ·rw[A5] at hj;rw[hw,d2 (fun t ht=>(hr1.cell (by omega)).1),hcw,G6 (by simp only;omega)];by_cases h1:j<k*2
  ·rw[G6 (by simp only;omega),B7 (by omega)];exact gA j h1
  ·rw[E9 (by simp only;omega),B6 (by omega)];congr 1;simp only;omega
end Go.Proofs.YtkmhopbmpeiofaaGreat.Nx
namespace Go.Proofs.DelW
open Go Go.Proofs Go.Shelf Go.RowKit Go.Lib Go.Proofs.YtkmhopbmpeiofaaGreat.Nx
set_option linter.unusedSimpArgs false
set_option linter.unusedVariables false
theorem t0:Tryz.prog.underlying 42=some (.slice 74):=by kernel_rfl
theorem t3:Tryz.prog.underlying 3=some (.int .i64):=by kernel_rfl
theorem t4:Tryz.prog.underlying 4=some .bool:=by kernel_rfl
theorem iE:(Tryz.prog.info? 74).map (fun i=>(i.zero,i.size,i.bytes))=some (some (.agg #[.int .i64 0,.slice none 0 0]),2,32):=by kernel_rfl
theorem aS(w:World):(isAgg 42).run Tryz.prog w=.ok false w:=by kernel_rfl
theorem a3(w:World):(isAgg 3).run Tryz.prog w=.ok false w:=by kernel_rfl
theorem a4(w:World):(isAgg 4).run Tryz.prog w=.ok false w:=by kernel_rfl
theorem zE(w:World):(Go.sizeOf 74).run Tryz.prog w=.ok 2 w:=by kernel_rfl
theorem zS(w:World):(Go.sizeOf 42).run Tryz.prog w=.ok 1 w:=by kernel_rfl
theorem z3(w:World):(Go.sizeOf 3).run Tryz.prog w=.ok 1 w:=by kernel_rfl
theorem z4(w:World):(Go.sizeOf 4).run Tryz.prog w=.ok 1 w:=by kernel_rfl
theorem vS(w:World):(zeroValue 42).run Tryz.prog w=.ok (.slice none 0 0) w:=by kernel_rfl
theorem v3(w:World):(zeroValue 3).run Tryz.prog w=.ok (.int .i64 0) w:=by kernel_rfl
theorem v4(w:World):(zeroValue 4).run Tryz.prog w=.ok (.bool false) w:=by kernel_rfl
theorem vE(w:World):(zeroValue 74).run Tryz.prog w=.ok (.agg #[.int .i64 0,.slice none 0 0]) w:=by kernel_rfl
theorem G2:Tryz.prog.follows .mixedOrders=true:=by kernel_rfl
theorem B9O(w:World)(ty b o c:Nat)(hc:∀ j,j<2→(w.cell? ⟨b,o+j,none⟩).isSome=true)(hf:∀ j,j<2→w.frozen? ⟨b,o+j,none⟩=false) :
  (Builtin.clear_ #[42] ty #[.slice (some ⟨b,o,none⟩) 1 c]).run Tryz.prog w=.ok (.tuple #[]) (w.setCells b o [.int .i64 0,.slice none 0 0]):=by
 have hst:=run_storeCells_cells (P:=Tryz.prog) b o [.int .i64 0,.slice none 0 0] 0 w (by simpa using hc) (by simpa using hf) (by intro v hv;rcases D8.1 hv with rfl|hv;rfl;rw[C1.1 hv];rfl);simp only[H2] at hst
 have hz:(Builtin.zeroCells (Value.agg #[.int .i64 0,.slice none 0 0]).cells 1).toList=[.int .i64 0,.slice none 0 0]:=by unfold Builtin.zeroCells;rw[A1A,Array.toList_range];rfl
 simp[Builtin.clear_,run_underlying t0,vE,hz,hst]
set_option maxHeartbeats 4000000 in
set_option maxRecDepth 100000 in
theorem del_road(b off c i m:Nat)(cs:List Value)(w:World)(hnc:i+1+m≤c)(hn:i+1+m≤1000000000)(hcl:cs.length=(i+1+m)*2)
  (hcs:∀ j v,cs[j]? = some v→w.cell? ⟨b,off+j,none⟩=some v) (hfz:∀ j,j<(i+1+m)*2→w.frozen? ⟨b,off+j,none⟩=false) (h1c:∀ v∈cs,v.oneCell'=true) :
  Calls Tryz.prog 57 #[.slice (some ⟨b,off,none⟩) (i+1+m) c,.int .i64 i,.int .i64 ((i:Int)+1)] w fun e w' =>
   e=.returned (.slice (some ⟨b,off,none⟩) (i+m) c)∧w'=(w.drew.setCells b (off+i*2) (cs.drop ((i+1)*2))).setCells b (off+(i+m)*2) [.int .i64 0,.slice none 0 0]:=by
 have t0:=t0;have t3:=t3;have t4:=t4;have aS:=aS;have a3:=a3;have a4:=a4;have zE:=zE;have zS:=zS;have z3:=z3;have z4:=z4;have vS:=vS;have v3:=v3;have v4:=v4;have u0:=run_underlying t0;have u3:=run_underlying t3;have u4:=run_underlying t4;have G2:=G2;obtain⟨i0,hi0,hzs⟩:∃ i,Tryz.prog.info? 74=some i∧i.size=2:=by
  have h:=iE;cases hq:Tryz.prog.info? 74 with
  |none=>rw[hq] at h;cases h
  |some i =>
   rw[hq] at h;simp only[F8,C3,P5] at h;exact⟨i,rfl,h.2.1⟩
 have hsome:∀ j,j<(i+1+m)*2→(w.cell? ⟨b,off+j,none⟩).isSome=true:=fun j hj=>by
  rw[hcs j _ (D1 (by omega))];rfl
 obtain⟨news,hnews⟩:∃ news,news=cs.drop ((i+1)*2):=⟨_,rfl⟩;have hlen:news.length=m*2:=by rw[hnews,I4];omega
 obtain⟨A,hA,hsrc⟩:∃ A:Addr,(if c=i+1 then some (⟨b,off,none⟩:Addr) else some ⟨b,off+(i+1)*2,none⟩)=some A∧∀ t u,news[t]? = some u→w.drew.cell? (A.add t)=some u:=by
  by_cases h:c=i+1
  ·refine⟨⟨b,off,none⟩,by simp[h],fun t u hu => ?_⟩;have h0:news.length=0:=by rw[hlen];omega
   rw[G7.1 h0] at hu;simp at hu
  ·refine⟨⟨b,off+(i+1)*2,none⟩,by simp[h],fun t u hu => ?_⟩;rw[Addr.add_lit,G4];rw[hnews,m3] at hu;exact hcs _ _ hu
 have s1:news.length=m*2:=hlen;have s2:∀ u∈news,u.oneCell'=true:=fun u hu=>h1c u (R3 (hnews▸hu));have s3:∀ t,t<news.length→(w.drew.cell? ⟨b,off+i*2+t,none⟩).isSome=true∧w.drew.frozen? ⟨b,off+i*2+t,none⟩=false:=fun t ht=>by
  rw[G4];exact⟨hsome _ (by omega),hfz _ (by omega)⟩
 rw[← hnews];obtain⟨W1,hW1⟩:∃ W1,W1=w.drew.setCells b (off+i*2) news:=⟨_,rfl⟩;rw[← hW1];have hcl2:∀ ty c',(Builtin.clear_ #[42] ty #[.slice (some ⟨b,off+(i+m)*2,none⟩) 1 c']).run Tryz.prog W1=.ok (.tuple #[]) (W1.setCells b (off+(i+m)*2) [.int .i64 0,.slice none 0 0]):=fun ty c' =>
  B9O W1 ty b _ c' (fun j hj=>by rw[hW1,G4];exact isSome_setCells b _ _ _ (fun t ht=>(s3 t ht).1) _ (hsome _ (by omega))) (fun j hj=>by rw[hW1,World.frozen?_setCells,G4];exact hfz _ (by omega))
 have hne:¬ ((i:Int)=(i:Int)+1):=by omega
 have hb1:(i:Int)≤(i:Int)+1+(m:Int):=by omega
 have hb2:(i:Int)+1≤(i:Int)+1+(m:Int):=by omega
 have hb3:(0:Int)≤(i:Int)+1:=by omega
 have htn:((i:Int)+1).toNat=i+1:=by omega
 have hic:i≤c:=by omega
 have hjc:i+1≤c:=by omega
 go_enter Tryz.func57,Tryz.ntmps57
 go_wp2_with fail
 go_region_law_o (refine step_append_room rfl (.tmp 22) (.tmp 25) 42 rfl 74 i0 2 t0 hi0 hzs b off i c (by simp[Act.eval,Act.put]) A m (c-(i+1)) news (by simp[Act.eval,Act.put]) s1 hsrc s2 (by omega) s3 ?_;rw[← hW1])
 have hd1:i+1+m-(i+m)=1:=by omega
 have hd2:((i:Int)+(m:Int))≤(i:Int)+1+(m:Int):=by omega
 have hd3:(i:Int)+1+(m:Int)≤(c:Int):=by omega
 have hd4:¬ (c=i+m):=by omega
 have hcl3:∀ ty c',(Builtin.clear_ #[42] ty #[.slice (some ⟨b,off+(i+m)*2,none⟩) 1 c']).run Tryz.prog (w.drew.setCells b (off+i*2) (List.drop ((i+1)*2) cs))=.ok (.tuple #[]) ((w.drew.setCells b (off+i*2) (List.drop ((i+1)*2) cs)).setCells b (off+(i+m)*2) [.int .i64 0,.slice none 0 0]):=fun ty c'=>by
  rw[← hnews,← hW1];exact hcl2 ty c'
 go_wp2
 go_ret
 first|exact⟨rfl,rfl⟩|exact⟨rfl,by rw[hW1,hnews]⟩
theorem del_good:Go.Proofs.YtkmhopbmpeiofaaGreat.Nx.Good Tryz.prog 57:=⟨_,Tryz.func57,by kernel_rfl,by kernel_rfl⟩
end Go.Proofs.DelW
namespace Go.Proofs.YtkmhopbmpeiofaaGreat.C
open Go Go.Proofs.YtkmhopbmpeiofaaGreat.Nx Go.RowKit
set_option maxRecDepth 100000
set_option linter.unusedVariables false
noncomputable section
abbrev I:Ty:=.i .i64
abbrev A8:Ty:=(.st (.pr .tx .bl))
abbrev A08:Ty:=(.st (.pr I I))
abbrev A7:Ty:=(.st (.pr I (.sl A8)))
abbrev A2q:Ty:=(.st (.pr I (.sv A8)))
abbrev M7:Ty:=(.st (.pr (.sl (.i .u8)) (.pr I I)))
abbrev A0:Ty:=(.st (.pr I (.pr .bl (.pr I (.pr (.sl I) (.pr (.sl I) (.sl A7)))))))
abbrev C0I:Ty:=(.st (.pr I (.pr .bl (.pr I (.pr (.sl I) (.pr (.sl I) (.sl A2q)))))))
abbrev Z3:Ty:=(.st (.pr I (.pr .bl (.pr I (.pr (.sv I) (.pr (.sv I) (.sv A7)))))))
abbrev C4:Ty:=(.st (.sl A0))
abbrev V7:Ty:=(.st (.sl Z3))
abbrev nT(n:Nat):Operand:=.tmp n
abbrev nO(d:Nat)(n:NO)(r:RT):RT:=.op ⟨some d,none,n⟩ r
abbrev nM(d s:Nat)(r:RT):RT:=.op ⟨some d,none,.mv (.tmp s)⟩ r
abbrev nU(n:NO)(r:RT):RT:=.op ⟨none,none,n⟩ r
abbrev nG(g:Nat)(b:Bool)(d:Nat)(n:NO)(r:RT):RT:=.op ⟨some d,some (g,b),n⟩ r
abbrev nL(s:Nat):NO:=.ld 1 true (.tmp s)
abbrev nl(s:Nat):NO:=.ld 1 false (.tmp s)
abbrev nE(s i:Nat):NO:=.ext (.tmp s) i
abbrev nF(i s:Nat):NO:=.fad i (.tmp s)
abbrev nI(z s i:Nat):NO:=.iad z (.tmp s) (.tmp i)
abbrev nK(n:Int):Operand:=.const (.int .i64 n)
abbrev nR(r:RT):NC:=.reg true r
noncomputable abbrev dup{α:Type}(x:Option α):Option α:=N4 x x
theorem D0w{α:Type}(x:Option α):dup x=x:=Y7 x
abbrev B3Y:SK:=(.pr (.bv 0 M7) (.d 1 I))
abbrev C4n:SK:=(.pr (.bv 0 M7) (.d 1 (.sl I)))
abbrev C3l:SK:=(.pr (.bv 0 M7) (.d 1 (.sl .tx)))
abbrev C3j:SK:=(.pr (.ip 2 C4) (.pr (.d 5 I) (.d 6 I)))
abbrev C4X:SK:=(.pr (.d 1 I) (.pr (.ip 2 C4) (.d 5 I)))
abbrev C3c:SK:=(.pr (.d 0 (.sl I)) (.pr (.d 1 I) (.d 5 I)))
abbrev C3z:SK:=(.pr (.bv 0 M7) (.pr (.o 3 A8) (.d 4 I)))
abbrev C4R:SK:=(.pr (.d 0 (.sl (.i .u8))) (.pr (.d 3 I) (.d 4 I)))
abbrev C4o:SK:=(.pr (.d 0 (.sl I)) (.pr (.d 1 I) (.pr (.d 5 I) (.d 6 I))))
abbrev B3B:SK:=(.pr (.d 0 (.sl I)) (.pr (.d 1 I) (.pr (.o 5 I) (.d 6 I))))
abbrev C3D:SK:=(.pr (.d 0 (.sl I)) (.pr (.bx 2 C4) (.pr (.o 3 I) (.d 4 I))))
abbrev Sa9:SK:=(.pr (.ip 1 C4) (.pr (.bx 2 C4) (.pr (.bx 3 C4) (.d 4 I))))
abbrev Sa8:SK:=(.pr (.ip 1 A0) (.pr (.bx 2 A0) (.pr (.bx 3 A0) (.d 4 I))))
abbrev Sa7:SK:=(.pr (.d 0 (.sl I)) (.pr (.d 1 I) (.pr (.d 6 I) (.pr (.o 7 I) (.d 8 .bl)))))
abbrev Sa6:SK:=(.pr (.d 2 I) (.pr (.ip 3 C4) (.pr (.bx 6 A08) (.pr (.d 8 I) (.d 9 I)))))
abbrev Sa5:SK:=(.pr (.bx 2 C4) (.pr (.d 3 (.sl I)) (.pr (.d 5 (.sl I)) (.pr (.bx 6 C4) (.d 7 I)))))
abbrev Sa4:SK:=(.pr (.d 1 I) (.pr (.d 2 I) (.pr (.ip 3 C4) (.pr (.d 10 I) (.pr (.o 11 I) (.d 12 I))))))
abbrev Sa3:SK:=(.pr (.d 0 (.sl I)) (.pr (.d 1 I) (.pr (.o 5 I) (.pr (.d 6 I) (.pr (.o 7 I) (.pr (.d 8 .bl) (.d 9 I)))))))
abbrev Sa2:SK:=(.pr (.bx 2 C4) (.pr (.d 3 (.sl I)) (.pr (.d 5 (.sl I)) (.pr (.bx 6 C4) (.pr (.d 7 I) (.bx 9 A0))))))
abbrev Sa1:SK:=(.pr (.bx 2 C4) (.pr (.d 3 (.sl I)) (.pr (.d 5 (.sl I)) (.pr (.bx 6 C4) (.pr (.d 7 I) (.pr (.bx 9 A0) (.d 10 I)))))))
theorem G2:Tryz.prog.follows .mixedOrders=true:=by kernel_rfl
def C0c(N:Nat)(a0:(List Int)):Option Bool :=
 some (decide ((1048576:Int)<(a0.length:Int)))
abbrev C2K(N:Nat):CT:=⟨4,(.d (.sl (.i .u8))),(.t .bl),fun a=>C0c N a⟩
theorem C9P(N:Nat):J9 Tryz.prog (C2K N) :=
 J7 (Γ:=[]) (Θ:=[]) (Λ:=([]:List (LC (G8 (.t .bl))))) (by kernel_rfl) G2 trivial (by kernel_rfl)
  trivial (by kernel_rfl) (fun a=>by kernel_rfl)
def A5A(N:Nat){Ω:Type}(kx:D3 (.pr (.d 0 (.sl (.i .u8))) (.d 3 I))→Option Ω)(kr:((Den M7)×N9 (.d 0 (.sl (.i .u8))))→Option Ω)(rec_:D3 C4R→Option Ω):D3 C4R→Option Ω:=fun (s0,s3,s4) =>
 (bif (decide (s4<(s0.length:Int))) then(bif (decide (s4<(4000:Int))) then(bif (decide (0≤s4)&&decide (s4<s0.length)) then rec_ (s0,(A7H .i64 (wrap64 ((wrap64 ((wrap64 (s3*(131:Int)))+(wrap64 (s0.getD s4.toNat (0:Int)))))+(7:Int))) (1073741823:Int)),(wrap64 (s4+(1:Int)))) else none) else kx (s0,s3)) else kx (s0,s3))
def A3Q(N:Nat)(a0:(List Int)):Option ((Den M7)×N9 (.d 0 (.sl (.i .u8)))) :=
 (D4 (A5A N (fun (x1,x2)=>some ((x1,(0:Int),x2),())) (fun ρ3=>some (ρ3))) N (a0,(wrap64 ((95501:Int)+(a0.length:Int))),(0:Int))).bind fun r=>bif (true) then some r else none
abbrev A3L(N:Nat):CM:=⟨31,(.d 0 (.sl (.i .u8))),(.pv M7),fun a=>A3Q N a⟩
theorem A6p(N:Nat):t5 Tryz.prog (A3L N) :=
 A1w (Γ:=[]) (Θ:=[]) (Λ:=([⟨0,0,C4R,(.pr (.d 0 (.sl (.i .u8))) (.d 3 I)),fun {Ω} kx kr=>D4 (A5A N kx kr) N⟩]:List (LC (G8 (.pv M7)×N9 (.d 0 (.sl (.i .u8))))))) (by kernel_rfl) G2 trivial (by kernel_rfl)
  ⟨H8.mk N (fun Ω kx kr=>A5A N kx kr) (fun Ω g kx kr s=>by kernel_rfl),trivial⟩ (by kernel_rfl) (fun a=>by kernel_rfl)
def A6q(N:Nat)(a0:(Den M7)):Option (Int×N9 (.bv 0 M7)) :=
 ((bif (decide (a0.2.1<(a0.1.length:Int))) then(bif (decide (0≤a0.2.1)&&decide (a0.2.1<a0.1.length)) then some ((A7H .i64 (wrap64 ((A7H .i64 (C0s .i64 (Q4 .i64 (wrap64 ((wrap64 (a0.2.2*(6364136223846793005:Int)))+(1442695040888963407:Int))) (33:Int)) (Q4 .i64 (wrap64 ((wrap64 (a0.2.2*(6364136223846793005:Int)))+(1442695040888963407:Int))) (45:Int))) (255:Int))+(wrap64 (a0.1.getD a0.2.1.toNat (0:Int))))) (255:Int)),(a0.1,(wrap64 (a0.2.1+(1:Int))),(wrap64 ((wrap64 (a0.2.2*(6364136223846793005:Int)))+(1442695040888963407:Int))))) else none) else some ((A7H .i64 (C0s .i64 (Q4 .i64 (wrap64 ((wrap64 (a0.2.2*(6364136223846793005:Int)))+(1442695040888963407:Int))) (33:Int)) (Q4 .i64 (wrap64 ((wrap64 (a0.2.2*(6364136223846793005:Int)))+(1442695040888963407:Int))) (45:Int))) (255:Int)),(a0.1,a0.2.1,(wrap64 ((wrap64 (a0.2.2*(6364136223846793005:Int)))+(1442695040888963407:Int))))))).bind fun r=>bif (true) then some r else none
abbrev C2r(N:Nat):CM:=⟨71,(.bv 0 M7),(.t I),fun a=>A6q N a⟩
theorem C95(N:Nat):t5 Tryz.prog (C2r N) :=
 A1w (Γ:=[]) (Θ:=[]) (Λ:=([]:List (LC (G8 (.t I)×N9 (.bv 0 M7))))) (by kernel_rfl) G2 trivial (by kernel_rfl)
  trivial (by kernel_rfl) (fun a=>by kernel_rfl)
def U9(N:Nat)(a0:(Den M7))(a1:Int):Option (Int×N9 B3Y) :=
 ((bif (decide (a1≤(0:Int))) then some ((0:Int),a0,()) else(bif (decide (a1≤(256:Int))) then(A6q N a0).bind fun r1=>(bif (!decide (a1=0)) then some ((r1.1.tmod a1),r1.2,()) else none) else(A6q N a0).bind fun r2=>(A6q N r2.2).bind fun r3=>(A6q N r3.2).bind fun r4=>(A6q N r4.2).bind fun r5=>(bif (!decide (a1=0)) then some (((wrap64 ((wrap64 ((wrap64 ((wrap64 (r2.1*(16777216:Int)))+(wrap64 (r3.1*(65536:Int)))))+(wrap64 (r4.1*(256:Int)))))+r5.1)).tmod a1),r5.2,()) else none)))).bind fun r=>bif (true&&true) then some r else none
abbrev A16(N:Nat):CM:=⟨40,B3Y,(.t I),fun a=>U9 N a.1 a.2⟩
theorem A4B(N:Nat):t5 Tryz.prog (A16 N) :=
 A1w (Γ:=[.m (C2r N)]) (Θ:=[]) (Λ:=([]:List (LC (G8 (.t I)×N9 B3Y)))) (by kernel_rfl) G2 ⟨C95 N,trivial⟩ (by kernel_rfl)
  trivial (by kernel_rfl) (fun a=>by kernel_rfl)
def j3(N:Nat)(a0:(Den M7))(a1:(List ByteArray)):Option (ByteArray×N9 C3l) :=
 ((U9 N a0 (a1.length:Int)).bind fun r1=>(bif (decide (0≤r1.1)&&decide (r1.1<a1.length)) then some ((a1.getD r1.1.toNat ByteArray.empty),r1.2.1,()) else none)).bind fun r=>bif (true&&true) then some r else none
abbrev B6U(N:Nat):CM:=⟨65,C3l,(.t .tx),fun a=>j3 N a.1 a.2⟩
theorem C5F(N:Nat):t5 Tryz.prog (B6U N) :=
 A1w (Γ:=[.m (A16 N)]) (Θ:=[]) (Λ:=([]:List (LC (G8 (.t .tx)×N9 C3l)))) (by kernel_rfl) G2 ⟨A4B N,trivial⟩ (by kernel_rfl)
  trivial (by kernel_rfl) (fun a=>by kernel_rfl)
def f9(N:Nat)(a0:(Den M7))(a1:Int):Option (Bool×N9 B3Y) :=
 ((U9 N a0 a1).bind fun r1=>some ((decide (r1.1=(0:Int))),r1.2.1,())).bind fun r=>bif (true&&true) then some r else none
abbrev B2X(N:Nat):CM:=⟨55,B3Y,(.t .bl),fun a=>f9 N a.1 a.2⟩
theorem B9R(N:Nat):t5 Tryz.prog (B2X N) :=
 A1w (Γ:=[.m (A16 N)]) (Θ:=[]) (Λ:=([]:List (LC (G8 (.t .bl)×N9 B3Y)))) (by kernel_rfl) G2 ⟨A4B N,trivial⟩ (by kernel_rfl)
  trivial (by kernel_rfl) (fun a=>by kernel_rfl)
def A4S(N:Nat){Ω:Type}(kx:D3 (.pr (.bv 0 M7) (.o 3 A8))→Option Ω)(kr:((List (Den A8))×N9 (.bv 0 M7))→Option Ω)(rec_:D3 C3z→Option Ω):D3 C3z→Option Ω:=fun (s0,s3,s4) =>
 (U9 N s0 (4:Int)).bind fun r1=>(bif (decide (s4<r1.1)) then(j3 N r1.2.1 ([(⟨#[97]⟩:ByteArray),(⟨#[98]⟩:ByteArray),ByteArray.empty,(⟨#[99,99]⟩:ByteArray)])).bind fun r2=>(f9 N r2.2.1 (3:Int)).bind fun r3=>(bif (decide ((s3.length+[(r2.1,r3.1)].length)*24≤140737488355328)) then rec_ (r3.2.1,(s3++[(r2.1,r3.1)]),(wrap64 (s4+(1:Int)))) else none) else kx (r1.2.1,s3))
def A5R(N:Nat)(a0:(Den M7)):Option ((List (Den A8))×N9 (.bv 0 M7)) :=
 (D4 (A4S N (fun (x4,x5)=>some (x5,x4)) (fun ρ6=>some (ρ6))) N (a0,[],(0:Int))).bind fun r=>bif (true) then some r else none
abbrev B0j(N:Nat):CM:=⟨32,(.bv 0 M7),(.t (.sl A8)),fun a=>A5R N a⟩
theorem B64(N:Nat):t5 Tryz.prog (B0j N) :=
 A1w (Γ:=[.m (A16 N),.m (B6U N),.m (B2X N)]) (Θ:=[(5,A8),(14,.tx),(19,A8)]) (Λ:=([⟨0,1,C3z,(.pr (.bv 0 M7) (.o 3 A8)),fun {Ω} kx kr=>D4 (A4S N kx kr) N⟩]:List (LC (G8 (.t (.sl A8))×N9 (.bv 0 M7))))) (by kernel_rfl) G2 ⟨A4B N,⟨C5F N,⟨B9R N,trivial⟩⟩⟩ (by kernel_rfl)
  ⟨H8.mk N (fun Ω kx kr=>A4S N kx kr) (fun Ω g kx kr s=>by kernel_rfl),trivial⟩ (by kernel_rfl) (fun a=>by kernel_rfl)
def B2o(N:Nat)(a0:(Den M7))(a1:(List Int)):Option (Int×N9 C4n) :=
 ((U9 N a0 (a1.length:Int)).bind fun r1=>(bif (decide (0≤r1.1)&&decide (r1.1<a1.length)) then some ((a1.getD r1.1.toNat (0:Int)),r1.2.1,()) else none)).bind fun r=>bif (true&&true) then some r else none
abbrev B7G(N:Nat):CM:=⟨47,C4n,(.t I),fun a=>B2o N a.1 a.2⟩
theorem C5j(N:Nat):t5 Tryz.prog (B7G N) :=
 A1w (Γ:=[.m (A16 N)]) (Θ:=[]) (Λ:=([]:List (LC (G8 (.t I)×N9 C4n)))) (by kernel_rfl) G2 ⟨A4B N,trivial⟩ (by kernel_rfl)
  trivial (by kernel_rfl) (fun a=>by kernel_rfl)
def B2T(N:Nat)(a0:(Den M7)):Option ((List Int)×N9 (.bv 0 M7)) :=
 ((U9 N a0 ((5:Nat):Int)).bind fun r1=>(bif (decide (0≤r1.1)&&decide (r1.1<([[(10:Int),(80:Int),(150:Int),(220:Int),(30:Int),(100:Int),(200:Int),(250:Int)],[(1:Int),(2:Int),(3:Int),(4:Int),(5:Int),(6:Int),(7:Int),(8:Int)],[(250:Int),(5:Int),(60:Int),(130:Int),(255:Int),(0:Int),(90:Int),(128:Int)],[(64:Int),(128:Int),(192:Int),(0:Int),(32:Int),(96:Int)],[(9:Int),(99:Int),(199:Int),(249:Int)]]).length)) then(bif (Nat.beq r1.1.toNat r1.1.toNat) then some ((([[(10:Int),(80:Int),(150:Int),(220:Int),(30:Int),(100:Int),(200:Int),(250:Int)],[(1:Int),(2:Int),(3:Int),(4:Int),(5:Int),(6:Int),(7:Int),(8:Int)],[(250:Int),(5:Int),(60:Int),(130:Int),(255:Int),(0:Int),(90:Int),(128:Int)],[(64:Int),(128:Int),(192:Int),(0:Int),(32:Int),(96:Int)],[(9:Int),(99:Int),(199:Int),(249:Int)]]).getD r1.1.toNat []),r1.2.1) else none) else none)).bind fun r=>bif (true) then some r else none
abbrev B86(N:Nat):CM:=⟨94,(.bv 0 M7),(.t (.sl I)),fun a=>B2T N a⟩
theorem C7y(N:Nat):t5 Tryz.prog (B86 N) :=
 A1w (Γ:=[.m (A16 N)]) (Θ:=[(4,I),(5,I),(6,I),(7,I),(8,I),(9,(.sl I))]) (Λ:=([]:List (LC (G8 (.t (.sl I))×N9 (.bv 0 M7))))) (by kernel_rfl) G2 ⟨A4B N,trivial⟩ (by kernel_rfl)
  trivial (by kernel_rfl) (fun a=>by kernel_rfl)
def A3I(N:Nat)(a0:Int)(a1:Int)(a2:Int):Option Bool :=
 (bif (decide (a1≤a0)) then some (decide (a0≤a2)) else some false)
abbrev B7z(N:Nat):CT:=⟨86,(.pr (.d I) (.pr (.d I) (.d I))),(.t .bl),fun a=>A3I N a.1 a.2.1 a.2.2⟩
theorem C5E(N:Nat):J9 Tryz.prog (B7z N) :=
 J7 (Γ:=[]) (Θ:=[]) (Λ:=([]:List (LC (G8 (.t .bl))))) (by kernel_rfl) G2 trivial (by kernel_rfl)
  trivial (by kernel_rfl) (fun a=>by kernel_rfl)
def B1B(N:Nat){Ω:Type}(kx:D3 .un→Option Ω)(kr:Bool→Option Ω)(rec_:D3 C3c→Option Ω):D3 C3c→Option Ω:=fun (s0,s1,s5) =>
 (bif (decide (s5<(s0.length:Int))) then(bif (decide (0≤s5)&&decide (s5<s0.length)) then(bif (decide ((s0.getD s5.toNat (0:Int))=s1)) then kr true else rec_ (s0,s1,(wrap64 (s5+(1:Int))))) else none) else kx ())
def A5f(N:Nat)(a0:(List Int))(a1:Int):Option Bool :=
 D4 (B1B N (fun _=>some false) (fun ρ1=>some (ρ1))) N (a0,a1,(0:Int))
abbrev A85(N:Nat):CT:=⟨58,(.pr (.d (.sl I)) (.d I)),(.t .bl),fun a=>A5f N a.1 a.2⟩
theorem B4S(N:Nat):J9 Tryz.prog (A85 N) :=
 J7 (Γ:=[]) (Θ:=[]) (Λ:=([⟨0,0,C3c,.un,fun {Ω} kx kr=>D4 (B1B N kx kr) N⟩]:List (LC (G8 (.t .bl))))) (by kernel_rfl) G2 trivial (by kernel_rfl)
  ⟨H8.mk N (fun Ω kx kr=>B1B N kx kr) (fun Ω g kx kr s=>by kernel_rfl),trivial⟩ (by kernel_rfl) (fun a=>by kernel_rfl)
def A47(N:Nat)(a0:Int):Option Int :=
 (bif (decide ((a0.tmod (256:Int))<(0:Int))) then some (wrap64 ((a0.tmod (256:Int))+(256:Int))) else some (a0.tmod (256:Int)))
abbrev B2f(N:Nat):CT:=⟨98,(.d I),(.t I),fun a=>A47 N a⟩
theorem B9H(N:Nat):J9 Tryz.prog (B2f N) :=
 J7 (Γ:=[]) (Θ:=[]) (Λ:=([]:List (LC (G8 (.t I))))) (by kernel_rfl) G2 trivial (by kernel_rfl)
  trivial (by kernel_rfl) (fun a=>by kernel_rfl)
def A2w(N:Nat)(a0:Int)(a1:Int):Option Int :=
 (A47 N a1).bind fun r1=>(A47 N a0).bind fun r2=>(A47 N (wrap64 (r1-r2))).bind fun r3=>some r3
abbrev A9p(N:Nat):CT:=⟨100,(.pr (.d I) (.d I)),(.t I),fun a=>A2w N a.1 a.2⟩
theorem B5y(N:Nat):J9 Tryz.prog (A9p N) :=
 J7 (Γ:=[.c (B2f N)]) (Θ:=[]) (Λ:=([]:List (LC (G8 (.t I))))) (by kernel_rfl) G2 ⟨B9H N,trivial⟩ (by kernel_rfl)
  trivial (by kernel_rfl) (fun a=>by kernel_rfl)
def A7v(N:Nat){Ω:Type}(kx:D3 Sa7→Option Ω)(kr:(List Int)→Option Ω)(rec_:D3 Sa3→Option Ω):D3 Sa3→Option Ω:=fun (s0,s1,s5,s6,s7,s8,s9) =>
 (bif (decide (s9<(s5.length:Int))) then(bif (!s8) then(bif (decide (0≤s6)&&decide (s6<s0.length)) then(bif (decide (0≤s9)&&decide (s9<s5.length)) then(A2w N s1 (s0.getD s6.toNat (0:Int))).bind fun r2=>(A2w N s1 (s5.getD s9.toNat (0:Int))).bind fun r3=>(bif (decide (r2<r3)) then(bif (decide (0≤s6)&&decide (s6<s0.length)) then(bif (decide ((s7.length+[(s0.getD s6.toNat (0:Int))].length)*8≤140737488355328)) then(bif (decide (0≤s9)&&decide (s9<s5.length)) then(bif (decide (((s7++[(s0.getD s6.toNat (0:Int))]).length+[(s5.getD s9.toNat (0:Int))].length)*8≤140737488355328)) then rec_ (s0,s1,s5,s6,((s7++[(s0.getD s6.toNat (0:Int))])++[(s5.getD s9.toNat (0:Int))]),true,(wrap64 (s9+(1:Int)))) else none) else none) else none) else none) else(bif (decide (0≤s9)&&decide (s9<s5.length)) then(bif (decide ((s7.length+[(s5.getD s9.toNat (0:Int))].length)*8≤140737488355328)) then rec_ (s0,s1,s5,s6,(s7++[(s5.getD s9.toNat (0:Int))]),s8,(wrap64 (s9+(1:Int)))) else none) else none)) else none) else none) else(bif (decide (0≤s9)&&decide (s9<s5.length)) then(bif (decide ((s7.length+[(s5.getD s9.toNat (0:Int))].length)*8≤140737488355328)) then rec_ (s0,s1,s5,s6,(s7++[(s5.getD s9.toNat (0:Int))]),s8,(wrap64 (s9+(1:Int)))) else none) else none)) else kx (s0,s1,s6,s7,s8))
def A5F(N:Nat){Ω:Type}(kx:D3 (.o 5 I)→Option Ω)(kr:(List Int)→Option Ω)(rec_:D3 B3B→Option Ω):D3 B3B→Option Ω:=fun (s0,s1,s5,s6) =>
 (bif (decide (s6<(s0.length:Int))) then(bif (decide (0≤s6)&&decide (s6<s0.length)) then(bif (decide ((s0.getD s6.toNat (0:Int))=s1)) then rec_ (s0,s1,s5,(wrap64 (s6+(1:Int)))) else(bif (decide (0≤s6)&&decide (s6<s0.length)) then(A5f N s5 (s0.getD s6.toNat (0:Int))).bind fun r1=>(bif r1 then rec_ (s0,s1,s5,(wrap64 (s6+(1:Int)))) else D4 (A7v N (fun (x4,x5,x6,x7,x8)=>(bif (!x8) then(bif (decide (0≤x6)&&decide (x6<x4.length)) then(bif (decide ((x7.length+[(x4.getD x6.toNat (0:Int))].length)*8≤140737488355328)) then rec_ (x4,x5,(x7++[(x4.getD x6.toNat (0:Int))]),(wrap64 (x6+(1:Int)))) else none) else none) else rec_ (x4,x5,x7,(wrap64 (x6+(1:Int)))))) (fun ρ9=>kr (ρ9))) N (s0,s1,s5,s6,[],false,(0:Int))) else none)) else none) else kx s5)
def B4V(N:Nat)(a0:(List Int))(a1:Int):Option (List Int) :=
 D4 (A5F N (fun x10=>some x10) (fun ρ11=>some (ρ11))) N (a0,a1,[],(0:Int))
abbrev C2e(N:Nat):CT:=⟨108,(.pr (.d (.sl I)) (.d I)),(.t (.sl I)),fun a=>B4V N a.1 a.2⟩
theorem C8E(N:Nat):J9 Tryz.prog (C2e N) :=
 J7 (Γ:=[.c (A85 N),.c (A9p N)]) (Θ:=[(10,I),(31,I),(60,I),(67,I),(76,I)]) (Λ:=([⟨0,0,B3B,(.o 5 I),fun {Ω} kx kr=>D4 (A5F N kx kr) N⟩,⟨2,0,Sa3,Sa7,fun {Ω} kx kr=>D4 (A7v N kx kr) N⟩]:List (LC (G8 (.t (.sl I)))))) (by kernel_rfl) G2 ⟨B4S N,⟨B5y N,trivial⟩⟩ (by kernel_rfl)
  ⟨H8.mk N (fun Ω kx kr=>A5F N kx kr) (fun Ω g kx kr s=>by kernel_rfl),⟨H8.mk N (fun Ω kx kr=>A7v N kx kr) (fun Ω g kx kr s=>by kernel_rfl),trivial⟩⟩ (by kernel_rfl) (fun a=>by kernel_rfl)
def A4I(N:Nat)(a0:(List Int)):Option (List Int) :=
 (bif (decide ((3:Int)<(a0.length:Int))) then(bif (inB (0:Int) (3:Int) (a0.length:Int)) then(bif (decide ((([]:List Int).length+((a0.drop (0:Int).toNat).take ((3:Int).toNat-(0:Int).toNat)).length)*8≤140737488355328)) then some (([]:List Int)++((a0.drop (0:Int).toNat).take ((3:Int).toNat-(0:Int).toNat))) else none) else none) else(bif (decide ((([]:List Int).length+a0.length)*8≤140737488355328)) then some (([]:List Int)++a0) else none))
abbrev B3m(N:Nat):CT:=⟨109,(.d (.sl I)),(.t (.sl I)),fun a=>A4I N a⟩
theorem C2d(N:Nat):J9 Tryz.prog (B3m N) :=
 J7 (Γ:=[]) (Θ:=[(8,I)]) (Λ:=([]:List (LC (G8 (.t (.sl I)))))) (by kernel_rfl) G2 trivial (by kernel_rfl)
  trivial (by kernel_rfl) (fun a=>by kernel_rfl)
def A7C(N:Nat){Ω:Type}(kx:D3 (.pr (.d 0 (.sl I)) (.d 5 I))→Option Ω)(kr:Int→Option Ω)(rec_:D3 C4o→Option Ω):D3 C4o→Option Ω:=fun (s0,s1,s5,s6) =>
 (bif (decide (s6<(s0.length:Int))) then(bif (decide (s5<(0:Int))) then rec_ (s0,s1,s6,(wrap64 (s6+(1:Int)))) else(bif (decide (0≤s6)&&decide (s6<s0.length)) then(bif (decide (0≤s5)&&decide (s5<s0.length)) then(A2w N s1 (s0.getD s6.toNat (0:Int))).bind fun r1=>(A2w N s1 (s0.getD s5.toNat (0:Int))).bind fun r2=>(bif (decide (r1<r2)) then rec_ (s0,s1,s6,(wrap64 (s6+(1:Int)))) else rec_ (s0,s1,s5,(wrap64 (s6+(1:Int))))) else none) else none)) else kx (s0,s5))
def B5n(N:Nat)(a0:(List Int))(a1:Int):Option Int :=
 D4 (A7C N (fun (x3,x4)=>(bif (decide (x4<(0:Int))) then some (-1:Int) else(bif (decide (0≤x4)&&decide (x4<x3.length)) then some (x3.getD x4.toNat (0:Int)) else none))) (fun ρ5=>some (ρ5))) N (a0,a1,(-1:Int),(0:Int))
abbrev C14(N:Nat):CT:=⟨110,(.pr (.d (.sl I)) (.d I)),(.t I),fun a=>B5n N a.1 a.2⟩
theorem C9t(N:Nat):J9 Tryz.prog (C14 N) :=
 J7 (Γ:=[.c (A9p N)]) (Θ:=[]) (Λ:=([⟨0,0,C4o,(.pr (.d 0 (.sl I)) (.d 5 I)),fun {Ω} kx kr=>D4 (A7C N kx kr) N⟩]:List (LC (G8 (.t I))))) (by kernel_rfl) G2 ⟨B5y N,trivial⟩ (by kernel_rfl)
  ⟨H8.mk N (fun Ω kx kr=>A7C N kx kr) (fun Ω g kx kr s=>by kernel_rfl),trivial⟩ (by kernel_rfl) (fun a=>by kernel_rfl)
def C9a:NF:={ body:=(.seq (nR (nO 2 (.al [(.val (.slice none 0 0))]) .done)) (.seq (nR (nO 11 (.bsl 1 0 false [(.val (.int .i64 (0)))] []) (nM 3 11 .done))) (.seq (.seq (nR (nO 4 (.mv (nK 0)) .done)) (.block 0 (.loop (.seq (.seq (nR (nM 12 4 (nM 13 0 (nO 14 (.len (nT 13)) (nO 15 (.bin .lss (nT 12) (nT 14)) .done))))) (.cond (nT 15) .skip (.exit 0))) (.seq (.block 1 (.seq (nR (nM 18 0 (nM 19 4 (nO 20 (nI 1 18 19) (nO 21 (nl 20) (nO 22 (.call 86 [(nT 21),(nK 0),(nK 255)]) (nM 23 22 (nG 23 true 24 (.mv (nT 3)) (nG 23 true 25 (.mv (nT 0)) (nG 23 true 26 (.mv (nT 4)) (nG 23 true 27 (nI 1 25 26) (nG 23 true 28 (nl 27) (nG 23 true 29 (.call 58 [nT 24,nT 28]) (nG 23 true 30 (.un .not (nT 29)) (nO 31 (.pick (nT 23) (nT 30) (.const (.bool false))) (nM 32 31 (nG 32 true 33 (.mv (nT 3)) (nG 32 true 34 (.len (nT 33)) (nG 32 true 35 (.bin .lss (nT 34) (nK 8)) (nO 36 (.pick (nT 32) (nT 35) (.const (.bool false))) .done)))))))))))))))))))) (.cond (nT 36) (nR (nM 37 3 (nM 38 0 (nM 39 4 (nO 40 (nI 1 38 39) (nO 41 (nl 40) (nO 42 (.bsl 1 1 false [(.val (.int .i64 (0)))] [(0,(nT 41))]) (nO 43 (.app false 1 8 (nT 37) (nT 42)) (nM 3 43 .done))))))))) .skip))) (nR (nM 16 4 (nO 17 (.bin .add (nT 16) (nK 1)) (nM 4 17 .done))))))))) (.seq (.seq (nR (nM 44 3 (nO 45 (.len (nT 44)) (nO 46 (.bin .lss (nT 45) (nK 4)) .done)))) (.cond (nT 46) (.seq (nR (nO 47 (.bld [(.val (.slice none 0 0))] []) (nU (.st 1 (nT 2) (nT 47)) .done))) .ret) .skip)) (.seq (nR (nM 48 3 (nO 49 (.slc 1 (nT 48) none (some (nK 4))) (nM 5 49 .done)))) (.seq (nR (nO 50 (.bld [(.val (.slice none 0 0))] []) (nO 6 (.al [(.val (.slice none 0 0))]) (nU (.st 1 (nT 6) (nT 50)) .done)))) (.seq (.seq (nR (nO 7 (.mv (nK 0)) .done)) (.block 2 (.loop (.seq (.seq (nR (nM 51 7 (nM 52 3 (nO 53 (.len (nT 52)) (nO 54 (.bin .lss (nT 51) (nT 53)) .done))))) (.cond (nT 54) .skip (.exit 2))) (.seq (.block 3 (.seq (.seq (nR (nM 57 7 (nO 58 (.bin .geq (nT 57) (nK 4)) .done))) (.cond (nT 58) (.seq (nR (nO 59 (nF 0 6) (nO 60 (nl 59) (nM 61 3 (nM 62 7 (nO 63 (nI 1 61 62) (nO 64 (nl 63) (nO 65 (.bld [(.val (.int .i64 (0))),(.val (.bool false)),(.val (.int .i64 (0))),(.val (.slice none 0 0)),(.val (.slice none 0 0)),(.val (.slice none 0 0))] [(0,1,(nT 64))]) (nO 66 (.bsl 6 1 true [(.val (.int .i64 (0))),(.val (.bool false)),(.val (.int .i64 (0))),(.val (.slice none 0 0)),(.val (.slice none 0 0)),(.val (.slice none 0 0))] [(0,(nT 65))]) (nO 67 (.app false 6 96 (nT 60) (nT 66)) (nO 68 (nF 0 6) (nU (.st 1 (nT 68) (nT 67)) .done)))))))))))) (.exit 3)) .skip)) (.seq (nR (nM 69 5 (nM 70 3 (nM 71 7 (nO 72 (nI 1 70 71) (nO 73 (nl 72) (nO 74 (.call 108 [nT 69,nT 73]) (nM 8 74 .done)))))))) (.seq (.regs (nM 75 3 (nM 76 7 (nO 77 (nI 1 75 76) (nO 78 (nl 77) (nM 79 8 (nM 80 8 (nO 81 (.len (nT 80)) (nO 82 (.bin .sub (nT 81) (nK 1)) (nO 83 (nI 1 79 82) (nO 84 (nl 83) (nM 85 8 (.both (nO 86 (.call 109 [nT 85]) (nO 87 (.bld [(.val (.int .i64 (0))),(.val (.bool false)),(.val (.int .i64 (0))),(.val (.slice none 0 0)),(.val (.slice none 0 0)),(.val (.slice none 0 0))] [(0,1,(nT 78)),(1,1,(.const (.bool true))),(2,1,(nT 84)),(3,1,(nT 86))]) (nO 9 (.al [(.val (.int .i64 (0))),(.val (.bool false)),(.val (.int .i64 (0))),(.val (.slice none 0 0)),(.val (.slice none 0 0)),(.val (.slice none 0 0))]) (nU (.st 6 (nT 9) (nT 87)) .done)))) (nO 9 (.al [(.val (.int .i64 (0))),(.val (.bool false)),(.val (.int .i64 (0))),(.val (.slice none 0 0)),(.val (.slice none 0 0)),(.val (.slice none 0 0))]) (nO 86 (.call 109 [nT 85]) (nO 87 (.bld [(.val (.int .i64 (0))),(.val (.bool false)),(.val (.int .i64 (0))),(.val (.slice none 0 0)),(.val (.slice none 0 0)),(.val (.slice none 0 0))] [(0,1,(nT 78)),(1,1,(.const (.bool true))),(2,1,(nT 84)),(3,1,(nT 86))]) (nU (.st 6 (nT 9) (nT 87)) .done)))))))))))))))) (nM 75 3 (nM 76 7 (nO 77 (nI 1 75 76) (nM 79 8 (nM 80 8 (nO 81 (.len (nT 80)) (nO 82 (.bin .sub (nT 81) (nK 1)) (nO 83 (nI 1 79 82) (nM 85 8 (.both (nO 78 (nl 77) (.both (nO 84 (nl 83) (.both (nO 86 (.call 109 [nT 85]) (nO 87 (.bld [(.val (.int .i64 (0))),(.val (.bool false)),(.val (.int .i64 (0))),(.val (.slice none 0 0)),(.val (.slice none 0 0)),(.val (.slice none 0 0))] [(0,1,(nT 78)),(1,1,(.const (.bool true))),(2,1,(nT 84)),(3,1,(nT 86))]) (nO 9 (.al [(.val (.int .i64 (0))),(.val (.bool false)),(.val (.int .i64 (0))),(.val (.slice none 0 0)),(.val (.slice none 0 0)),(.val (.slice none 0 0))]) (nU (.st 6 (nT 9) (nT 87)) .done)))) (nO 9 (.al [(.val (.int .i64 (0))),(.val (.bool false)),(.val (.int .i64 (0))),(.val (.slice none 0 0)),(.val (.slice none 0 0)),(.val (.slice none 0 0))]) (nO 86 (.call 109 [nT 85]) (nO 87 (.bld [(.val (.int .i64 (0))),(.val (.bool false)),(.val (.int .i64 (0))),(.val (.slice none 0 0)),(.val (.slice none 0 0)),(.val (.slice none 0 0))] [(0,1,(nT 78)),(1,1,(.const (.bool true))),(2,1,(nT 84)),(3,1,(nT 86))]) (nU (.st 6 (nT 9) (nT 87)) .done)))))) (.both (nO 86 (.call 109 [nT 85]) (nO 84 (nl 83) (nO 87 (.bld [(.val (.int .i64 (0))),(.val (.bool false)),(.val (.int .i64 (0))),(.val (.slice none 0 0)),(.val (.slice none 0 0)),(.val (.slice none 0 0))] [(0,1,(nT 78)),(1,1,(.const (.bool true))),(2,1,(nT 84)),(3,1,(nT 86))]) (nO 9 (.al [(.val (.int .i64 (0))),(.val (.bool false)),(.val (.int .i64 (0))),(.val (.slice none 0 0)),(.val (.slice none 0 0)),(.val (.slice none 0 0))]) (nU (.st 6 (nT 9) (nT 87)) .done))))) (nO 9 (.al [(.val (.int .i64 (0))),(.val (.bool false)),(.val (.int .i64 (0))),(.val (.slice none 0 0)),(.val (.slice none 0 0)),(.val (.slice none 0 0))]) (.both (nO 84 (nl 83) (nO 86 (.call 109 [nT 85]) (nO 87 (.bld [(.val (.int .i64 (0))),(.val (.bool false)),(.val (.int .i64 (0))),(.val (.slice none 0 0)),(.val (.slice none 0 0)),(.val (.slice none 0 0))] [(0,1,(nT 78)),(1,1,(.const (.bool true))),(2,1,(nT 84)),(3,1,(nT 86))]) (nU (.st 6 (nT 9) (nT 87)) .done)))) (nO 86 (.call 109 [nT 85]) (nO 84 (nl 83) (nO 87 (.bld [(.val (.int .i64 (0))),(.val (.bool false)),(.val (.int .i64 (0))),(.val (.slice none 0 0)),(.val (.slice none 0 0)),(.val (.slice none 0 0))] [(0,1,(nT 78)),(1,1,(.const (.bool true))),(2,1,(nT 84)),(3,1,(nT 86))]) (nU (.st 6 (nT 9) (nT 87)) .done))))))))) (.both (nO 84 (nl 83) (.both (nO 78 (nl 77) (.both (nO 86 (.call 109 [nT 85]) (nO 87 (.bld [(.val (.int .i64 (0))),(.val (.bool false)),(.val (.int .i64 (0))),(.val (.slice none 0 0)),(.val (.slice none 0 0)),(.val (.slice none 0 0))] [(0,1,(nT 78)),(1,1,(.const (.bool true))),(2,1,(nT 84)),(3,1,(nT 86))]) (nO 9 (.al [(.val (.int .i64 (0))),(.val (.bool false)),(.val (.int .i64 (0))),(.val (.slice none 0 0)),(.val (.slice none 0 0)),(.val (.slice none 0 0))]) (nU (.st 6 (nT 9) (nT 87)) .done)))) (nO 9 (.al [(.val (.int .i64 (0))),(.val (.bool false)),(.val (.int .i64 (0))),(.val (.slice none 0 0)),(.val (.slice none 0 0)),(.val (.slice none 0 0))]) (nO 86 (.call 109 [nT 85]) (nO 87 (.bld [(.val (.int .i64 (0))),(.val (.bool false)),(.val (.int .i64 (0))),(.val (.slice none 0 0)),(.val (.slice none 0 0)),(.val (.slice none 0 0))] [(0,1,(nT 78)),(1,1,(.const (.bool true))),(2,1,(nT 84)),(3,1,(nT 86))]) (nU (.st 6 (nT 9) (nT 87)) .done)))))) (.both (nO 86 (.call 109 [nT 85]) (nO 78 (nl 77) (nO 87 (.bld [(.val (.int .i64 (0))),(.val (.bool false)),(.val (.int .i64 (0))),(.val (.slice none 0 0)),(.val (.slice none 0 0)),(.val (.slice none 0 0))] [(0,1,(nT 78)),(1,1,(.const (.bool true))),(2,1,(nT 84)),(3,1,(nT 86))]) (nO 9 (.al [(.val (.int .i64 (0))),(.val (.bool false)),(.val (.int .i64 (0))),(.val (.slice none 0 0)),(.val (.slice none 0 0)),(.val (.slice none 0 0))]) (nU (.st 6 (nT 9) (nT 87)) .done))))) (nO 9 (.al [(.val (.int .i64 (0))),(.val (.bool false)),(.val (.int .i64 (0))),(.val (.slice none 0 0)),(.val (.slice none 0 0)),(.val (.slice none 0 0))]) (.both (nO 78 (nl 77) (nO 86 (.call 109 [nT 85]) (nO 87 (.bld [(.val (.int .i64 (0))),(.val (.bool false)),(.val (.int .i64 (0))),(.val (.slice none 0 0)),(.val (.slice none 0 0)),(.val (.slice none 0 0))] [(0,1,(nT 78)),(1,1,(.const (.bool true))),(2,1,(nT 84)),(3,1,(nT 86))]) (nU (.st 6 (nT 9) (nT 87)) .done)))) (nO 86 (.call 109 [nT 85]) (nO 78 (nl 77) (nO 87 (.bld [(.val (.int .i64 (0))),(.val (.bool false)),(.val (.int .i64 (0))),(.val (.slice none 0 0)),(.val (.slice none 0 0)),(.val (.slice none 0 0))] [(0,1,(nT 78)),(1,1,(.const (.bool true))),(2,1,(nT 84)),(3,1,(nT 86))]) (nU (.st 6 (nT 9) (nT 87)) .done))))))))) (.both (nO 86 (.call 109 [nT 85]) (nO 78 (nl 77) (nO 84 (nl 83) (nO 87 (.bld [(.val (.int .i64 (0))),(.val (.bool false)),(.val (.int .i64 (0))),(.val (.slice none 0 0)),(.val (.slice none 0 0)),(.val (.slice none 0 0))] [(0,1,(nT 78)),(1,1,(.const (.bool true))),(2,1,(nT 84)),(3,1,(nT 86))]) (nO 9 (.al [(.val (.int .i64 (0))),(.val (.bool false)),(.val (.int .i64 (0))),(.val (.slice none 0 0)),(.val (.slice none 0 0)),(.val (.slice none 0 0))]) (nU (.st 6 (nT 9) (nT 87)) .done)))))) (nO 9 (.al [(.val (.int .i64 (0))),(.val (.bool false)),(.val (.int .i64 (0))),(.val (.slice none 0 0)),(.val (.slice none 0 0)),(.val (.slice none 0 0))]) (.both (nO 78 (nl 77) (.both (nO 84 (nl 83) (nO 86 (.call 109 [nT 85]) (nO 87 (.bld [(.val (.int .i64 (0))),(.val (.bool false)),(.val (.int .i64 (0))),(.val (.slice none 0 0)),(.val (.slice none 0 0)),(.val (.slice none 0 0))] [(0,1,(nT 78)),(1,1,(.const (.bool true))),(2,1,(nT 84)),(3,1,(nT 86))]) (nU (.st 6 (nT 9) (nT 87)) .done)))) (nO 86 (.call 109 [nT 85]) (nO 84 (nl 83) (nO 87 (.bld [(.val (.int .i64 (0))),(.val (.bool false)),(.val (.int .i64 (0))),(.val (.slice none 0 0)),(.val (.slice none 0 0)),(.val (.slice none 0 0))] [(0,1,(nT 78)),(1,1,(.const (.bool true))),(2,1,(nT 84)),(3,1,(nT 86))]) (nU (.st 6 (nT 9) (nT 87)) .done)))))) (.both (nO 84 (nl 83) (.both (nO 78 (nl 77) (nO 86 (.call 109 [nT 85]) (nO 87 (.bld [(.val (.int .i64 (0))),(.val (.bool false)),(.val (.int .i64 (0))),(.val (.slice none 0 0)),(.val (.slice none 0 0)),(.val (.slice none 0 0))] [(0,1,(nT 78)),(1,1,(.const (.bool true))),(2,1,(nT 84)),(3,1,(nT 86))]) (nU (.st 6 (nT 9) (nT 87)) .done)))) (nO 86 (.call 109 [nT 85]) (nO 78 (nl 77) (nO 87 (.bld [(.val (.int .i64 (0))),(.val (.bool false)),(.val (.int .i64 (0))),(.val (.slice none 0 0)),(.val (.slice none 0 0)),(.val (.slice none 0 0))] [(0,1,(nT 78)),(1,1,(.const (.bool true))),(2,1,(nT 84)),(3,1,(nT 86))]) (nU (.st 6 (nT 9) (nT 87)) .done)))))) (nO 86 (.call 109 [nT 85]) (nO 78 (nl 77) (nO 84 (nl 83) (nO 87 (.bld [(.val (.int .i64 (0))),(.val (.bool false)),(.val (.int .i64 (0))),(.val (.slice none 0 0)),(.val (.slice none 0 0)),(.val (.slice none 0 0))] [(0,1,(nT 78)),(1,1,(.const (.bool true))),(2,1,(nT 84)),(3,1,(nT 86))]) (nU (.st 6 (nT 9) (nT 87)) .done))))))))))))))))))))) (.seq (.seq (nR (nO 10 (.mv (nK 0)) .done)) (.block 4 (.loop (.seq (.seq (nR (nM 88 10 (nO 89 (.bin .lss (nT 88) (nK 8)) .done))) (.cond (nT 89) .skip (.exit 4))) (.seq (.block 5 (.regs (nO 92 (nF 4 9) (nO 93 (nl 92) (nM 94 5 (nM 95 3 (nM 96 7 (nO 97 (nI 1 95 96) (nO 98 (nl 97) (nM 99 10 (nO 100 (.cvi .u64 (nT 99)) (nO 101 (.bin .shl (nK 1) (nT 100)) (nO 102 (.bin .add (nT 98) (nT 101)) (nO 103 (.call 110 [nT 94,nT 102]) (nO 104 (.bsl 1 1 false [(.val (.int .i64 (0)))] [(0,(nT 103))]) (nO 105 (.app false 1 8 (nT 93) (nT 104)) (nO 106 (nF 4 9) (nU (.st 1 (nT 106) (nT 105)) .done)))))))))))))))) (nO 92 (nF 4 9) (nM 94 5 (nM 95 3 (nM 96 7 (nO 97 (nI 1 95 96) (nO 98 (nl 97) (nM 99 10 (nO 100 (.cvi .u64 (nT 99)) (nO 101 (.bin .shl (nK 1) (nT 100)) (nO 102 (.bin .add (nT 98) (nT 101)) (.both (nO 93 (nl 92) (nO 103 (.call 110 [nT 94,nT 102]) (nO 104 (.bsl 1 1 false [(.val (.int .i64 (0)))] [(0,(nT 103))]) (nO 105 (.app false 1 8 (nT 93) (nT 104)) (nO 106 (nF 4 9) (nU (.st 1 (nT 106) (nT 105)) .done)))))) (nO 103 (.call 110 [nT 94,nT 102]) (nO 93 (nl 92) (nO 104 (.bsl 1 1 false [(.val (.int .i64 (0)))] [(0,(nT 103))]) (nO 105 (.app false 1 8 (nT 93) (nT 104)) (nO 106 (nF 4 9) (nU (.st 1 (nT 106) (nT 105)) .done))))))))))))))))))) (nR (nM 90 10 (nO 91 (.bin .add (nT 90) (nK 1)) (nM 10 91 .done))))))))) (nR (nO 107 (nF 0 6) (nO 108 (nl 107) (nO 109 (.ld 6 true (nT 9)) (nO 110 (.bsl 6 1 true [(.val (.int .i64 (0))),(.val (.bool false)),(.val (.int .i64 (0))),(.val (.slice none 0 0)),(.val (.slice none 0 0)),(.val (.slice none 0 0))] [(0,(nT 109))]) (nO 111 (.app false 6 96 (nT 108) (nT 110)) (nO 112 (nF 0 6) (nU (.st 1 (nT 112) (nT 111)) .done))))))))))))) (nR (nM 55 7 (nO 56 (.bin .add (nT 55) (nK 1)) (nM 7 56 .done))))))))) (.seq (nR (nO 113 (nL 6) (nU (.st 1 (nT 2) (nT 113)) .done))) .ret)))))))),res:=[(.c 2 1 true)],n:=114 }
theorem D0b:nFn Tryz.prog 93=some C9a:=by kernel_rfl
def A5v(N:Nat){Ω:Type}(kx:D3 (.pr (.bx 2 C4) (.o 3 I))→Option Ω)(kr:(Den C4)→Option Ω)(rec_:D3 C3D→Option Ω):D3 C3D→Option Ω:=fun (s0,s2,s3,s4) =>
 (bif (decide (s4<(s0.length:Int))) then(bif (decide (0≤s4)&&decide (s4<s0.length)) then(A3I N (s0.getD s4.toNat (0:Int)) (0:Int) (255:Int)).bind fun r1=>(bif r1 then(bif (decide (0≤s4)&&decide (s4<s0.length)) then(A5f N s3 (s0.getD s4.toNat (0:Int))).bind fun r2=>(bif (!r2) then(bif (decide ((s3.length:Int)<(8:Int))) then(bif (decide (0≤s4)&&decide (s4<s0.length)) then(bif (decide ((s3.length+[(s0.getD s4.toNat (0:Int))].length)*8≤140737488355328)) then rec_ (s0,s2,(s3++[(s0.getD s4.toNat (0:Int))]),(wrap64 (s4+(1:Int)))) else none) else none) else rec_ (s0,s2,s3,(wrap64 (s4+(1:Int))))) else rec_ (s0,s2,s3,(wrap64 (s4+(1:Int))))) else none) else rec_ (s0,s2,s3,(wrap64 (s4+(1:Int))))) else none) else kx (s2,s3))
def A4i(N:Nat){Ω:Type}(kx:D3 Sa2→Option Ω)(kr:(Den C4)→Option Ω)(rec_:D3 Sa1→Option Ω):D3 Sa1→Option Ω:=fun (s2,s3,s5,s6,s7,s9,s10) =>
 (bif (decide (s10<(8:Int))) then(bif (decide (0≤s7)&&decide (s7<s3.length)) then(bif (decide (0≤(s10 % 18446744073709551616))) then(B5n N s5 (wrap64 ((s3.getD s7.toNat (0:Int))+(A4k .i64 (1:Int) (s10 % 18446744073709551616))))).bind fun r7=>(bif (decide ((s9.2.2.2.2.1.length+[r7].length)*8≤140737488355328)) then rec_ (s2,s3,s5,s6,s7,(s9.1,s9.2.1,s9.2.2.1,s9.2.2.2.1,(s9.2.2.2.2.1++[r7]),s9.2.2.2.2.2),(wrap64 (s10+(1:Int)))) else none) else none) else none) else kx (s2,s3,s5,s6,s7,s9))
def A7Q(N:Nat){Ω:Type}(kx:D3 (.pr (.bx 2 C4) (.bx 6 C4))→Option Ω)(kr:(Den C4)→Option Ω)(rec_:D3 Sa5→Option Ω):D3 Sa5→Option Ω:=fun (s2,s3,s5,s6,s7) =>
 (bif (decide (s7<(s3.length:Int))) then(bif (decide ((4:Int)≤s7)) then(bif (decide (0≤s7)&&decide (s7<s3.length)) then(bif (decide ((s6.length+([((s3.getD s7.toNat (0:Int)),false,(0:Int),[],[],[])]:List (Den A0)).length)*96≤140737488355328)) then rec_ (s2,s3,s5,(s6++([((s3.getD s7.toNat (0:Int)),false,(0:Int),[],[],[])]:List (Den A0))),(wrap64 (s7+(1:Int)))) else none) else none) else(bif (decide (0≤s7)&&decide (s7<s3.length)) then(B4V N s5 (s3.getD s7.toNat (0:Int))).bind fun r5=>(bif (decide (0≤s7)&&decide (s7<s3.length)) then(bif (decide (0≤(wrap64 ((r5.length:Int)-(1:Int))))&&decide ((wrap64 ((r5.length:Int)-(1:Int)))<r5.length)) then N4 ((A4I N r5).bind fun r6=>D4 (A4i N (fun (x8,x9,x10,x11,x12,x13)=>(bif (decide ((x11.length+[x13].length)*96≤140737488355328)) then rec_ (x8,x9,x10,(x11++[x13]),(wrap64 (x12+(1:Int)))) else none)) (fun ρ14=>kr (ρ14))) N (s2,s3,s5,s6,s7,((s3.getD s7.toNat (0:Int)),true,(r5.getD ((wrap64 ((r5.length:Int)-(1:Int))).toNat) (0:Int)),r6,[],[]),(0:Int))) ((A4I N r5).bind fun r15=>D4 (A4i N (fun (x16,x17,x18,x19,x20,x21)=>(bif (decide ((x19.length+[x21].length)*96≤140737488355328)) then rec_ (x16,x17,x18,(x19++[x21]),(wrap64 (x20+(1:Int)))) else none)) (fun ρ22=>kr (ρ22))) N (s2,s3,s5,s6,s7,((s3.getD s7.toNat (0:Int)),true,(r5.getD ((wrap64 ((r5.length:Int)-(1:Int))).toNat) (0:Int)),r15,[],[]),(0:Int))) else none) else none) else none)) else kx (s2,s6))
def B5l(N:Nat)(a0:(List Int)):Option (Den C4) :=
 D4 (A5v N (fun (x3,x4)=>(bif (decide ((x4.length:Int)<(4:Int))) then some [] else(bif (inB (0:Int) (4:Int) (x4.length:Int)) then D4 (A7Q N (fun (x23,x24)=>some x24) (fun ρ25=>some (ρ25))) N (x3,x4,((x4.drop ((0:Int).toNat)).take ((4:Int).toNat-(0:Int).toNat)),[],(0:Int)) else none))) (fun ρ26=>some (ρ26))) N (a0,[],[],(0:Int))
abbrev C1b(N:Nat):CT:=⟨93,(.d (.sl I)),(.t C4),fun a=>B5l N a⟩
theorem C9n(N:Nat):J9 Tryz.prog (C1b N) :=
 A1i D0b (Γ:=[.c (B7z N),.c (A85 N),.c (C2e N),.c (B3m N),.c (C14 N)]) (Θ:=[(11,I),(42,I),(66,A0),(104,I),(110,A0)]) (Λ:=([⟨0,0,C3D,(.pr (.bx 2 C4) (.o 3 I)),fun {Ω} kx kr=>D4 (A5v N kx kr) N⟩,⟨2,0,Sa5,(.pr (.bx 2 C4) (.bx 6 C4)),fun {Ω} kx kr=>D4 (A7Q N kx kr) N⟩,⟨4,0,Sa1,Sa2,fun {Ω} kx kr=>D4 (A4i N kx kr) N⟩]:List (LC (G8 (.t C4))))) G2 ⟨C5E N,⟨B4S N,⟨C8E N,⟨C2d N,⟨C9t N,trivial⟩⟩⟩⟩⟩ (by kernel_rfl)
  ⟨H8.mk N (fun Ω kx kr=>A5v N kx kr) (fun Ω g kx kr s=>by kernel_rfl),⟨H8.mk N (fun Ω kx kr=>A7Q N kx kr) (fun Ω g kx kr s=>by kernel_rfl),⟨H8.mk N (fun Ω kx kr=>A4i N kx kr) (fun Ω g kx kr s=>by kernel_rfl),trivial⟩⟩⟩ (by kernel_rfl) (fun a=>by kernel_rfl)
def C9h:NF:={ body:=(.seq (nR (nO 1 (.bx 6 (nT 0)) (nO 2 (.al [(.val (.int .i64 (0))),(.val (.bool false)),(.val (.int .i64 (0))),(.val (.slice none 0 0)),(.val (.slice none 0 0)),(.val (.slice none 0 0))]) .done))) (.seq (nR (nO 5 (.ld 6 true (nT 1)) (nO 3 (.al [(.val (.int .i64 (0))),(.val (.bool false)),(.val (.int .i64 (0))),(.val (.slice none 0 0)),(.val (.slice none 0 0)),(.val (.slice none 0 0))]) (nU (.st 6 (nT 3) (nT 5)) .done)))) (.seq (nR (nO 6 (.bsl 1 0 false [(.val (.int .i64 (0)))] []) (nO 7 (nF 3 1) (nO 8 (nl 7) (nO 9 (.app false 1 8 (nT 6) (nT 8)) (nO 10 (nF 3 3) (nU (.st 1 (nT 10) (nT 9)) .done))))))) (.seq (nR (nO 11 (.bsl 1 0 false [(.val (.int .i64 (0)))] []) (nO 12 (nF 4 1) (nO 13 (nl 12) (nO 14 (.app false 1 8 (nT 11) (nT 13)) (nO 15 (nF 4 3) (nU (.st 1 (nT 15) (nT 14)) .done))))))) (.seq (nR (nO 16 (.bsl 2 0 true [(.val (.int .i64 (0))),(.val (.slice none 0 0))] []) (nO 17 (nF 5 3) (nU (.st 1 (nT 17) (nT 16)) .done)))) (.seq (.seq (nR (nO 4 (.mv (nK 0)) .done)) (.block 0 (.loop (.seq (.seq (nR (nM 18 4 (nO 19 (nF 5 1) (nO 20 (nl 19) (nO 21 (.len (nT 20)) (nO 22 (.bin .lss (nT 18) (nT 21)) .done)))))) (.cond (nT 22) .skip (.exit 0))) (.seq (.block 1 (.reg false (nO 25 (nF 5 3) (nO 27 (nF 5 1) (nM 29 4 (nO 34 (nF 5 1) (nO 35 (nl 34) (nM 36 4 (nO 37 (nI 2 35 36) (nO 38 (nF 1 37) (nO 39 (nl 38) (.both (nO 26 (nl 25) (.both (nO 28 (nl 27) (nO 30 (nI 2 28 29) (nO 31 (nF 0 30) (.both (nO 32 (nl 31) (.op ⟨some 33,none,(.bsl 2 0 true [(.val (.string ⟨#[]⟩)),(.val (.bool false))] [])⟩ (nO 40 (.app false 2 24 (nT 33) (nT 39)) (nO 41 (.bld [(.val (.int .i64 (0))),(.val (.slice none 0 0))] [(0,1,(nT 32)),(1,1,(nT 40))]) (nO 42 (.bsl 2 1 true [(.val (.int .i64 (0))),(.val (.slice none 0 0))] [(0,(nT 41))]) (nO 43 (.app false 2 32 (nT 26) (nT 42)) (nO 44 (nF 5 3) (nU (.st 1 (nT 44) (nT 43)) .done)))))))) (.op ⟨some 33,none,(.bsl 2 0 true [(.val (.string ⟨#[]⟩)),(.val (.bool false))] [])⟩ (.both (nO 32 (nl 31) (nO 40 (.app false 2 24 (nT 33) (nT 39)) (nO 41 (.bld [(.val (.int .i64 (0))),(.val (.slice none 0 0))] [(0,1,(nT 32)),(1,1,(nT 40))]) (nO 42 (.bsl 2 1 true [(.val (.int .i64 (0))),(.val (.slice none 0 0))] [(0,(nT 41))]) (nO 43 (.app false 2 32 (nT 26) (nT 42)) (nO 44 (nF 5 3) (nU (.st 1 (nT 44) (nT 43)) .done))))))) (nO 40 (.app false 2 24 (nT 33) (nT 39)) (nO 32 (nl 31) (nO 41 (.bld [(.val (.int .i64 (0))),(.val (.slice none 0 0))] [(0,1,(nT 32)),(1,1,(nT 40))]) (nO 42 (.bsl 2 1 true [(.val (.int .i64 (0))),(.val (.slice none 0 0))] [(0,(nT 41))]) (nO 43 (.app false 2 32 (nT 26) (nT 42)) (nO 44 (nF 5 3) (nU (.st 1 (nT 44) (nT 43)) .done))))))))))))) (.op ⟨some 33,none,(.bsl 2 0 true [(.val (.string ⟨#[]⟩)),(.val (.bool false))] [])⟩ (.both (nO 28 (nl 27) (nO 30 (nI 2 28 29) (nO 31 (nF 0 30) (.both (nO 32 (nl 31) (nO 40 (.app false 2 24 (nT 33) (nT 39)) (nO 41 (.bld [(.val (.int .i64 (0))),(.val (.slice none 0 0))] [(0,1,(nT 32)),(1,1,(nT 40))]) (nO 42 (.bsl 2 1 true [(.val (.int .i64 (0))),(.val (.slice none 0 0))] [(0,(nT 41))]) (nO 43 (.app false 2 32 (nT 26) (nT 42)) (nO 44 (nF 5 3) (nU (.st 1 (nT 44) (nT 43)) .done))))))) (nO 40 (.app false 2 24 (nT 33) (nT 39)) (nO 32 (nl 31) (nO 41 (.bld [(.val (.int .i64 (0))),(.val (.slice none 0 0))] [(0,1,(nT 32)),(1,1,(nT 40))]) (nO 42 (.bsl 2 1 true [(.val (.int .i64 (0))),(.val (.slice none 0 0))] [(0,(nT 41))]) (nO 43 (.app false 2 32 (nT 26) (nT 42)) (nO 44 (nF 5 3) (nU (.st 1 (nT 44) (nT 43)) .done))))))))))) (nO 40 (.app false 2 24 (nT 33) (nT 39)) (nO 28 (nl 27) (nO 30 (nI 2 28 29) (nO 31 (nF 0 30) (nO 32 (nl 31) (nO 41 (.bld [(.val (.int .i64 (0))),(.val (.slice none 0 0))] [(0,1,(nT 32)),(1,1,(nT 40))]) (nO 42 (.bsl 2 1 true [(.val (.int .i64 (0))),(.val (.slice none 0 0))] [(0,(nT 41))]) (nO 43 (.app false 2 32 (nT 26) (nT 42)) (nO 44 (nF 5 3) (nU (.st 1 (nT 44) (nT 43)) .done)))))))))))))) (.both (nO 28 (nl 27) (nO 30 (nI 2 28 29) (nO 31 (nF 0 30) (.both (nO 26 (nl 25) (.both (nO 32 (nl 31) (.op ⟨some 33,none,(.bsl 2 0 true [(.val (.string ⟨#[]⟩)),(.val (.bool false))] [])⟩ (nO 40 (.app false 2 24 (nT 33) (nT 39)) (nO 41 (.bld [(.val (.int .i64 (0))),(.val (.slice none 0 0))] [(0,1,(nT 32)),(1,1,(nT 40))]) (nO 42 (.bsl 2 1 true [(.val (.int .i64 (0))),(.val (.slice none 0 0))] [(0,(nT 41))]) (nO 43 (.app false 2 32 (nT 26) (nT 42)) (nO 44 (nF 5 3) (nU (.st 1 (nT 44) (nT 43)) .done)))))))) (.op ⟨some 33,none,(.bsl 2 0 true [(.val (.string ⟨#[]⟩)),(.val (.bool false))] [])⟩ (.both (nO 32 (nl 31) (nO 40 (.app false 2 24 (nT 33) (nT 39)) (nO 41 (.bld [(.val (.int .i64 (0))),(.val (.slice none 0 0))] [(0,1,(nT 32)),(1,1,(nT 40))]) (nO 42 (.bsl 2 1 true [(.val (.int .i64 (0))),(.val (.slice none 0 0))] [(0,(nT 41))]) (nO 43 (.app false 2 32 (nT 26) (nT 42)) (nO 44 (nF 5 3) (nU (.st 1 (nT 44) (nT 43)) .done))))))) (nO 40 (.app false 2 24 (nT 33) (nT 39)) (nO 32 (nl 31) (nO 41 (.bld [(.val (.int .i64 (0))),(.val (.slice none 0 0))] [(0,1,(nT 32)),(1,1,(nT 40))]) (nO 42 (.bsl 2 1 true [(.val (.int .i64 (0))),(.val (.slice none 0 0))] [(0,(nT 41))]) (nO 43 (.app false 2 32 (nT 26) (nT 42)) (nO 44 (nF 5 3) (nU (.st 1 (nT 44) (nT 43)) .done))))))))))) (.both (nO 32 (nl 31) (.both (nO 26 (nl 25) (.op ⟨some 33,none,(.bsl 2 0 true [(.val (.string ⟨#[]⟩)),(.val (.bool false))] [])⟩ (nO 40 (.app false 2 24 (nT 33) (nT 39)) (nO 41 (.bld [(.val (.int .i64 (0))),(.val (.slice none 0 0))] [(0,1,(nT 32)),(1,1,(nT 40))]) (nO 42 (.bsl 2 1 true [(.val (.int .i64 (0))),(.val (.slice none 0 0))] [(0,(nT 41))]) (nO 43 (.app false 2 32 (nT 26) (nT 42)) (nO 44 (nF 5 3) (nU (.st 1 (nT 44) (nT 43)) .done)))))))) (.op ⟨some 33,none,(.bsl 2 0 true [(.val (.string ⟨#[]⟩)),(.val (.bool false))] [])⟩ (.both (nO 26 (nl 25) (nO 40 (.app false 2 24 (nT 33) (nT 39)) (nO 41 (.bld [(.val (.int .i64 (0))),(.val (.slice none 0 0))] [(0,1,(nT 32)),(1,1,(nT 40))]) (nO 42 (.bsl 2 1 true [(.val (.int .i64 (0))),(.val (.slice none 0 0))] [(0,(nT 41))]) (nO 43 (.app false 2 32 (nT 26) (nT 42)) (nO 44 (nF 5 3) (nU (.st 1 (nT 44) (nT 43)) .done))))))) (nO 40 (.app false 2 24 (nT 33) (nT 39)) (nO 26 (nl 25) (nO 41 (.bld [(.val (.int .i64 (0))),(.val (.slice none 0 0))] [(0,1,(nT 32)),(1,1,(nT 40))]) (nO 42 (.bsl 2 1 true [(.val (.int .i64 (0))),(.val (.slice none 0 0))] [(0,(nT 41))]) (nO 43 (.app false 2 32 (nT 26) (nT 42)) (nO 44 (nF 5 3) (nU (.st 1 (nT 44) (nT 43)) .done))))))))))) (.op ⟨some 33,none,(.bsl 2 0 true [(.val (.string ⟨#[]⟩)),(.val (.bool false))] [])⟩ (.both (nO 26 (nl 25) (.both (nO 32 (nl 31) (nO 40 (.app false 2 24 (nT 33) (nT 39)) (nO 41 (.bld [(.val (.int .i64 (0))),(.val (.slice none 0 0))] [(0,1,(nT 32)),(1,1,(nT 40))]) (nO 42 (.bsl 2 1 true [(.val (.int .i64 (0))),(.val (.slice none 0 0))] [(0,(nT 41))]) (nO 43 (.app false 2 32 (nT 26) (nT 42)) (nO 44 (nF 5 3) (nU (.st 1 (nT 44) (nT 43)) .done))))))) (nO 40 (.app false 2 24 (nT 33) (nT 39)) (nO 32 (nl 31) (nO 41 (.bld [(.val (.int .i64 (0))),(.val (.slice none 0 0))] [(0,1,(nT 32)),(1,1,(nT 40))]) (nO 42 (.bsl 2 1 true [(.val (.int .i64 (0))),(.val (.slice none 0 0))] [(0,(nT 41))]) (nO 43 (.app false 2 32 (nT 26) (nT 42)) (nO 44 (nF 5 3) (nU (.st 1 (nT 44) (nT 43)) .done))))))))) (.both (nO 32 (nl 31) (.both (nO 26 (nl 25) (nO 40 (.app false 2 24 (nT 33) (nT 39)) (nO 41 (.bld [(.val (.int .i64 (0))),(.val (.slice none 0 0))] [(0,1,(nT 32)),(1,1,(nT 40))]) (nO 42 (.bsl 2 1 true [(.val (.int .i64 (0))),(.val (.slice none 0 0))] [(0,(nT 41))]) (nO 43 (.app false 2 32 (nT 26) (nT 42)) (nO 44 (nF 5 3) (nU (.st 1 (nT 44) (nT 43)) .done))))))) (nO 40 (.app false 2 24 (nT 33) (nT 39)) (nO 26 (nl 25) (nO 41 (.bld [(.val (.int .i64 (0))),(.val (.slice none 0 0))] [(0,1,(nT 32)),(1,1,(nT 40))]) (nO 42 (.bsl 2 1 true [(.val (.int .i64 (0))),(.val (.slice none 0 0))] [(0,(nT 41))]) (nO 43 (.app false 2 32 (nT 26) (nT 42)) (nO 44 (nF 5 3) (nU (.st 1 (nT 44) (nT 43)) .done))))))))) (nO 40 (.app false 2 24 (nT 33) (nT 39)) (nO 26 (nl 25) (nO 32 (nl 31) (nO 41 (.bld [(.val (.int .i64 (0))),(.val (.slice none 0 0))] [(0,1,(nT 32)),(1,1,(nT 40))]) (nO 42 (.bsl 2 1 true [(.val (.int .i64 (0))),(.val (.slice none 0 0))] [(0,(nT 41))]) (nO 43 (.app false 2 32 (nT 26) (nT 42)) (nO 44 (nF 5 3) (nU (.st 1 (nT 44) (nT 43)) .done)))))))))))))))) (.op ⟨some 33,none,(.bsl 2 0 true [(.val (.string ⟨#[]⟩)),(.val (.bool false))] [])⟩ (.both (nO 26 (nl 25) (.both (nO 28 (nl 27) (nO 30 (nI 2 28 29) (nO 31 (nF 0 30) (.both (nO 32 (nl 31) (nO 40 (.app false 2 24 (nT 33) (nT 39)) (nO 41 (.bld [(.val (.int .i64 (0))),(.val (.slice none 0 0))] [(0,1,(nT 32)),(1,1,(nT 40))]) (nO 42 (.bsl 2 1 true [(.val (.int .i64 (0))),(.val (.slice none 0 0))] [(0,(nT 41))]) (nO 43 (.app false 2 32 (nT 26) (nT 42)) (nO 44 (nF 5 3) (nU (.st 1 (nT 44) (nT 43)) .done))))))) (nO 40 (.app false 2 24 (nT 33) (nT 39)) (nO 32 (nl 31) (nO 41 (.bld [(.val (.int .i64 (0))),(.val (.slice none 0 0))] [(0,1,(nT 32)),(1,1,(nT 40))]) (nO 42 (.bsl 2 1 true [(.val (.int .i64 (0))),(.val (.slice none 0 0))] [(0,(nT 41))]) (nO 43 (.app false 2 32 (nT 26) (nT 42)) (nO 44 (nF 5 3) (nU (.st 1 (nT 44) (nT 43)) .done))))))))))) (nO 40 (.app false 2 24 (nT 33) (nT 39)) (nO 28 (nl 27) (nO 30 (nI 2 28 29) (nO 31 (nF 0 30) (nO 32 (nl 31) (nO 41 (.bld [(.val (.int .i64 (0))),(.val (.slice none 0 0))] [(0,1,(nT 32)),(1,1,(nT 40))]) (nO 42 (.bsl 2 1 true [(.val (.int .i64 (0))),(.val (.slice none 0 0))] [(0,(nT 41))]) (nO 43 (.app false 2 32 (nT 26) (nT 42)) (nO 44 (nF 5 3) (nU (.st 1 (nT 44) (nT 43)) .done)))))))))))) (.both (nO 28 (nl 27) (nO 30 (nI 2 28 29) (nO 31 (nF 0 30) (.both (nO 26 (nl 25) (.both (nO 32 (nl 31) (nO 40 (.app false 2 24 (nT 33) (nT 39)) (nO 41 (.bld [(.val (.int .i64 (0))),(.val (.slice none 0 0))] [(0,1,(nT 32)),(1,1,(nT 40))]) (nO 42 (.bsl 2 1 true [(.val (.int .i64 (0))),(.val (.slice none 0 0))] [(0,(nT 41))]) (nO 43 (.app false 2 32 (nT 26) (nT 42)) (nO 44 (nF 5 3) (nU (.st 1 (nT 44) (nT 43)) .done))))))) (nO 40 (.app false 2 24 (nT 33) (nT 39)) (nO 32 (nl 31) (nO 41 (.bld [(.val (.int .i64 (0))),(.val (.slice none 0 0))] [(0,1,(nT 32)),(1,1,(nT 40))]) (nO 42 (.bsl 2 1 true [(.val (.int .i64 (0))),(.val (.slice none 0 0))] [(0,(nT 41))]) (nO 43 (.app false 2 32 (nT 26) (nT 42)) (nO 44 (nF 5 3) (nU (.st 1 (nT 44) (nT 43)) .done))))))))) (.both (nO 32 (nl 31) (.both (nO 26 (nl 25) (nO 40 (.app false 2 24 (nT 33) (nT 39)) (nO 41 (.bld [(.val (.int .i64 (0))),(.val (.slice none 0 0))] [(0,1,(nT 32)),(1,1,(nT 40))]) (nO 42 (.bsl 2 1 true [(.val (.int .i64 (0))),(.val (.slice none 0 0))] [(0,(nT 41))]) (nO 43 (.app false 2 32 (nT 26) (nT 42)) (nO 44 (nF 5 3) (nU (.st 1 (nT 44) (nT 43)) .done))))))) (nO 40 (.app false 2 24 (nT 33) (nT 39)) (nO 26 (nl 25) (nO 41 (.bld [(.val (.int .i64 (0))),(.val (.slice none 0 0))] [(0,1,(nT 32)),(1,1,(nT 40))]) (nO 42 (.bsl 2 1 true [(.val (.int .i64 (0))),(.val (.slice none 0 0))] [(0,(nT 41))]) (nO 43 (.app false 2 32 (nT 26) (nT 42)) (nO 44 (nF 5 3) (nU (.st 1 (nT 44) (nT 43)) .done))))))))) (nO 40 (.app false 2 24 (nT 33) (nT 39)) (nO 26 (nl 25) (nO 32 (nl 31) (nO 41 (.bld [(.val (.int .i64 (0))),(.val (.slice none 0 0))] [(0,1,(nT 32)),(1,1,(nT 40))]) (nO 42 (.bsl 2 1 true [(.val (.int .i64 (0))),(.val (.slice none 0 0))] [(0,(nT 41))]) (nO 43 (.app false 2 32 (nT 26) (nT 42)) (nO 44 (nF 5 3) (nU (.st 1 (nT 44) (nT 43)) .done))))))))))))) (nO 40 (.app false 2 24 (nT 33) (nT 39)) (nO 26 (nl 25) (nO 28 (nl 27) (nO 30 (nI 2 28 29) (nO 31 (nF 0 30) (nO 32 (nl 31) (nO 41 (.bld [(.val (.int .i64 (0))),(.val (.slice none 0 0))] [(0,1,(nT 32)),(1,1,(nT 40))]) (nO 42 (.bsl 2 1 true [(.val (.int .i64 (0))),(.val (.slice none 0 0))] [(0,(nT 41))]) (nO 43 (.app false 2 32 (nT 26) (nT 42)) (nO 44 (nF 5 3) (nU (.st 1 (nT 44) (nT 43)) .done))))))))))))))))))))))))))) (nR (nM 23 4 (nO 24 (.bin .add (nT 23) (nK 1)) (nM 4 24 .done))))))))) (.seq (nR (nO 45 (.ld 6 true (nT 3)) (nU (.st 6 (nT 2) (nT 45)) .done))) .ret))))))),res:=[(.c 2 6 true)],n:=46 }
theorem C8S:nFn Tryz.prog 53=some C9h:=by kernel_rfl
def A9C(N:Nat){Ω:Type}(kx:D3 (.pr (.bx 2 A0) (.bx 3 A0))→Option Ω)(kr:(Den A0)→Option Ω)(rec_:D3 Sa8→Option Ω):D3 Sa8→Option Ω:=fun (s1,s2,s3,s4) =>
 (bif (decide (s4<(s1.2.2.2.2.2.length:Int))) then(bif (decide (0≤s4)&&decide (s4<s1.2.2.2.2.2.length)) then N4 (N4 ((bif (decide (0≤s4)&&decide (s4<s1.2.2.2.2.2.length)) then N4 ((bif (decide ((([]:List (Den A8)).length+((s1.2.2.2.2.2.getD s4.toNat (dft A7)).2).length)*24≤140737488355328)) then(bif (decide ((s3.2.2.2.2.2.length+([((s1.2.2.2.2.2.getD s4.toNat (dft A7)).1,(([]:List (Den A8))++((s1.2.2.2.2.2.getD s4.toNat (dft A7)).2)))]:List (Den A7)).length)*32≤140737488355328)) then rec_ (s1,s2,(s3.1,s3.2.1,s3.2.2.1,s3.2.2.2.1,s3.2.2.2.2.1,(s3.2.2.2.2.2++([((s1.2.2.2.2.2.getD s4.toNat (dft A7)).1,(([]:List (Den A8))++((s1.2.2.2.2.2.getD s4.toNat (dft A7)).2)))]:List (Den A7)))),(wrap64 (s4+(1:Int)))) else none) else none)) (N4 ((bif (decide ((([]:List (Den A8)).length+((s1.2.2.2.2.2.getD s4.toNat (dft A7)).2).length)*24≤140737488355328)) then(bif (decide ((s3.2.2.2.2.2.length+([((s1.2.2.2.2.2.getD s4.toNat (dft A7)).1,(([]:List (Den A8))++((s1.2.2.2.2.2.getD s4.toNat (dft A7)).2)))]:List (Den A7)).length)*32≤140737488355328)) then rec_ (s1,s2,(s3.1,s3.2.1,s3.2.2.1,s3.2.2.2.1,s3.2.2.2.2.1,(s3.2.2.2.2.2++([((s1.2.2.2.2.2.getD s4.toNat (dft A7)).1,(([]:List (Den A8))++((s1.2.2.2.2.2.getD s4.toNat (dft A7)).2)))]:List (Den A7)))),(wrap64 (s4+(1:Int)))) else none) else none)) ((bif (decide ((([]:List (Den A8)).length+((s1.2.2.2.2.2.getD s4.toNat (dft A7)).2).length)*24≤140737488355328)) then(bif (decide ((s3.2.2.2.2.2.length+([((s1.2.2.2.2.2.getD s4.toNat (dft A7)).1,(([]:List (Den A8))++((s1.2.2.2.2.2.getD s4.toNat (dft A7)).2)))]:List (Den A7)).length)*32≤140737488355328)) then rec_ (s1,s2,(s3.1,s3.2.1,s3.2.2.1,s3.2.2.2.1,s3.2.2.2.2.1,(s3.2.2.2.2.2++([((s1.2.2.2.2.2.getD s4.toNat (dft A7)).1,(([]:List (Den A8))++((s1.2.2.2.2.2.getD s4.toNat (dft A7)).2)))]:List (Den A7)))),(wrap64 (s4+(1:Int)))) else none) else none))) else none)) (N4 ((bif (decide (0≤s4)&&decide (s4<s1.2.2.2.2.2.length)) then N4 ((bif (decide ((([]:List (Den A8)).length+((s1.2.2.2.2.2.getD s4.toNat (dft A7)).2).length)*24≤140737488355328)) then(bif (decide ((s3.2.2.2.2.2.length+([((s1.2.2.2.2.2.getD s4.toNat (dft A7)).1,(([]:List (Den A8))++((s1.2.2.2.2.2.getD s4.toNat (dft A7)).2)))]:List (Den A7)).length)*32≤140737488355328)) then rec_ (s1,s2,(s3.1,s3.2.1,s3.2.2.1,s3.2.2.2.1,s3.2.2.2.2.1,(s3.2.2.2.2.2++([((s1.2.2.2.2.2.getD s4.toNat (dft A7)).1,(([]:List (Den A8))++((s1.2.2.2.2.2.getD s4.toNat (dft A7)).2)))]:List (Den A7)))),(wrap64 (s4+(1:Int)))) else none) else none)) ((bif (decide ((([]:List (Den A8)).length+((s1.2.2.2.2.2.getD s4.toNat (dft A7)).2).length)*24≤140737488355328)) then(bif (decide ((s3.2.2.2.2.2.length+([((s1.2.2.2.2.2.getD s4.toNat (dft A7)).1,(([]:List (Den A8))++((s1.2.2.2.2.2.getD s4.toNat (dft A7)).2)))]:List (Den A7)).length)*32≤140737488355328)) then rec_ (s1,s2,(s3.1,s3.2.1,s3.2.2.1,s3.2.2.2.1,s3.2.2.2.2.1,(s3.2.2.2.2.2++([((s1.2.2.2.2.2.getD s4.toNat (dft A7)).1,(([]:List (Den A8))++((s1.2.2.2.2.2.getD s4.toNat (dft A7)).2)))]:List (Den A7)))),(wrap64 (s4+(1:Int)))) else none) else none)) else none)) ((bif (decide ((([]:List (Den A8)).length+((s1.2.2.2.2.2.getD s4.toNat (dft A7)).2).length)*24≤140737488355328)) then(bif (decide (0≤s4)&&decide (s4<s1.2.2.2.2.2.length)) then(bif (decide ((s3.2.2.2.2.2.length+([((s1.2.2.2.2.2.getD s4.toNat (dft A7)).1,(([]:List (Den A8))++((s1.2.2.2.2.2.getD s4.toNat (dft A7)).2)))]:List (Den A7)).length)*32≤140737488355328)) then rec_ (s1,s2,(s3.1,s3.2.1,s3.2.2.1,s3.2.2.2.1,s3.2.2.2.2.1,(s3.2.2.2.2.2++([((s1.2.2.2.2.2.getD s4.toNat (dft A7)).1,(([]:List (Den A8))++((s1.2.2.2.2.2.getD s4.toNat (dft A7)).2)))]:List (Den A7)))),(wrap64 (s4+(1:Int)))) else none) else none) else none)))) (N4 ((bif (decide (0≤s4)&&decide (s4<s1.2.2.2.2.2.length)) then N4 (N4 ((bif (decide ((([]:List (Den A8)).length+((s1.2.2.2.2.2.getD s4.toNat (dft A7)).2).length)*24≤140737488355328)) then(bif (decide ((s3.2.2.2.2.2.length+([((s1.2.2.2.2.2.getD s4.toNat (dft A7)).1,(([]:List (Den A8))++((s1.2.2.2.2.2.getD s4.toNat (dft A7)).2)))]:List (Den A7)).length)*32≤140737488355328)) then rec_ (s1,s2,(s3.1,s3.2.1,s3.2.2.1,s3.2.2.2.1,s3.2.2.2.2.1,(s3.2.2.2.2.2++([((s1.2.2.2.2.2.getD s4.toNat (dft A7)).1,(([]:List (Den A8))++((s1.2.2.2.2.2.getD s4.toNat (dft A7)).2)))]:List (Den A7)))),(wrap64 (s4+(1:Int)))) else none) else none)) (N4 ((bif (decide ((([]:List (Den A8)).length+((s1.2.2.2.2.2.getD s4.toNat (dft A7)).2).length)*24≤140737488355328)) then(bif (decide ((s3.2.2.2.2.2.length+([((s1.2.2.2.2.2.getD s4.toNat (dft A7)).1,(([]:List (Den A8))++((s1.2.2.2.2.2.getD s4.toNat (dft A7)).2)))]:List (Den A7)).length)*32≤140737488355328)) then rec_ (s1,s2,(s3.1,s3.2.1,s3.2.2.1,s3.2.2.2.1,s3.2.2.2.2.1,(s3.2.2.2.2.2++([((s1.2.2.2.2.2.getD s4.toNat (dft A7)).1,(([]:List (Den A8))++((s1.2.2.2.2.2.getD s4.toNat (dft A7)).2)))]:List (Den A7)))),(wrap64 (s4+(1:Int)))) else none) else none)) ((bif (decide ((([]:List (Den A8)).length+((s1.2.2.2.2.2.getD s4.toNat (dft A7)).2).length)*24≤140737488355328)) then(bif (decide ((s3.2.2.2.2.2.length+([((s1.2.2.2.2.2.getD s4.toNat (dft A7)).1,(([]:List (Den A8))++((s1.2.2.2.2.2.getD s4.toNat (dft A7)).2)))]:List (Den A7)).length)*32≤140737488355328)) then rec_ (s1,s2,(s3.1,s3.2.1,s3.2.2.1,s3.2.2.2.1,s3.2.2.2.2.1,(s3.2.2.2.2.2++([((s1.2.2.2.2.2.getD s4.toNat (dft A7)).1,(([]:List (Den A8))++((s1.2.2.2.2.2.getD s4.toNat (dft A7)).2)))]:List (Den A7)))),(wrap64 (s4+(1:Int)))) else none) else none)))) (N4 (N4 ((bif (decide ((([]:List (Den A8)).length+((s1.2.2.2.2.2.getD s4.toNat (dft A7)).2).length)*24≤140737488355328)) then(bif (decide ((s3.2.2.2.2.2.length+([((s1.2.2.2.2.2.getD s4.toNat (dft A7)).1,(([]:List (Den A8))++((s1.2.2.2.2.2.getD s4.toNat (dft A7)).2)))]:List (Den A7)).length)*32≤140737488355328)) then rec_ (s1,s2,(s3.1,s3.2.1,s3.2.2.1,s3.2.2.2.1,s3.2.2.2.2.1,(s3.2.2.2.2.2++([((s1.2.2.2.2.2.getD s4.toNat (dft A7)).1,(([]:List (Den A8))++((s1.2.2.2.2.2.getD s4.toNat (dft A7)).2)))]:List (Den A7)))),(wrap64 (s4+(1:Int)))) else none) else none)) (N4 ((bif (decide ((([]:List (Den A8)).length+((s1.2.2.2.2.2.getD s4.toNat (dft A7)).2).length)*24≤140737488355328)) then(bif (decide ((s3.2.2.2.2.2.length+([((s1.2.2.2.2.2.getD s4.toNat (dft A7)).1,(([]:List (Den A8))++((s1.2.2.2.2.2.getD s4.toNat (dft A7)).2)))]:List (Den A7)).length)*32≤140737488355328)) then rec_ (s1,s2,(s3.1,s3.2.1,s3.2.2.1,s3.2.2.2.1,s3.2.2.2.2.1,(s3.2.2.2.2.2++([((s1.2.2.2.2.2.getD s4.toNat (dft A7)).1,(([]:List (Den A8))++((s1.2.2.2.2.2.getD s4.toNat (dft A7)).2)))]:List (Den A7)))),(wrap64 (s4+(1:Int)))) else none) else none)) ((bif (decide ((([]:List (Den A8)).length+((s1.2.2.2.2.2.getD s4.toNat (dft A7)).2).length)*24≤140737488355328)) then(bif (decide ((s3.2.2.2.2.2.length+([((s1.2.2.2.2.2.getD s4.toNat (dft A7)).1,(([]:List (Den A8))++((s1.2.2.2.2.2.getD s4.toNat (dft A7)).2)))]:List (Den A7)).length)*32≤140737488355328)) then rec_ (s1,s2,(s3.1,s3.2.1,s3.2.2.1,s3.2.2.2.1,s3.2.2.2.2.1,(s3.2.2.2.2.2++([((s1.2.2.2.2.2.getD s4.toNat (dft A7)).1,(([]:List (Den A8))++((s1.2.2.2.2.2.getD s4.toNat (dft A7)).2)))]:List (Den A7)))),(wrap64 (s4+(1:Int)))) else none) else none)))) (N4 (N4 ((bif (decide ((([]:List (Den A8)).length+((s1.2.2.2.2.2.getD s4.toNat (dft A7)).2).length)*24≤140737488355328)) then(bif (decide ((s3.2.2.2.2.2.length+([((s1.2.2.2.2.2.getD s4.toNat (dft A7)).1,(([]:List (Den A8))++((s1.2.2.2.2.2.getD s4.toNat (dft A7)).2)))]:List (Den A7)).length)*32≤140737488355328)) then rec_ (s1,s2,(s3.1,s3.2.1,s3.2.2.1,s3.2.2.2.1,s3.2.2.2.2.1,(s3.2.2.2.2.2++([((s1.2.2.2.2.2.getD s4.toNat (dft A7)).1,(([]:List (Den A8))++((s1.2.2.2.2.2.getD s4.toNat (dft A7)).2)))]:List (Den A7)))),(wrap64 (s4+(1:Int)))) else none) else none)) ((bif (decide ((([]:List (Den A8)).length+((s1.2.2.2.2.2.getD s4.toNat (dft A7)).2).length)*24≤140737488355328)) then(bif (decide ((s3.2.2.2.2.2.length+([((s1.2.2.2.2.2.getD s4.toNat (dft A7)).1,(([]:List (Den A8))++((s1.2.2.2.2.2.getD s4.toNat (dft A7)).2)))]:List (Den A7)).length)*32≤140737488355328)) then rec_ (s1,s2,(s3.1,s3.2.1,s3.2.2.1,s3.2.2.2.1,s3.2.2.2.2.1,(s3.2.2.2.2.2++([((s1.2.2.2.2.2.getD s4.toNat (dft A7)).1,(([]:List (Den A8))++((s1.2.2.2.2.2.getD s4.toNat (dft A7)).2)))]:List (Den A7)))),(wrap64 (s4+(1:Int)))) else none) else none))) (N4 (N4 ((bif (decide ((([]:List (Den A8)).length+((s1.2.2.2.2.2.getD s4.toNat (dft A7)).2).length)*24≤140737488355328)) then(bif (decide ((s3.2.2.2.2.2.length+([((s1.2.2.2.2.2.getD s4.toNat (dft A7)).1,(([]:List (Den A8))++((s1.2.2.2.2.2.getD s4.toNat (dft A7)).2)))]:List (Den A7)).length)*32≤140737488355328)) then rec_ (s1,s2,(s3.1,s3.2.1,s3.2.2.1,s3.2.2.2.1,s3.2.2.2.2.1,(s3.2.2.2.2.2++([((s1.2.2.2.2.2.getD s4.toNat (dft A7)).1,(([]:List (Den A8))++((s1.2.2.2.2.2.getD s4.toNat (dft A7)).2)))]:List (Den A7)))),(wrap64 (s4+(1:Int)))) else none) else none)) ((bif (decide ((([]:List (Den A8)).length+((s1.2.2.2.2.2.getD s4.toNat (dft A7)).2).length)*24≤140737488355328)) then(bif (decide ((s3.2.2.2.2.2.length+([((s1.2.2.2.2.2.getD s4.toNat (dft A7)).1,(([]:List (Den A8))++((s1.2.2.2.2.2.getD s4.toNat (dft A7)).2)))]:List (Den A7)).length)*32≤140737488355328)) then rec_ (s1,s2,(s3.1,s3.2.1,s3.2.2.1,s3.2.2.2.1,s3.2.2.2.2.1,(s3.2.2.2.2.2++([((s1.2.2.2.2.2.getD s4.toNat (dft A7)).1,(([]:List (Den A8))++((s1.2.2.2.2.2.getD s4.toNat (dft A7)).2)))]:List (Den A7)))),(wrap64 (s4+(1:Int)))) else none) else none))) ((bif (decide ((([]:List (Den A8)).length+((s1.2.2.2.2.2.getD s4.toNat (dft A7)).2).length)*24≤140737488355328)) then(bif (decide ((s3.2.2.2.2.2.length+([((s1.2.2.2.2.2.getD s4.toNat (dft A7)).1,(([]:List (Den A8))++((s1.2.2.2.2.2.getD s4.toNat (dft A7)).2)))]:List (Den A7)).length)*32≤140737488355328)) then rec_ (s1,s2,(s3.1,s3.2.1,s3.2.2.1,s3.2.2.2.1,s3.2.2.2.2.1,(s3.2.2.2.2.2++([((s1.2.2.2.2.2.getD s4.toNat (dft A7)).1,(([]:List (Den A8))++((s1.2.2.2.2.2.getD s4.toNat (dft A7)).2)))]:List (Den A7)))),(wrap64 (s4+(1:Int)))) else none) else none))))) else none)) (N4 (N4 ((bif (decide (0≤s4)&&decide (s4<s1.2.2.2.2.2.length)) then N4 ((bif (decide ((([]:List (Den A8)).length+((s1.2.2.2.2.2.getD s4.toNat (dft A7)).2).length)*24≤140737488355328)) then(bif (decide ((s3.2.2.2.2.2.length+([((s1.2.2.2.2.2.getD s4.toNat (dft A7)).1,(([]:List (Den A8))++((s1.2.2.2.2.2.getD s4.toNat (dft A7)).2)))]:List (Den A7)).length)*32≤140737488355328)) then rec_ (s1,s2,(s3.1,s3.2.1,s3.2.2.1,s3.2.2.2.1,s3.2.2.2.2.1,(s3.2.2.2.2.2++([((s1.2.2.2.2.2.getD s4.toNat (dft A7)).1,(([]:List (Den A8))++((s1.2.2.2.2.2.getD s4.toNat (dft A7)).2)))]:List (Den A7)))),(wrap64 (s4+(1:Int)))) else none) else none)) ((bif (decide ((([]:List (Den A8)).length+((s1.2.2.2.2.2.getD s4.toNat (dft A7)).2).length)*24≤140737488355328)) then(bif (decide ((s3.2.2.2.2.2.length+([((s1.2.2.2.2.2.getD s4.toNat (dft A7)).1,(([]:List (Den A8))++((s1.2.2.2.2.2.getD s4.toNat (dft A7)).2)))]:List (Den A7)).length)*32≤140737488355328)) then rec_ (s1,s2,(s3.1,s3.2.1,s3.2.2.1,s3.2.2.2.1,s3.2.2.2.2.1,(s3.2.2.2.2.2++([((s1.2.2.2.2.2.getD s4.toNat (dft A7)).1,(([]:List (Den A8))++((s1.2.2.2.2.2.getD s4.toNat (dft A7)).2)))]:List (Den A7)))),(wrap64 (s4+(1:Int)))) else none) else none)) else none)) ((bif (decide ((([]:List (Den A8)).length+((s1.2.2.2.2.2.getD s4.toNat (dft A7)).2).length)*24≤140737488355328)) then(bif (decide (0≤s4)&&decide (s4<s1.2.2.2.2.2.length)) then(bif (decide ((s3.2.2.2.2.2.length+([((s1.2.2.2.2.2.getD s4.toNat (dft A7)).1,(([]:List (Den A8))++((s1.2.2.2.2.2.getD s4.toNat (dft A7)).2)))]:List (Den A7)).length)*32≤140737488355328)) then rec_ (s1,s2,(s3.1,s3.2.1,s3.2.2.1,s3.2.2.2.1,s3.2.2.2.2.1,(s3.2.2.2.2.2++([((s1.2.2.2.2.2.getD s4.toNat (dft A7)).1,(([]:List (Den A8))++((s1.2.2.2.2.2.getD s4.toNat (dft A7)).2)))]:List (Den A7)))),(wrap64 (s4+(1:Int)))) else none) else none) else none))) (N4 ((bif (decide (0≤s4)&&decide (s4<s1.2.2.2.2.2.length)) then N4 (N4 ((bif (decide ((([]:List (Den A8)).length+((s1.2.2.2.2.2.getD s4.toNat (dft A7)).2).length)*24≤140737488355328)) then(bif (decide ((s3.2.2.2.2.2.length+([((s1.2.2.2.2.2.getD s4.toNat (dft A7)).1,(([]:List (Den A8))++((s1.2.2.2.2.2.getD s4.toNat (dft A7)).2)))]:List (Den A7)).length)*32≤140737488355328)) then rec_ (s1,s2,(s3.1,s3.2.1,s3.2.2.1,s3.2.2.2.1,s3.2.2.2.2.1,(s3.2.2.2.2.2++([((s1.2.2.2.2.2.getD s4.toNat (dft A7)).1,(([]:List (Den A8))++((s1.2.2.2.2.2.getD s4.toNat (dft A7)).2)))]:List (Den A7)))),(wrap64 (s4+(1:Int)))) else none) else none)) ((bif (decide ((([]:List (Den A8)).length+((s1.2.2.2.2.2.getD s4.toNat (dft A7)).2).length)*24≤140737488355328)) then(bif (decide ((s3.2.2.2.2.2.length+([((s1.2.2.2.2.2.getD s4.toNat (dft A7)).1,(([]:List (Den A8))++((s1.2.2.2.2.2.getD s4.toNat (dft A7)).2)))]:List (Den A7)).length)*32≤140737488355328)) then rec_ (s1,s2,(s3.1,s3.2.1,s3.2.2.1,s3.2.2.2.1,s3.2.2.2.2.1,(s3.2.2.2.2.2++([((s1.2.2.2.2.2.getD s4.toNat (dft A7)).1,(([]:List (Den A8))++((s1.2.2.2.2.2.getD s4.toNat (dft A7)).2)))]:List (Den A7)))),(wrap64 (s4+(1:Int)))) else none) else none))) (N4 (N4 ((bif (decide ((([]:List (Den A8)).length+((s1.2.2.2.2.2.getD s4.toNat (dft A7)).2).length)*24≤140737488355328)) then(bif (decide ((s3.2.2.2.2.2.length+([((s1.2.2.2.2.2.getD s4.toNat (dft A7)).1,(([]:List (Den A8))++((s1.2.2.2.2.2.getD s4.toNat (dft A7)).2)))]:List (Den A7)).length)*32≤140737488355328)) then rec_ (s1,s2,(s3.1,s3.2.1,s3.2.2.1,s3.2.2.2.1,s3.2.2.2.2.1,(s3.2.2.2.2.2++([((s1.2.2.2.2.2.getD s4.toNat (dft A7)).1,(([]:List (Den A8))++((s1.2.2.2.2.2.getD s4.toNat (dft A7)).2)))]:List (Den A7)))),(wrap64 (s4+(1:Int)))) else none) else none)) ((bif (decide ((([]:List (Den A8)).length+((s1.2.2.2.2.2.getD s4.toNat (dft A7)).2).length)*24≤140737488355328)) then(bif (decide ((s3.2.2.2.2.2.length+([((s1.2.2.2.2.2.getD s4.toNat (dft A7)).1,(([]:List (Den A8))++((s1.2.2.2.2.2.getD s4.toNat (dft A7)).2)))]:List (Den A7)).length)*32≤140737488355328)) then rec_ (s1,s2,(s3.1,s3.2.1,s3.2.2.1,s3.2.2.2.1,s3.2.2.2.2.1,(s3.2.2.2.2.2++([((s1.2.2.2.2.2.getD s4.toNat (dft A7)).1,(([]:List (Den A8))++((s1.2.2.2.2.2.getD s4.toNat (dft A7)).2)))]:List (Den A7)))),(wrap64 (s4+(1:Int)))) else none) else none))) ((bif (decide ((([]:List (Den A8)).length+((s1.2.2.2.2.2.getD s4.toNat (dft A7)).2).length)*24≤140737488355328)) then(bif (decide ((s3.2.2.2.2.2.length+([((s1.2.2.2.2.2.getD s4.toNat (dft A7)).1,(([]:List (Den A8))++((s1.2.2.2.2.2.getD s4.toNat (dft A7)).2)))]:List (Den A7)).length)*32≤140737488355328)) then rec_ (s1,s2,(s3.1,s3.2.1,s3.2.2.1,s3.2.2.2.1,s3.2.2.2.2.1,(s3.2.2.2.2.2++([((s1.2.2.2.2.2.getD s4.toNat (dft A7)).1,(([]:List (Den A8))++((s1.2.2.2.2.2.getD s4.toNat (dft A7)).2)))]:List (Den A7)))),(wrap64 (s4+(1:Int)))) else none) else none))) else none)) ((bif (decide ((([]:List (Den A8)).length+((s1.2.2.2.2.2.getD s4.toNat (dft A7)).2).length)*24≤140737488355328)) then(bif (decide (0≤s4)&&decide (s4<s1.2.2.2.2.2.length)) then(bif (decide ((s3.2.2.2.2.2.length+([((s1.2.2.2.2.2.getD s4.toNat (dft A7)).1,(([]:List (Den A8))++((s1.2.2.2.2.2.getD s4.toNat (dft A7)).2)))]:List (Den A7)).length)*32≤140737488355328)) then rec_ (s1,s2,(s3.1,s3.2.1,s3.2.2.1,s3.2.2.2.1,s3.2.2.2.2.1,(s3.2.2.2.2.2++([((s1.2.2.2.2.2.getD s4.toNat (dft A7)).1,(([]:List (Den A8))++((s1.2.2.2.2.2.getD s4.toNat (dft A7)).2)))]:List (Den A7)))),(wrap64 (s4+(1:Int)))) else none) else none) else none))))) else none) else kx (s2,s3))
def A0U(N:Nat)(a0:(Den A0)):Option (Den A0) :=
 (bif (decide ((([]:List Int).length+a0.2.2.2.1.length)*8≤140737488355328)) then(bif (decide ((([]:List Int).length+a0.2.2.2.2.1.length)*8≤140737488355328)) then D4 (A9C N (fun (x1,x2)=>some x2) (fun ρ3=>some (ρ3))) N (a0,((0:Int),false,(0:Int),[],[],[]),(a0.1,a0.2.1,a0.2.2.1,(([]:List Int)++a0.2.2.2.1),(([]:List Int)++a0.2.2.2.2.1),[]),(0:Int)) else none) else none)
abbrev A97(N:Nat):CT:=⟨53,(.d A0),(.t A0),fun a=>A0U N a⟩
theorem B5D(N:Nat):J9 Tryz.prog (A97 N) :=
 A1i C8S (Γ:=[]) (Θ:=[(6,I),(11,I),(16,A7),(33,A8),(42,A7)]) (Λ:=([⟨0,0,Sa8,(.pr (.bx 2 A0) (.bx 3 A0)),fun {Ω} kx kr=>D4 (A9C N kx kr) N⟩]:List (LC (G8 (.t A0))))) G2 trivial (by kernel_rfl)
  ⟨H8.mk N (fun Ω kx kr=>A9C N kx kr) (fun Ω g kx kr s=>by kernel_rfl),trivial⟩ (by kernel_rfl) (fun a=>by kernel_rfl)
def A9K(N:Nat){Ω:Type}(kx:D3 (.pr (.bx 2 C4) (.bx 3 C4))→Option Ω)(kr:(Den C4)→Option Ω)(rec_:D3 Sa9→Option Ω):D3 Sa9→Option Ω:=fun (s1,s2,s3,s4) =>
 (bif (decide (s4<(s1.length:Int))) then(bif (decide (0≤s4)&&decide (s4<s1.length)) then(A0U N (s1.getD s4.toNat (dft A0))).bind fun r1=>(bif (decide ((s3.length+[r1].length)*96≤140737488355328)) then rec_ (s1,s2,(s3++[r1]),(wrap64 (s4+(1:Int)))) else none) else none) else kx (s2,s3))
def A2O(N:Nat)(a0:(Den C4)):Option (Den C4) :=
 D4 (A9K N (fun (x2,x3)=>some x3) (fun ρ4=>some (ρ4))) N (a0,[],[],(0:Int))
abbrev A33(N:Nat):CT:=⟨37,(.d C4),(.t C4),fun a=>A2O N a⟩
theorem A62(N:Nat):J9 Tryz.prog (A33 N) :=
 J7 (Γ:=[.c (A97 N)]) (Θ:=[(21,A0)]) (Λ:=([⟨0,0,Sa9,(.pr (.bx 2 C4) (.bx 3 C4)),fun {Ω} kx kr=>D4 (A9K N kx kr) N⟩]:List (LC (G8 (.t C4))))) (by kernel_rfl) G2 ⟨B5D N,trivial⟩ (by kernel_rfl)
  ⟨H8.mk N (fun Ω kx kr=>A9K N kx kr) (fun Ω g kx kr s=>by kernel_rfl),trivial⟩ (by kernel_rfl) (fun a=>by kernel_rfl)
def B0R(N:Nat){Ω:Type}(kx:D3 .un→Option Ω)(kr:Int→Option Ω)(rec_:D3 C4X→Option Ω):D3 C4X→Option Ω:=fun (s1,s2,s5) =>
 (bif (decide (s5<(s2.length:Int))) then(bif (decide (0≤s5)&&decide (s5<s2.length)) then(bif ((s2.getD s5.toNat (dft A0)).2).1 then(bif (decide (0≤s5)&&decide (s5<s2.length)) then(bif (decide (((s2.getD s5.toNat (dft A0)).1)=s1)) then kr s5 else rec_ (s1,s2,(wrap64 (s5+(1:Int))))) else none) else rec_ (s1,s2,(wrap64 (s5+(1:Int))))) else none) else kx ())
def V3(N:Nat)(a0:(Den C4))(a1:Int):Option Int :=
 D4 (B0R N (fun _=>some (-1:Int)) (fun ρ1=>some (ρ1))) N (a1,a0,(0:Int))
abbrev A0w(N:Nat):CT:=⟨41,(.pr (.d C4) (.d I)),(.t I),fun a=>V3 N a.1 a.2⟩
theorem A1R(N:Nat):J9 Tryz.prog (A0w N) :=
 J7 (Γ:=[]) (Θ:=[]) (Λ:=([⟨0,0,C4X,.un,fun {Ω} kx kr=>D4 (B0R N kx kr) N⟩]:List (LC (G8 (.t I))))) (by kernel_rfl) G2 trivial (by kernel_rfl)
  ⟨H8.mk N (fun Ω kx kr=>B0R N kx kr) (fun Ω g kx kr s=>by kernel_rfl),trivial⟩ (by kernel_rfl) (fun a=>by kernel_rfl)
def A7L(N:Nat){Ω:Type}(kx:D3 .un→Option Ω)(kr:Int→Option Ω)(rec_:D3 C3j→Option Ω):D3 C3j→Option Ω:=fun (s2,s5,s6) =>
 (bif (decide ((0:Int)≤s5)) then(bif (decide (0≤s5)&&decide (s5<s2.length)) then(bif (decide (s6<((((((s2.getD s5.toNat (dft A0)).2).2).2).1).length:Int))) then(bif (decide (0≤s5)&&decide (s5<s2.length)) then(bif (decide (0≤s6)&&decide (s6<(((((s2.getD s5.toNat (dft A0)).2).2).2).1).length)) then(V3 N s2 ((((((s2.getD s5.toNat (dft A0)).2).2).2).1).getD s6.toNat (0:Int))).bind fun r2=>(bif (decide ((0:Int)≤r2)) then(bif (decide (0≤s5)&&decide (s5<s2.length)) then(bif (decide (0≤s6)&&decide (s6<(((((s2.getD s5.toNat (dft A0)).2).2).2).1).length)) then kr ((((((s2.getD s5.toNat (dft A0)).2).2).2).1).getD s6.toNat (0:Int)) else none) else none) else rec_ (s2,s5,(wrap64 (s6+(1:Int))))) else none) else none) else kx ()) else none) else kx ())
def A6j(N:Nat)(a0:(Den C4))(a1:Int):Option Int :=
 (V3 N a0 a1).bind fun r1=>D4 (A7L N (fun _=>some (-1:Int)) (fun ρ3=>some (ρ3))) N (a0,r1,(0:Int))
abbrev A9Q(N:Nat):CT:=⟨46,(.pr (.d C4) (.d I)),(.t I),fun a=>A6j N a.1 a.2⟩
theorem B4R(N:Nat):J9 Tryz.prog (A9Q N) :=
 J7 (Γ:=[.c (A0w N)]) (Θ:=[]) (Λ:=([⟨0,0,C3j,.un,fun {Ω} kx kr=>D4 (A7L N kx kr) N⟩]:List (LC (G8 (.t I))))) (by kernel_rfl) G2 ⟨A1R N,trivial⟩ (by kernel_rfl)
  ⟨H8.mk N (fun Ω kx kr=>A7L N kx kr) (fun Ω g kx kr s=>by kernel_rfl),trivial⟩ (by kernel_rfl) (fun a=>by kernel_rfl)
def A3U(N:Nat)(a0:Int)(a1:Int)(a2:Int):Option Bool :=
 (A47 N a0).bind fun r1=>(A47 N a2).bind fun r2=>(bif (decide (r1=r2)) then(A2w N a0 a1).bind fun r3=>some (!decide (r3=(0:Int))) else(A2w N a0 a1).bind fun r4=>(bif (decide ((0:Int)<r4)) then(A2w N a0 a1).bind fun r5=>(A2w N a0 a2).bind fun r6=>some (decide (r5≤r6)) else some false))
abbrev B7l(N:Nat):CT:=⟨99,(.pr (.d I) (.pr (.d I) (.d I))),(.t .bl),fun a=>A3U N a.1 a.2.1 a.2.2⟩
theorem C5R(N:Nat):J9 Tryz.prog (B7l N) :=
 J7 (Γ:=[.c (B2f N),.c (A9p N)]) (Θ:=[]) (Λ:=([]:List (LC (G8 (.t .bl))))) (by kernel_rfl) G2 ⟨B9H N,⟨B5y N,trivial⟩⟩ (by kernel_rfl)
  trivial (by kernel_rfl) (fun a=>by kernel_rfl)
def C9z:NF:={ body:=(.seq (nR (nO 3 (.bx 1 (nT 0)) (nO 6 (.mv (nK 0)) (nO 7 (.mv (.const (.bool false))) .done)))) (.seq (nR (nO 14 (nL 3) (nM 15 1 (nO 16 (.call 41 [nT 14,nT 15]) (nM 8 16 .done))))) (.seq (nR (nO 17 (nL 3) (nM 18 1 (nO 19 (.call 46 [nT 17,nT 18]) (nM 9 19 .done))))) (.seq (nR (nM 20 2 (nO 21 (.call 98 [nT 20]) (nM 2 21 .done)))) (.seq (.seq (nR (nM 22 8 (nO 23 (.bin .lss (nT 22) (nK 0)) (nM 24 23 (nG 24 false 25 (.mv (nT 9)) (nG 24 false 26 (.bin .lss (nT 25) (nK 0)) (nO 27 (.pick (nT 24) (.const (.bool true)) (nT 26)) .done))))))) (.cond (nT 27) (.seq (nR (nO 6 (.mv (nK (-1))) (nO 7 (.mv (.const (.bool false))) .done))) .ret) .skip)) (.seq (.seq (nR (nM 28 2 (nM 29 1 (nO 30 (.bin .eql (nT 28) (nT 29)) .done)))) (.cond (nT 30) (.seq (nR (nM 31 1 (nM 6 31 (nO 7 (.mv (.const (.bool true))) .done)))) .ret) .skip)) (.seq (.seq (nR (nM 32 1 (nM 33 2 (nM 34 9 (nO 35 (.call 99 [nT 32,nT 33,nT 34]) .done))))) (.cond (nT 35) (.seq (nR (nM 36 9 (nM 6 36 (nO 7 (.mv (.const (.bool true))) .done)))) .ret) .skip)) (.seq (nR (nM 37 9 (nM 10 37 .done))) (.seq (.regs (nO 39 (nF 0 3) (nO 40 (nl 39) (nM 41 8 (nO 42 (nI 6 40 41) (nO 43 (nF 3 42) (nO 44 (nl 43) (nO 46 (nF 0 3) (nM 48 8 (.both (nO 38 (.bsl 1 0 false [(.val (.int .i64 (0)))] []) (.both (nO 45 (.app false 1 8 (nT 38) (nT 44)) (nO 47 (nl 46) (nO 49 (nI 6 47 48) (nO 50 (nF 4 49) (nO 51 (nl 50) (nO 52 (.app false 1 8 (nT 45) (nT 51)) (nM 11 52 .done))))))) (nO 47 (nl 46) (nO 49 (nI 6 47 48) (nO 50 (nF 4 49) (.both (nO 45 (.app false 1 8 (nT 38) (nT 44)) (nO 51 (nl 50) (nO 52 (.app false 1 8 (nT 45) (nT 51)) (nM 11 52 .done)))) (nO 51 (nl 50) (nO 45 (.app false 1 8 (nT 38) (nT 44)) (nO 52 (.app false 1 8 (nT 45) (nT 51)) (nM 11 52 .done)))))))))) (nO 47 (nl 46) (nO 49 (nI 6 47 48) (nO 50 (nF 4 49) (.both (nO 38 (.bsl 1 0 false [(.val (.int .i64 (0)))] []) (.both (nO 45 (.app false 1 8 (nT 38) (nT 44)) (nO 51 (nl 50) (nO 52 (.app false 1 8 (nT 45) (nT 51)) (nM 11 52 .done)))) (nO 51 (nl 50) (nO 45 (.app false 1 8 (nT 38) (nT 44)) (nO 52 (.app false 1 8 (nT 45) (nT 51)) (nM 11 52 .done)))))) (nO 51 (nl 50) (nO 38 (.bsl 1 0 false [(.val (.int .i64 (0)))] []) (nO 45 (.app false 1 8 (nT 38) (nT 44)) (nO 52 (.app false 1 8 (nT 45) (nT 51)) (nM 11 52 .done)))))))))))))))))) (nO 39 (nF 0 3) (nO 40 (nl 39) (nM 41 8 (nO 42 (nI 6 40 41) (nO 43 (nF 3 42) (nO 44 (nl 43) (nO 46 (nF 0 3) (nM 48 8 (.both (nO 38 (.bsl 1 0 false [(.val (.int .i64 (0)))] []) (.both (nO 45 (.app false 1 8 (nT 38) (nT 44)) (nO 47 (nl 46) (nO 49 (nI 6 47 48) (nO 50 (nF 4 49) (nO 51 (nl 50) (nO 52 (.app false 1 8 (nT 45) (nT 51)) (nM 11 52 .done))))))) (nO 47 (nl 46) (nO 49 (nI 6 47 48) (nO 50 (nF 4 49) (.both (nO 45 (.app false 1 8 (nT 38) (nT 44)) (nO 51 (nl 50) (nO 52 (.app false 1 8 (nT 45) (nT 51)) (nM 11 52 .done)))) (nO 51 (nl 50) (nO 45 (.app false 1 8 (nT 38) (nT 44)) (nO 52 (.app false 1 8 (nT 45) (nT 51)) (nM 11 52 .done)))))))))) (nO 47 (nl 46) (nO 49 (nI 6 47 48) (nO 50 (nF 4 49) (.both (nO 38 (.bsl 1 0 false [(.val (.int .i64 (0)))] []) (.both (nO 45 (.app false 1 8 (nT 38) (nT 44)) (nO 51 (nl 50) (nO 52 (.app false 1 8 (nT 45) (nT 51)) (nM 11 52 .done)))) (nO 51 (nl 50) (nO 45 (.app false 1 8 (nT 38) (nT 44)) (nO 52 (.app false 1 8 (nT 45) (nT 51)) (nM 11 52 .done)))))) (nO 51 (nl 50) (nO 38 (.bsl 1 0 false [(.val (.int .i64 (0)))] []) (nO 45 (.app false 1 8 (nT 38) (nT 44)) (nO 52 (.app false 1 8 (nT 45) (nT 51)) (nM 11 52 .done))))))))))))))))))) (.seq (.seq (nR (nO 12 (.mv (nK 0)) .done)) (.block 0 (.loop (.seq (.seq (nR (nM 53 12 (nM 54 11 (nO 55 (.len (nT 54)) (nO 56 (.bin .lss (nT 53) (nT 55)) .done))))) (.cond (nT 56) .skip (.exit 0))) (.seq (.block 1 (.seq (nR (nM 59 11 (nM 60 12 (nO 61 (nI 1 59 60) (nO 62 (nl 61) (nM 13 62 .done)))))) (.seq (nR (nM 63 13 (nM 64 2 (nO 65 (.bin .neq (nT 63) (nT 64)) (nM 66 65 (nG 66 true 67 (nL 3) (nG 66 true 68 (.mv (nT 13)) (nG 66 true 69 (.call 41 [nT 67,nT 68]) (nG 66 true 70 (.bin .geq (nT 69) (nK 0)) (nO 71 (.pick (nT 66) (nT 70) (.const (.bool false))) (nM 72 71 (nG 72 true 73 (.mv (nT 1)) (nG 72 true 74 (.mv (nT 13)) (nG 72 true 75 (.mv (nT 2)) (nG 72 true 76 (.call 99 [nT 73,nT 74,nT 75]) (nO 77 (.pick (nT 72) (nT 76) (.const (.bool false))) (nM 78 77 (nG 78 true 79 (.mv (nT 1)) (nG 78 true 80 (.mv (nT 13)) (nG 78 true 81 (.call 100 [nT 79,nT 80]) (nG 78 true 82 (.mv (nT 1)) (nG 78 true 83 (.mv (nT 10)) (nG 78 true 84 (.call 100 [nT 82,nT 83]) (nG 78 true 85 (.bin .gtr (nT 81) (nT 84)) (nO 86 (.pick (nT 78) (nT 85) (.const (.bool false))) .done))))))))))))))))))))))))) (.cond (nT 86) (nR (nM 87 13 (nM 10 87 .done))) .skip)))) (nR (nM 57 12 (nO 58 (.bin .add (nT 57) (nK 1)) (nM 12 58 .done))))))))) (.seq (nR (nM 88 10 (nM 6 88 (nO 7 (.mv (.const (.bool false))) .done)))) .ret))))))))))),res:=[(.t 6),(.t 7)],n:=89 }
theorem C9v:nFn Tryz.prog 72=some C9z:=by kernel_rfl
def A04(N:Nat){Ω:Type}(kx:D3 (.d 10 I)→Option Ω)(kr:(Int×Bool)→Option Ω)(rec_:D3 Sa4→Option Ω):D3 Sa4→Option Ω:=fun (s1,s2,s3,s10,s11,s12) =>
 (bif (decide (s12<(s11.length:Int))) then(bif (decide (0≤s12)&&decide (s12<s11.length)) then(bif (!decide ((s11.getD s12.toNat (0:Int))=s2)) then(V3 N s3 (s11.getD s12.toNat (0:Int))).bind fun r5=>(bif (decide ((0:Int)≤r5)) then(A3U N s1 (s11.getD s12.toNat (0:Int)) s2).bind fun r6=>(bif r6 then(A2w N s1 (s11.getD s12.toNat (0:Int))).bind fun r7=>(A2w N s1 s10).bind fun r8=>(bif (decide (r8<r7)) then rec_ (s1,s2,s3,(s11.getD s12.toNat (0:Int)),s11,(wrap64 (s12+(1:Int)))) else rec_ (s1,s2,s3,s10,s11,(wrap64 (s12+(1:Int))))) else rec_ (s1,s2,s3,s10,s11,(wrap64 (s12+(1:Int))))) else rec_ (s1,s2,s3,s10,s11,(wrap64 (s12+(1:Int))))) else rec_ (s1,s2,s3,s10,s11,(wrap64 (s12+(1:Int))))) else none) else kx s10)
def B46(N:Nat)(a0:(Den C4))(a1:Int)(a2:Int):Option (Int×Bool) :=
 (V3 N a0 a1).bind fun r1=>(A6j N a0 a1).bind fun r2=>(A47 N a2).bind fun r3=>(bif (decide (r1<(0:Int))) then some ((-1:Int),false) else(bif (decide (r2<(0:Int))) then some ((-1:Int),false) else(bif (decide (r3=a1)) then some (a1,true) else(A3U N a1 r3 r2).bind fun r4=>(bif r4 then some (r2,true) else(bif (decide (0≤r1)&&decide (r1<a0.length)) then N4 (N4 ((bif (decide ((([]:List Int).length+(((((a0.getD r1.toNat (dft A0)).2).2).2).1).length)*8≤140737488355328)) then(bif (decide (0≤r1)&&decide (r1<a0.length)) then(bif (decide (((([]:List Int)++(((((a0.getD r1.toNat (dft A0)).2).2).2).1)).length+((((((a0.getD r1.toNat (dft A0)).2).2).2).2).1).length)*8≤140737488355328)) then D4 (A04 N (fun x9=>some (x9,false)) (fun ρ10=>some (ρ10))) N (a1,r3,a0,r2,((([]:List Int)++(((((a0.getD r1.toNat (dft A0)).2).2).2).1))++((((((a0.getD r1.toNat (dft A0)).2).2).2).2).1)),(0:Int)) else none) else none) else none)) ((bif (decide (0≤r1)&&decide (r1<a0.length)) then N4 ((bif (decide ((([]:List Int).length+(((((a0.getD r1.toNat (dft A0)).2).2).2).1).length)*8≤140737488355328)) then(bif (decide (((([]:List Int)++(((((a0.getD r1.toNat (dft A0)).2).2).2).1)).length+((((((a0.getD r1.toNat (dft A0)).2).2).2).2).1).length)*8≤140737488355328)) then D4 (A04 N (fun x11=>some (x11,false)) (fun ρ12=>some (ρ12))) N (a1,r3,a0,r2,((([]:List Int)++(((((a0.getD r1.toNat (dft A0)).2).2).2).1))++((((((a0.getD r1.toNat (dft A0)).2).2).2).2).1)),(0:Int)) else none) else none)) ((bif (decide ((([]:List Int).length+(((((a0.getD r1.toNat (dft A0)).2).2).2).1).length)*8≤140737488355328)) then(bif (decide (((([]:List Int)++(((((a0.getD r1.toNat (dft A0)).2).2).2).1)).length+((((((a0.getD r1.toNat (dft A0)).2).2).2).2).1).length)*8≤140737488355328)) then D4 (A04 N (fun x13=>some (x13,false)) (fun ρ14=>some (ρ14))) N (a1,r3,a0,r2,((([]:List Int)++(((((a0.getD r1.toNat (dft A0)).2).2).2).1))++((((((a0.getD r1.toNat (dft A0)).2).2).2).2).1)),(0:Int)) else none) else none)) else none))) ((bif (decide (0≤r1)&&decide (r1<a0.length)) then N4 (N4 ((bif (decide ((([]:List Int).length+(((((a0.getD r1.toNat (dft A0)).2).2).2).1).length)*8≤140737488355328)) then(bif (decide (((([]:List Int)++(((((a0.getD r1.toNat (dft A0)).2).2).2).1)).length+((((((a0.getD r1.toNat (dft A0)).2).2).2).2).1).length)*8≤140737488355328)) then D4 (A04 N (fun x15=>some (x15,false)) (fun ρ16=>some (ρ16))) N (a1,r3,a0,r2,((([]:List Int)++(((((a0.getD r1.toNat (dft A0)).2).2).2).1))++((((((a0.getD r1.toNat (dft A0)).2).2).2).2).1)),(0:Int)) else none) else none)) ((bif (decide ((([]:List Int).length+(((((a0.getD r1.toNat (dft A0)).2).2).2).1).length)*8≤140737488355328)) then(bif (decide (((([]:List Int)++(((((a0.getD r1.toNat (dft A0)).2).2).2).1)).length+((((((a0.getD r1.toNat (dft A0)).2).2).2).2).1).length)*8≤140737488355328)) then D4 (A04 N (fun x17=>some (x17,false)) (fun ρ18=>some (ρ18))) N (a1,r3,a0,r2,((([]:List Int)++(((((a0.getD r1.toNat (dft A0)).2).2).2).1))++((((((a0.getD r1.toNat (dft A0)).2).2).2).2).1)),(0:Int)) else none) else none))) ((bif (decide ((([]:List Int).length+(((((a0.getD r1.toNat (dft A0)).2).2).2).1).length)*8≤140737488355328)) then(bif (decide (((([]:List Int)++(((((a0.getD r1.toNat (dft A0)).2).2).2).1)).length+((((((a0.getD r1.toNat (dft A0)).2).2).2).2).1).length)*8≤140737488355328)) then D4 (A04 N (fun x19=>some (x19,false)) (fun ρ20=>some (ρ20))) N (a1,r3,a0,r2,((([]:List Int)++(((((a0.getD r1.toNat (dft A0)).2).2).2).1))++((((((a0.getD r1.toNat (dft A0)).2).2).2).2).1)),(0:Int)) else none) else none)) else none)) else none)))))
abbrev C10(N:Nat):CT:=⟨72,(.pr (.d C4) (.pr (.d I) (.d I))),(.pr (.t I) (.t .bl)),fun a=>B46 N a.1 a.2.1 a.2.2⟩
theorem C85(N:Nat):J9 Tryz.prog (C10 N) :=
 A1i C9v (Γ:=[.c (A0w N),.c (A9Q N),.c (B2f N),.c (B7l N),.c (A9p N)]) (Θ:=[(38,I)]) (Λ:=([⟨0,0,Sa4,(.d 10 I),fun {Ω} kx kr=>D4 (A04 N kx kr) N⟩]:List (LC (G8 (.pr (.t I) (.t .bl)))))) G2 ⟨A1R N,⟨B4R N,⟨B9H N,⟨C5R N,⟨B5y N,trivial⟩⟩⟩⟩⟩ (by kernel_rfl)
  ⟨H8.mk N (fun Ω kx kr=>A04 N kx kr) (fun Ω g kx kr s=>by kernel_rfl),trivial⟩ (by kernel_rfl) (fun a=>by kernel_rfl)
def A38(N:Nat){Ω:Type}(kx:D3 (.bx 6 A08)→Option Ω)(kr:((Den A08)×Bool)→Option Ω)(rec_:D3 Sa6→Option Ω):D3 Sa6→Option Ω:=fun (s2,s3,s6,s8,s9) =>
 (bif (decide (s9≤(65:Int))) then(B46 N s3 s8 s2).bind fun r1=>(bif (decide (r1.1<(0:Int))) then kx s6 else(bif (!decide (r1.1=s8)) then(bif r1.2 then(bif (decide ((65:Int)<(wrap64 (s9+(1:Int))))) then kx s6 else kr ((r1.1,(wrap64 (s9+(1:Int)))),true)) else rec_ (s2,s3,s6,r1.1,(wrap64 (s9+(1:Int))))) else(bif r1.2 then(bif (decide ((65:Int)<s9)) then kx s6 else kr ((r1.1,s9),true)) else rec_ (s2,s3,s6,r1.1,s9)))) else kx s6)
def A4z(N:Nat)(a0:(Den C4))(a1:Int)(a2:Int):Option ((Den A08)×Bool) :=
 D4 (A38 N (fun x2=>some (((-1:Int),(0:Int)),false)) (fun ρ3=>some (ρ3))) N (a2,a0,((0:Int),(0:Int)),a1,(0:Int))
abbrev A7a(N:Nat):CT:=⟨42,(.pr (.d C4) (.pr (.d I) (.d I))),(.pr (.t A08) (.t .bl)),fun a=>A4z N a.1 a.2.1 a.2.2⟩
theorem B2d(N:Nat):J9 Tryz.prog (A7a N) :=
 J7 (Γ:=[.c (C10 N)]) (Θ:=[]) (Λ:=([⟨0,0,Sa6,(.bx 6 A08),fun {Ω} kx kr=>D4 (A38 N kx kr) N⟩]:List (LC (G8 (.pr (.t A08) (.t .bl)))))) (by kernel_rfl) G2 ⟨C85 N,trivial⟩ (by kernel_rfl)
  ⟨H8.mk N (fun Ω kx kr=>A38 N kx kr) (fun Ω g kx kr s=>by kernel_rfl),trivial⟩ (by kernel_rfl) (fun a=>by kernel_rfl)
def A6f(N:Nat){Ω:Type}(kx:D3 (.o 5 I)→Option Ω)(kr:(List Int)→Option Ω)(rec_:D3 B3B→Option Ω):D3 B3B→Option Ω:=fun (s0,s1,s5,s6) =>
 (bif (decide (s6<(s0.length:Int))) then(bif (decide (0≤s6)&&decide (s6<s0.length)) then(bif (!decide ((s0.getD s6.toNat (0:Int))=s1)) then(bif (decide (0≤s6)&&decide (s6<s0.length)) then(bif (decide ((s5.length+[(s0.getD s6.toNat (0:Int))].length)*8≤140737488355328)) then rec_ (s0,s1,(s5++[(s0.getD s6.toNat (0:Int))]),(wrap64 (s6+(1:Int)))) else none) else none) else rec_ (s0,s1,s5,(wrap64 (s6+(1:Int))))) else none) else kx s5)
def B2G(N:Nat)(a0:(List Int))(a1:Int):Option (List Int) :=
 D4 (A6f N (fun x1=>some x1) (fun ρ2=>some (ρ2))) N (a0,a1,[],(0:Int))
abbrev B8w(N:Nat):CT:=⟨114,(.pr (.d (.sl I)) (.d I)),(.t (.sl I)),fun a=>B2G N a.1 a.2⟩
theorem C72(N:Nat):J9 Tryz.prog (B8w N) :=
 J7 (Γ:=[]) (Θ:=[(7,I),(25,I)]) (Λ:=([⟨0,0,B3B,(.o 5 I),fun {Ω} kx kr=>D4 (A6f N kx kr) N⟩]:List (LC (G8 (.t (.sl I)))))) (by kernel_rfl) G2 trivial (by kernel_rfl)
  ⟨H8.mk N (fun Ω kx kr=>A6f N kx kr) (fun Ω g kx kr s=>by kernel_rfl),trivial⟩ (by kernel_rfl) (fun a=>by kernel_rfl)
def A1X(N:Nat)(a0:(Den C4))(a1:Int)(a2:Int):Option (List Int) :=
 dup ((V3 N a0 a1).bind fun r1=>(bif (decide (0≤r1)&&decide (r1<a0.length)) then(bif (decide (([a1].length+(((((a0.getD r1.toNat (dft A0)).2).2).2).1).length)*8≤140737488355328)) then(B2G N ([a1]++(((((a0.getD r1.toNat (dft A0)).2).2).2).1)) a2).bind fun r2=>(A4I N r2).bind fun r3=>some r3 else none) else none))
abbrev B3z(N:Nat):CT:=⟨111,(.pr (.d C4) (.pr (.d I) (.d I))),(.t (.sl I)),fun a=>A1X N a.1 a.2.1 a.2.2⟩
theorem C13(N:Nat):J9 Tryz.prog (B3z N) :=
 J7 (Γ:=[.c (A0w N),.c (B8w N),.c (B3m N)]) (Θ:=[(8,I)]) (Λ:=([]:List (LC (G8 (.t (.sl I)))))) (by kernel_rfl) G2 ⟨A1R N,⟨C72 N,⟨C2d N,trivial⟩⟩⟩ (by kernel_rfl)
  trivial (by kernel_rfl) (fun a=>by kernel_rfl)
end
end Go.Proofs.YtkmhopbmpeiofaaGreat.C
