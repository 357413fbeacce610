/- The effects of the evaluator: sound, with no condition beyond those each lemma names. -/
import Derived.Test.YtkmhopbmpeiofaaGreatNxj
set_option linter.unusedVariables false
set_option linter.unusedSimpArgs false
namespace Go.Proofs.YtkmhopbmpeiofaaGreat.Nx
open Go Go.RowKit
section
variable {Ω:Type} {r:Ω} {n:Nat} {Θ:TyO} {t:TS} {d:Option Nat} {k:TS→Option Ω}
def Kt(k:TS→Option Ω)(r:Ω)(n:Nat)(s:AS):Prop:=∃ t',k t'=some r∧Get s (D2 n t')
theorem Kt.of{s:AS}{t':TS}(h:k t'=some r)(hs:L7 s (D2 n t')):Kt k r n s:=⟨t',h,hs.get⟩
theorem A2v{kb:Blk}{b:TB}{x:AV}{y:TV}(hk:R0 kb (tb (t.new [b]).hp b))(hx:Im x (av (t.new [b]).hp y))(h:k ((t.new [b]).put d y)=some r) :
  Kt k r n ((D2 n t).new d kb x):=by
 refine Kt.of h ?_;rw[T9];exact(L7.new b hk).put d hx
theorem A2C(b:TB):(t.new [b]).hp[t.hp.length]? = some (some b):=by
 unfold TS.new;show((Z8 _ t.hp)++[some b])[t.hp.length]? = _;rw[B6 (by rw[P8];exact B9 _),P8,R7];rfl
theorem t9{hp:THP}{j:Nat}{l:Nat}(h:hpk hp j=some (some l)):av hp (.own j)=.ref j l 0 l:=by simp only[av,h]
theorem B9b(b:TB):∀ j,Nat.blt j t.hp.length=true→hpk (t.new [b]).hp j=hpk t.hp j:=fun j hj=>by
 rw[Q5] at hj;rw[← A4h (fun i=>Nat.blt i t.hp.length) t.hp j];unfold hpk TS.new;rw[B7 (by rw[P8];exact hj)]
theorem B6L{hp:THP}{c:AV}(h:A5c c=true):Im c (cav hp (A6P c)):=by
 cases c<;>first|cases h|skip
 rename_i v;unfold cav;cases hc:TV.c1 hp (A6P (.val v)) with
 |false=>exact .any _
 |true =>
  simp only[A4];show Im _ (av hp (leaf v));rw[B0z];exact .refl _
theorem A9O{hp:THP}:∀ {z:List AV},z.all A5c=true→O6 Im z ((z.map A6P).map (cav hp))
 |[],_=>.nil
 |c :: z,h=>by
  simp only[d3,A6] at h;exact .cons (B6L h.1) (A9O h.2)
theorem B4n{z:List AV}(h:z.all A5c=true):∀ c∈z,c.bare1=true:=fun c hc=>by
 have:=D6.1 h c hc;cases c<;>first|rfl|cases this
theorem C4N{m:Nat}{K:IntKind}{z:List AV}(h:zAr m K z=true):z.length=m∧z=arC m K (List.replicate m 0):=by
 unfold zAr at h;simp only[A6,F4] at h;obtain⟨rfl,h⟩:=h;refine⟨rfl,A1B (by simp[arC]) fun i h1 h2 => ?_⟩;have h3:=D6.1 h z[i] (C2 h1);have e:z[i]=.val (.int K 0):=by
  generalize z[i]=c at h3;cases c with
  |val v =>
   cases v with
   |int k x =>
    simp only[A6,D7] at h3;rw[h3.1,h3.2]
   |_=>cases h3
  |_=>cases h3
 rw[e];simp[arC,B3,h1]
theorem C7N{z:List AV}(h:A01 n Θ t d k (.al z)=some r):ae (D2 n t) d (Kt k r n) (.al z):=by
 simp only[A01] at h;split at h
 ·rename_i m K e;cases hz:zAr m K z with
  |false=>rw[hz] at h;cases h
  |true =>
   rw[hz,A4] at h;obtain⟨h1,h2⟩:=C4N hz;refine A2v (b:=.ara m K (List.replicate m 0)) ?_ ?_ h
   ·rw[h1];show R0 _ ⟨m,0,[.agg (arC m K (List.replicate m 0))],0⟩;rw[← h2];exact .refl _
   ·simp only[av,hpk,A2C,TB.rlen,E6,F3];exact .refl _
 cases hz:z.all A5c with
 |false=>rw[hz] at h;cases h
 |true =>
  rw[hz,A4] at h;refine A2v (b:=.box (z.map A6P)) ?_ ?_ h
  ·refine R0.of (by simp[tb]) rfl rfl rfl ?_ ?_ ?_
   ·intro c hc;simp only[F0,R6,D5,AV.cells] at hc;exact B4n hz c hc
   ·intro _ y hy;simp only[tb,C1] at hy;subst hy;simp[AV.cells]
   ·simp only[tb,F0,R6,D5,AV.cells];exact A9O hz
  ·simp only[av,hpk,A2C,TB.rlen,E6,F3];exact .refl _
theorem A3M{hp:THP}{m:Nat}{x:TV}(h:x.fits hp m=true):(av hp x).cells=x.cs.map (cav hp):=by
 rw[← (i3 h).2];refine E4 fun c hc => ?_;unfold cav;rw[B3Z h c hc];rfl
theorem C35{b:TB}(cs:List TV):O6 Im (cs.map (cav t.hp)) ((A18 (fun i=>Nat.blt i t.hp.length) cs).map (cav (t.new [b]).hp)):=by
 rw[A02,H7];exact A5C (fun x=>A5o (B9b b) x) cs
theorem C8m{m:Nat}{x:Operand}(h:A01 n Θ t d k (.bx m x)=some r):ae (D2 n t) d (Kt k r n) (.bx m x):=by
 simp only[A01] at h;split at h
 ·rename_i m' K L e;cases hm:Nat.beq m m' with
  |false=>rw[hm] at h;cases h
  |true =>
   rw[hm,A4] at h;simp only[F4] at hm;subst hm;have hf:(t.ev n x).fits t.hp m=true:=by rw[e];simp[TV.fits]
   simp only[ae,J0];refine⟨(i3 hf).1,A2v (b:=.ara m K L) ?_ ?_ h⟩
   ·rw[e];show R0 ⟨m,0,[.agg (enc false (.ar m K) L).cells],0⟩ ⟨m,0,[.agg (arC m K L)],0⟩;rw[N6];exact .refl _
   ·simp only[av,hpk,A2C,TB.rlen,E6,F3];exact .refl _
 cases hf:(t.ev n x).fits t.hp m with
 |false=>rw[hf] at h;cases h
 |true =>
  rw[hf,A4] at h;simp only[ae,J0];refine⟨(i3 hf).1,A2v (b:=.box (A18 (fun i=>Nat.blt i t.hp.length) (t.ev n x).cs)) ?_ ?_ h⟩
  ·rw[A3M hf];refine R0.of ?_ rfl rfl rfl ?_ ?_ ?_
   ·simp only[tb,A02,C7];exact A11 hf
   ·intro c hc;simp only[F0,R6,D5,AV.cells,C5] at hc;obtain⟨y,_,rfl⟩:=hc;exact(A05 _ y).1
   ·intro _ y hy;simp only[tb,C1] at hy;subst hy;simp only[AV.cells,C7,A02];exact A11 hf
   ·simp only[tb,F0,R6,D5,AV.cells];exact C35 _
  ·simp only[av,hpk,A2C,TB.rlen,E6,F3];exact .refl _
theorem A9Y{b:TB}{l:Nat}(hb:b.rlen=some l):Im (.ref t.hp.length l 0 l) (av (t.new [b]).hp (.own t.hp.length)):=by
 rw[t9 (l:=l) (by unfold hpk;rw[A2C];simp[hb])];exact .refl _
theorem B35{sz:Nat}{T:Ty}(hs:T.sz=sz)(ho:T.flat=true):∀ {ps:List (Nat×Operand)} {L L':List (Den T)} {rows:List AV},B08 n t T ps L=some L'→O6 (RR true T) rows L →
  B3C (D2 n t) sz L.length ps∧O6 (RR true T) (A9j (D2 n t) ps rows) L'∧L'.length=L.length
 |[],L,L',rows,h,hr=>by cases h;exact⟨trivial,hr,rfl⟩
 |(i,x) :: ps,L,L',rows,h,hr=>by
  simp only[B08] at h;split at h
  ·rename_i y hy;cases hc:(Nat.blt i L.length&&(t.ev n x).fits t.hp T.sz) with
   |false=>rw[hc] at h;cases h
   |true =>
    rw[hc,A4] at h;simp only[A6,Q5] at hc;obtain⟨k1,k2,k3⟩:=B35 hs ho h (hr.set (x:=(D2 n t).ev x) (y:=y) (by
     show RI true T ((D2 n t).ev x).cells y;rw[J0];exact(A7t t.hp hy).1.o (by simpa using ho)) i)
    rw[G1] at k1 k3;refine⟨⟨hc.1,?_,k1⟩,k2,k3⟩;rw[J0,← hs];exact(i3 hc.2).1
  ·cases h
theorem C3S{T:Ty}{hp:THP}{cs:List TV}{x:AV}(h:x.cells=cs.map (cav hp))(hl:T.ag=false→cs.length=1):(mkr T.ag (cs.map (cav hp))).cells=x.cells:=by
 rw[A0b,h];split
 ·rfl
 ·rename_i hag;have:=hl (by simpa using hag);match cs,this with
  |[c],_=>rfl
def RW(T:Ty)(hp:THP)(x:AV)(cs:List TV):Prop:=O6 Im x.cells (mkr T.ag (cs.map (cav hp))).cells∧(∀ c∈x.cells,c.bare1=true)∧(mkr T.ag (cs.map (cav hp))).cells.length=T.sz
theorem A5Z{T:Ty}(h:T.ag=false):T.sz=1:=by cases T<;>first|rfl|cases h
theorem B4t{sz:Nat}{T:Ty}(hs:T.sz=sz):∀ {ps:List (Nat×Operand)} {R R':List (List TV)} {rows:List AV},B4Q n t sz ps R=some R'→O6 (RW T t.hp) rows R →
  B3C (D2 n t) sz R.length ps∧O6 (RW T t.hp) (A9j (D2 n t) ps rows) R'∧R'.length=R.length
 |[],R,R',rows,h,hr=>by cases h;exact⟨trivial,hr,rfl⟩
 |(i,x) :: ps,R,R',rows,h,hr=>by
  simp only[B4Q] at h;cases hc:(Nat.blt i R.length&&(t.ev n x).fits t.hp sz) with
  |false=>rw[hc] at h;cases h
  |true =>
   rw[hc,A4] at h;simp only[A6,Q5] at hc;have hcs:=A3M hc.2;have hm:=C3S (T:=T) hcs fun hag=>by rw[A11 hc.2,← hs];exact A5Z hag
   obtain⟨k1,k2,k3⟩:=B4t hs h (hr.set (x:=(D2 n t).ev x) (y:=(t.ev n x).cs) (by
    show RW T t.hp ((D2 n t).ev x) _;rw[J0];refine⟨by rw[hm];exact O6.imrefl _,fun c hc' => ?_,by rw[hm,hcs,C7,A11 hc.2,hs]⟩;rw[hcs] at hc';obtain⟨y,_,rfl⟩:=C5.1 hc';exact(A05 _ y).1) i)
   rw[G1] at k1 k3;refine⟨⟨hc.1,?_,k1⟩,k2,k3⟩;rw[J0];exact(i3 hc.2).1
theorem R0.trans{a b c:Blk}(h:R0 a b)(k:R0 b c):R0 a c:=by
 obtain⟨a1,a2,a3,a4,a5,a6⟩:=h;obtain⟨b1,b2,b3,b4,b5,b6⟩:=k;refine⟨b1.trans a1,b2.trans a2,b3.trans a3,b4.trans a4,fun q => ?_,fun w N M p o K r=>b6 _ _ _ _ _ _ (a6 _ _ _ _ _ _ r)⟩;have:=b5 (by rw[a1];exact a5 q);rw[a1] at this;exact this
theorem D0g{T:Ty}{hp:THP}{rows:List AV}{R:List (List TV)}(h:O6 (RW T hp) rows R):R0 ⟨T.sz,0,rows,0⟩ ⟨T.sz,0,R.map fun cs=>mkr T.ag (cs.map (cav hp)),0⟩:=by
 refine R0.of rfl rfl rfl (by rw[C7];exact h.len) ?_ ?_ ?_
 ·intro c hc;obtain⟨r,hr,hc⟩:=J6.1 hc;obtain⟨y,hy⟩:=h.mem_left hr;exact hy.2.1 c hc
 ·intro _ y hy;obtain⟨cs,hcs,rfl⟩:=C5.1 hy;obtain⟨x,hx⟩:=h.mem_right hcs;exact hx.2.2
 ·show O6 Im (rows.flatMap AV.cells) ((R.map _).flatMap AV.cells);induction h with
  |nil=>exact .nil
  |cons h1 _ ih =>
   simp only[F0,F6];exact O6.append h1.1 ih
theorem B9N{sz:Nat}{T:Ty}(hs:T.sz=sz){ps:List (Nat×Operand)}{L L':List (Den T)}{rows:List AV}(ho:T.flat=true∨L=[])(h:B08 n t T ps L=some L')(hr:O6 (RR true T) rows L) :
  B3C (D2 n t) sz L.length ps∧O6 (RR true T) (A9j (D2 n t) ps rows) L'∧L'.length=L.length:=by
 rcases ho with ho|rfl
 ·exact B35 hs ho h hr
 ·cases ps with
  |nil=>simp only[B08,C3] at h;subst h;exact⟨trivial,hr,rfl⟩
  |cons q ps =>
   obtain⟨i,x⟩:=q;simp only[B08] at h;split at h
   ·have:Nat.blt i ([]:List (Den T)).length=false:=rfl;rw[this] at h;cases h
   ·cases h
theorem C54{sz m:Nat}{ag:Bool}{z:List AV}{ps:List (Nat×Operand)}(h:A01 n Θ t d k (.bsl sz m ag z ps)=some r):ae (D2 n t) d (Kt k r n) (.bsl sz m ag z ps):=by
 simp only[A01] at h;split at h
 ·rename_i T hT;cases hc:(Nat.beq T.sz sz&&(T.ag==ag)) with
  |false=>rw[hc] at h;cases h
  |true =>
   rw[hc,A4] at h;simp only[A6,F4,j7] at hc;obtain⟨hs,rfl⟩:=hc;cases hf:(T.flat&&(zOk T z||Nat.beq m 0)||Nat.beq m 0) with
   |true =>
    rw[hf,A4] at h;simp only[A6,b7,F4] at hf;split at h
    ·rename_i L hL;have h0:O6 (RR true T) (List.replicate m (A1g T.ag z)) (List.replicate m (dft T)):=by
      rcases hf with⟨_,hz|rfl⟩|rfl
      ·exact O6.replicate (R:=RR true T) (B6j hz).1 m
      ·exact .nil
      ·exact .nil
     obtain⟨k1,k2,k3⟩:=B9N hs (hf.imp (fun h=>h.1) (fun h=>by rw[h];rfl)) hL h0;rw[b9] at k1 k3;refine⟨k1,?_⟩;have hlen:L.length=m:=k3;rw[← hs,E6,F3];have:=A9Y (t:=t) (b:=.arr T true L) (l:=m) (by simp[TB.rlen,hlen]);exact A2v (b:=.arr T true L) (A9e k2) this h
    ·cases h
   |false =>
    rw[hf,A9] at h;cases hv:z.all A5c with
    |false=>rw[hv] at h;cases h
    |true =>
     rw[hv,A4] at h;cases hzl:Nat.beq z.length T.sz with
     |false=>rw[hzl] at h;cases h
     |true =>
     rw[hzl,A4] at h;simp only[F4] at hzl;split at h
     ·rename_i R hR;have hz0:(A1g T.ag z).cells=z∨(T.ag=false∧∃ c,z=[c]∧(A1g T.ag z).cells=[c]):=by
       unfold A1g;cases hag:T.ag with
       |true=>exact .inl rfl
       |false =>
        have h1:z.length=1:=by rw[hzl];exact A5Z hag
        match z,h1,hv with
        |[c],_,hv =>
         simp only[d3,List.all_nil,U6] at hv;cases c<;>first|exact .inr ⟨rfl,_,rfl,rfl⟩|cases hv
      have hzc:(A1g T.ag z).cells=z:=by
       rcases hz0 with h|⟨_,c,rfl,h⟩
       ·exact h
       ·exact h
      have h0:O6 (RW T t.hp) (List.replicate m (A1g T.ag z)) (List.replicate m (z.map A6P)):=by
       refine O6.replicate ?_ m;unfold RW;rw[hzc,A0b];refine⟨?_,B4n hv,?_⟩
       ·split
        ·exact A9O hv
        ·rename_i hag;have h1:z.length=1:=by rw[hzl];exact A5Z (by simpa using hag)
         match z,h1,hv with
         |[c],_,hv=>exact .cons (B6L (by simpa using hv)) .nil
       ·split
        ·simp[hzl]
        ·rename_i hag;rw[A5Z (by simpa using hag)];rfl
      obtain⟨k1,k2,k3⟩:=B4t hs hR h0;rw[b9] at k1 k3;refine⟨k1,?_⟩;rw[← hs,E6,F3];have:=A9Y (t:=t) (b:=.rws T (R.map (A18 fun i=>Nat.blt i t.hp.length))) (l:=m) (by simp[TB.rlen,k3]);refine A2v (b:=.rws T (R.map (A18 fun i=>Nat.blt i t.hp.length))) ?_ this h;exact(D0g k2).trans (A2R (B9b _) (.rws T R))
     ·cases h
 ·cases h
end
open Go Go.RowKit
section
variable {Ω:Type} {r:Ω} {n:Nat} {Θ:TyO} {t:TS} {d:Option Nat} {k:TS→Option Ω}
theorem C7G{sz by_:Nat}{ag:Bool}{z:List AV}{l c:Operand}(h:A01 n Θ t d k (.mk sz by_ ag z l c)=some r):ae (D2 n t) d (Kt k r n) (.mk sz by_ ag z l c):=by
 simp only[A01] at h;split at h
 ·rename_i T k1 m k2 m' hT hl hc;cases hb:(Nat.beq T.sz sz&&((T.ag==ag)&&zOk T z)) with
  |false=>rw[hb] at h;cases h
  |true =>
   rw[hb,A4] at h;simp only[A6,F4,j7] at hb;obtain⟨hs,rfl,hz⟩:=hb;obtain⟨h1,h2⟩:=m7 h;have h1:=h1.sm;simp only[A6,D7] at h1;obtain⟨e1,e2,e3,e4⟩:=h1;subst e1;simp only[ae,J0,hl,hc];show m=m∧0≤m∧m*(by_:Int)≤140737488355328∧m≤9223372036854775807∧_;refine⟨rfl,e2,e3,e4,?_⟩;rw[← hs,E6,F3]
   exact A2v (b:=.arr T true (List.replicate m.toNat (dft T))) (A9e (O6.replicate (R:=RR true T) (B6j hz).1 _)) (A9Y (by rw[TB.rlen,b9])) h2
 ·cases h
theorem C55{x:Operand}(h:A01 n Θ t d k (.csb x)=some r):ae (D2 n t) d (Kt k r n) (.csb x):=by
 simp only[A01] at h;split at h
 ·rename_i s hs;simp only[ae,J0,hs];show Kt k r n _;have hsz:s.size=(A7N s).length:=by unfold A7N;rw[C7];rfl
  rw[B2z,E6,F3];refine A2v (b:=.arr (.i .u8) true (A7N s)) ?_ (A9Y (by rw[TB.rlen,hsz])) h;exact R0.refl _
 ·cases h
theorem C1e{x y:Operand}{j off:Nat}{len:Option Nat}{K:IntKind}{o:Bool}{L:List Int}(e:t.hp[j]? = some (some (.arr (.i K) o L)))(ha:av t.hp (t.ev n x)=.ref j L.length off (len.getD L.length))
  (hle:len=none→off=0) (h:B3y t d k j off len (t.ev n y)=some r):ae (D2 n t) d (Kt k r n) (.cpy x y):=by
 have hj:j<t.hp.length:=(B4.1 e).1;unfold B3y at h;rw[e] at h;simp only at h;split at h
 ·rename_i L2 hs;obtain⟨h1,h2⟩:=m7 h;have hle':off+len.getD (List.length (α:=Int) L)≤List.length (α:=Int) L:=by
   cases len with
   |none=>rw[hle rfl];simp
   |some l =>
    have h1:=h1.sm;exact H6 h1
  simp only[ae,J0,ha,E6];rw[w9 e];have hs2:=B4C (n:=n) _ hs;refine⟨K,L,L2,rfl,rfl,P1 _,hs2,B7W _ hs,?_⟩;refine Kt.of h2 ?_;rw[T9];refine L7.put ?_ d (Im.refl _);have hl:List.length (α:=Int) (C4w L off (len.getD (List.length (α:=Int) L)) L2)=List.length (α:=Int) L:=by
   unfold C4w;simp only[A5,E7,I4];omega
  refine L7.setB hj (by rw[T8 e];show some (some (List.length (α:=Int) L))=some (some (List.length (α:=Int) _));rw[hl]) ?_;exact R0.refl _
 ·cases h
theorem C6G{x y:Operand}(h:A01 n Θ t d k (.cpy x y)=some r):ae (D2 n t) d (Kt k r n) (.cpy x y):=by
 simp only[A01] at h;have arr:∀ {j off:Nat} {len:Option Nat},B3y t d k j off len (t.ev n y)=some r→∃ K o L,t.hp[j]? = some (some (.arr (.i K) o L)):=fun {j off len} h=>by
  unfold B3y at h;split at h
  ·rename_i K o L e;exact⟨K,o,L,e⟩
  ·cases h
 split at h
 ·rename_i j hx;obtain⟨K,o,L,e⟩:=arr h;exact C1e e (by rw[hx];simp only[av,T8 e];rfl) (fun _=>rfl) h
 ·rename_i j off len hx;obtain⟨K,o,L,e⟩:=arr h;exact C1e e (by rw[hx];simp only[av,T8 e];rfl) (fun e=>by cases e) h
 ·cases h
theorem C53{neg:Bool}{x:Operand}(h:A01 n Θ t d k (.isn neg x)=some r):ae (D2 n t) d (Kt k r n) (.isn neg x):=by
 simp only[A01] at h;split at h
 ·rename_i T L hL;simp only[ae,J0,hL];have one:∀ b:Bool,k (t.put d (.v .bl (neg != b)))=some r→Kt k r n ((D2 n t).put d (.val (.bool (neg != b)))):=fun b h=>by
   refine Kt.of h ?_;rw[T9];exact L7.refl _
  have e0:(neg != false)=neg:=by cases neg<;>rfl
  have e1:(neg != true) = !neg:=by cases neg<;>rfl
  refine⟨trivial,fun b hb => ?_⟩;by_cases h0:L.length=0
  ·rw[O5 h0,A4] at h;obtain⟨h1,h2⟩:=B20 h;cases b with
   |false=>exact one false (by rw[e0];exact h2)
   |true=>exact one true (by rw[e1];exact h1)
  ·rw[T4 h0,A9] at h;have hb0:b=false:=by
    cases b with
    |false=>rfl
    |true =>
     have:=hb rfl;have e:B3t (av t.hp (.v (.sl T) L))=.val (.int .i64 (L.length:Nat)):=by
      show AV.val (.int .i64 ((L.map fun y=>mkr T.ag (cls false T y)).length:Nat))=_;rw[C7]
     rw[e] at this;simp only[AV.val.injEq,Value.int.injEq,A8H] at this;exact absurd (by exact_mod_cast this) h0
   subst hb0;exact one false (by rw[e0];exact h)
 ·cases h
theorem C2E{o:Bool}{T:Ty}(x:Den T)(cs:List AV)(hl:cs.length=T.sz)(hc:∀ c∈cs,c.cells=[c]):(A20 (enc o T x) cs).cells=cs:=by
 cases T with
 |st t=>rfl
 |pr a b=>rfl
 |ar n k=>rfl
 |_ =>
  have h1:cs.length=1:=hl;match cs,h1 with
  |[c],_=>exact hc c (by simp)
theorem C5x(o:Bool)(T:Ty)(x:Den T):∀ c∈cls o T x,c.cells=[c]:=fun c hc=>(A1p o T x c hc).2
theorem C6R{o:Bool}{T:Ty}{L:List (Den T)}{row off m:Nat}{y:TV}(hr:row<L.length)(hle:off+m≤T.sz)(hf:y.fits t.hp m=true) :
  ((A20 ((L.map (enc o T)).getD row .any) (((L.map (enc o T)).getD row .any).cells.take off++((av t.hp y).cells++((L.map (enc o T)).getD row .any).cells.drop (off+m)))).cells
   = (cls o T (L.getD row (dft T))).take off++((av t.hp y).cells++(cls o T (L.getD row (dft T))).drop (off+m))) ∧
  ((cls o T (L.getD row (dft T))).take off++((av t.hp y).cells++(cls o T (L.getD row (dft T))).drop (off+m))).length=T.sz:=by
 have hlen:((cls o T (L.getD row (dft T))).take off++((av t.hp y).cells++(cls o T (L.getD row (dft T))).drop (off+m))).length=T.sz:=by
  have h1:=A11 hf;have h2:=congrArg List.length (i3 hf).2;rw[C7] at h2;simp only[A5,E7,I4,O0];omega
 rw[A4j (d:=dft T) hr,N6];refine⟨C2E _ _ hlen fun c hc => ?_,hlen⟩;rcases C9.1 hc with h|h
 ·exact C5x o T _ c (Q0 h)
 ·rcases C9.1 h with h|h
  ·rw[A3M hf] at h;obtain⟨z,_,rfl⟩:=C5.1 h;exact(A05 _ z).2
  ·exact C5x o T _ c (R3 h)
theorem A3s{α:Type}{l:List α}{i:Nat}{x d:α}(h:i<l.length):l.set i x=l.take i++x :: l.drop (i+1)∧l=l.take i++l.getD i d :: l.drop (i+1):=by
 constructor
 ·rw[Q2,E9 h]
 ·rw[B3,D1 h];simp
theorem j5:∀ {l:List Nat},d5 l=true→l.Nodup
 |[],_=>A4v
 |x :: l,h=>by
  simp only[d5,A6,M6] at h;refine H9.2 ⟨fun hx => ?_,j5 h.2⟩;have:l.any (Nat.beq x)=true:=w8.2 ⟨x,hx,by simp⟩;rw[h.1] at this;cases this
theorem Get.absorb{s:AS}{j:Nat}{b:Blk}(hj:s.hp[j]? = some (some b)){rows':List AV}{l:List Nat}(hn:(j :: l).Nodup)(hlen:rows'.length=b.rows.length)
  (hcl:(∀ y∈b.rows,y.cells.length=b.sz)→∀ y∈rows',y.cells.length=b.sz) (hab:Ab s.hp (b.rows.flatMap AV.cells) (rows'.flatMap AV.cells) l) :
  Get s { s with hp:=K8 (s.hp.set j (some { b with rows:=rows' })) l }:=fun _ _ _ hc=>by
 obtain⟨N,M,ℓ,hc⟩:=hc.fn;exact hc.absorb hj hn hlen hcl hab
theorem Get.absorbP{s:AS}{d:Option Nat}{x:AV}{j:Nat}{b:Blk}(hj:j<s.hp.length){rows':List AV}{l:List Nat}(hn:(j :: l).Nodup)(hlen:rows'.length=b.rows.length)
  (hcl:(∀ y∈b.rows,y.cells.length=b.sz)→∀ y∈rows',y.cells.length=b.sz) (hab:Ab (s.hp.set j (some b)) (b.rows.flatMap AV.cells) (rows'.flatMap AV.cells) l) :
  Get (AS.put { s with hp:=s.hp.set j (some b) } d x) (AS.put { s with hp:=K8 (s.hp.set j (some { b with rows:=rows' })) l } d x):=by
 have h0:(s.hp.set j (some b))[j]? = some (some b):=by rw[G5,E9 rfl,E9 hj]
 have e:(s.hp.set j (some b)).set j (some { b with rows:=rows' })=s.hp.set j (some { b with rows:=rows' }):=Z0 ..;cases d with
 |none =>
  have:=Get.absorb (s:={ s with hp:=s.hp.set j (some b) }) h0 hn hlen hcl hab;rw[show({ s with hp:=s.hp.set j (some b) }:AS).hp=s.hp.set j (some b) from rfl,e] at this;exact this
 |some d =>
  have:=Get.absorb (s:={ sl:=s.sl.set d x,hp:=s.hp.set j (some b) }) h0 hn hlen hcl hab;rw[show({ sl:=s.sl.set d x,hp:=s.hp.set j (some b) }:AS).hp=s.hp.set j (some b) from rfl,e] at this;exact this
theorem Ab.mono{hp hp':HP}{xs ys:List AV}{l:List Nat}(h:Ab hp xs ys l):(∀ i∈l,hp'[i]? = hp[i]?)→Ab hp' xs ys l:=by
 induction h with
 |nil=>intro _;exact .nil
 |im h1 h2 _ ih=>intro hh;exact .im h1 h2 (ih hh)
 |same _ ih=>intro hh;exact .same (ih hh)
 |ref h1 h2 _ ih=>intro hh;exact .ref (by rw[hh _ (by simp)];exact h1) h2 (ih fun i hi=>hh i (by simp[hi]))
theorem A6z{j:Nat}{b:TB}(hj:j<t.hp.length)(hr:hpk t.hp j=some b.rlen):D2 n { t with hp:=t.hp.set j (some b) }={ D2 n t with hp:=(F1 t.hp).set j (some (tb t.hp b)) }:=by
 have hh:∀ i,hpk (t.hp.set j (some b)) i=hpk t.hp i:=fun i=>by
  by_cases hi:j=i
  ·subst hi;rw[hr];unfold hpk;rw[G5,E9 rfl,E9 hj]
  ·unfold hpk;rw[G5,G6 hi]
 unfold D2 E;simp only[AS.mk.injEq];constructor
 ·congr 1;refine E4 fun p _ => ?_;show(p.1,av (t.hp.set j (some b)) p.2)=_;rw[A73 hh]
 ·unfold F1;rw[A2o];congr 1
  ·refine E4 fun c _ => ?_;cases c with
   |none=>rfl
   |some c=>show some (tb _ c)=some (tb _ c);rw[A8s hh]
  ·show some (tb _ b)=_;rw[A8s hh]
theorem B4O{α:Type}{A:List α}{off:Nat}(x z:α)(h:off<A.length):(A.set off x).take off++([z]++(A.set off x).drop (off+1))=A.set off z:=by
 rw[List.take_set_of_le (B9 _),List.drop_set_of_lt (by omega),Q2,E9 h];rfl
theorem C59{m off:Nat}{K:IntKind}{L:List Int}{v:Int}(h:off<m):(arC m K L).take off++([AV.val (.int K v)]++(arC m K L).drop (off+1))=arC m K ((C0a m L).set off v):=by
 have e1:(arC m K L).take off++([AV.val (.int K v)]++(arC m K L).drop (off+1))=(arC m K L).set off (.val (.int K v)):=by
  rw[Q2,E9 (by rw[A2D];exact h)];rfl
 rw[e1];refine A1B (by simp[arC]) fun i h1 h2 => ?_;have hi:i<m:=by simpa[arC] using h2
 rw[A3j];by_cases hc:off=i
 ·subst hc;simp[arC,C0a,B3,hi]
 ·rw[G6 hc];simp[arC,C0a,B3,hi,hc]
theorem C79{m:Nat}{x y:Operand}(hrow:∀ j row off,t.ev n x=.ptr j row off→∀ (T:Ty) (o:Bool) (L:List (Den T)),t.hp[j]? = some (some (.arr T o L))→row<L.length)
  (hrowh:∀ j row off,t.ev n x=.ptr j row off→∀ (T:Ty) (L:List (Den T)) (r o:Nat) (c:TV),t.hp[j]? = some (some (.hol T L r o c))→row<L.length)
  (h:A01 n Θ t d k (.st m x y)=some r):ae (D2 n t) d (Kt k r n) (.st m x y):=by
 simp only[A01] at h;split at h
 ·rename_i j row off hx;split at h
  ·rename_i cs e;have hj:j<t.hp.length:=(B4.1 e).1;cases hb:(Nat.beq row 0&&(Nat.ble (off+m) cs.length&&(t.ev n y).fits t.hp m)) with
   |false=>rw[hb] at h;cases h
   |true =>
    rw[hb,A4] at h;simp only[A6,F4] at hb;obtain⟨rfl,hle,hf⟩:=hb;have hle:=H6 hle;have ha:av t.hp (.ptr j 0 off)=.ptr j 1 0 off:=by simp only[av,A2B e]
    simp only[ae,J0,hx,ha,E6];rw[B7o e];show 0≤0∧_;refine⟨B9 _,(i3 hf).1,?_,?_⟩
    ·show off+m≤(cs.map (cav t.hp)).length;rw[C7];exact hle
    ·refine Kt.of h ?_;rw[T9];refine L7.put ?_ d (Im.any _);refine L7.setB hj (by simp[A2B e,TB.rlen]) ?_;have:R0 ⟨cs.length,0,[AV.agg ((cs.map (cav t.hp)).take off++((av t.hp (t.ev n y)).cells++(cs.map (cav t.hp)).drop (off+m)))],0⟩ (tb t.hp (.box (cs.take off++((t.ev n y).cs++cs.drop (off+m))))):=by
      have hl:(cs.take off++((t.ev n y).cs++cs.drop (off+m))).length=cs.length:=by
       have:=A11 hf;simp only[A5,E7,I4];omega
      have e2:tb t.hp (.box (cs.take off++((t.ev n y).cs++cs.drop (off+m))))=⟨cs.length,0,[AV.agg ((cs.map (cav t.hp)).take off++((av t.hp (t.ev n y)).cells++(cs.map (cav t.hp)).drop (off+m)))],0⟩:=by
       simp only[tb,hl,A3M hf,G0,W0,W7]
      rw[e2];exact .refl _
     exact this
  ·rename_i m' K L e;have hj:j<t.hp.length:=(B4.1 e).1;cases hb0:Nat.beq row 0 with
   |false=>rw[hb0] at h;cases h
   |true =>
    rw[hb0,A4] at h;simp only[F4] at hb0;subst hb0;have ha:av t.hp (.ptr j 0 off)=.ptr j 1 0 off:=by simp only[av,A7g e]
    have fin:∀ L2:List Int,(t.ev n y).fits t.hp m=true→off+m≤m'→(arC m' K L).take off++((av t.hp (t.ev n y)).cells++(arC m' K L).drop (off+m))=arC m' K L2 →
      k (({ t with hp:=t.hp.set j (some (.ara m' K L2)) }:TS).put d .any)=some r→ae (D2 n t) d (Kt k r n) (.st m x y):=by
     intro L2 hf hle e2 h;simp only[ae,J0,hx,ha,E6];rw[B7v e];show 0≤0∧_;refine⟨B9 _,(i3 hf).1,?_,?_⟩
     ·show off+m≤(arC m' K L).length;rw[A2D];exact hle
     ·refine Kt.of h ?_;rw[T9];refine L7.put ?_ d (Im.any _);refine L7.setB hj (by simp[A7g e,TB.rlen]) ?_;have:R0 ⟨m',0,[AV.agg ((arC m' K L).take off++((av t.hp (t.ev n y)).cells++(arC m' K L).drop (off+m)))],0⟩ (tb t.hp (.ara m' K L2)):=by
       rw[e2];exact .refl _
      exact this
    have whole:∀ L2:List Int,(av t.hp (t.ev n y)).cells=arC m' K L2→(arC m' K L).take 0++((av t.hp (t.ev n y)).cells++(arC m' K L).drop (0+m'))=arC m' K L2:=by
     intro L2 e2;rw[e2,A2F,O7 (by rw[A2D];omega),D5,I2]
    split at h
    ·rename_i A z hy;split at h
     ·rename_i v hv;obtain⟨rfl,hz⟩:=N5 hv;cases hz;cases hm:Nat.beq m 1 with
      |false=>rw[hm] at h;cases h
      |true =>
       rw[hm,A4] at h;simp only[F4] at hm;subst hm;obtain⟨hc,h⟩:=m7 h;have hc:=hc.sm;rw[D7] at hc;refine fin _ (by rw[hy];rfl) (by omega) ?_ h;rw[hy];exact C59 hc
     ·split at h
      ·rename_i L2 hv;obtain⟨rfl,hz⟩:=N5 hv;cases hz;cases hm:(Nat.beq off 0&&Nat.beq m m') with
       |false=>rw[hm] at h;cases h
       |true =>
        rw[hm,A4] at h;simp only[A6,F4] at hm;obtain⟨rfl,rfl⟩:=hm;refine fin _ (by rw[hy];simp[TV.fits]) (by omega) (whole _ ?_) h;rw[hy];exact N6 ..
      ·cases h
    ·rename_i cs hy;split at h
     ·rename_i L2 hv;cases hm:(Nat.beq off 0&&Nat.beq m m') with
      |false=>rw[hm] at h;cases h
      |true =>
       rw[hm,A4] at h;simp only[A6,F4] at hm;obtain⟨rfl,rfl⟩:=hm;obtain⟨o1,o2⟩:=B1e t.hp hv;refine fin _ ?_ (by omega) (whole _ ?_) h
       ·rw[hy];simp only[TV.fits,A6,F4];exact⟨o2,C7j t.hp hv⟩
       ·rw[hy];simp only[av,O8,AV.cells];exact o1
     ·cases h
    ·cases h
  ·rename_i T o L e;have hj:j<t.hp.length:=(B4.1 e).1;have hr:=hrow j row off hx T o L e;cases hb:(Nat.ble (off+m) T.sz&&(t.ev n y).fits t.hp m) with
   |false=>rw[hb] at h;cases h
   |true =>
    rw[hb,A4] at h;simp only[A6] at hb;have hle:=H6 hb.1;have hf:=hb.2;have ha:av t.hp (.ptr j row off)=.ptr j L.length row off:=by simp only[av,T8 e]
    simp only[ae,J0,hx,ha,E6];rw[w9 e];obtain⟨g1,g2⟩:=C6R (o:=o) (t:=t) hr hle hf;refine⟨P1 _,(i3 hf).1,?_,?_⟩
    ·show off+m≤(((L.map (enc o T)).getD row .any).cells).length;rw[A4j (d:=dft T) hr,N6,O0];exact hle
    show Kt k r n (AS.put { D2 n t with hp:=(F1 t.hp).set j (some ⟨T.sz,0,(L.map (enc o T)).set row (A20 ((L.map (enc o T)).getD row .any) (((L.map (enc o T)).getD row .any).cells.take off++((av t.hp (t.ev n y)).cells++((L.map (enc o T)).getD row .any).cells.drop (off+m)))),0⟩) } d .any)
    generalize hnr:A20 ((L.map (enc o T)).getD row .any) (((L.map (enc o T)).getD row .any).cells.take off++((av t.hp (t.ev n y)).cells++((L.map (enc o T)).getD row .any).cells.drop (off+m)))=nr at g1;have hcyl:(av t.hp (t.ev n y)).cells.length=m:=by rw[A3M hf,C7];exact A11 hf
    cases ho:(!o||T.flat) with
    |true =>
     rw[ho,A4] at h;split at h
     ·rename_i z l hz;refine Kt.of h ?_;rw[T9];refine L7.put ?_ d (Im.any _);refine L7.setB hj (by simp[T8 e,TB.rlen]) ?_;refine A9e ((B30 ho L).set (x:=nr) (y:=z) ?_ row);show RI o T nr.cells z;rw[g1,A7r ho]
      have s1:=A8T (R:=fun a b _=>O6 Im a b) (fun xs=>O6.imrefl xs) (fun h k=>O6.append h k) (o:=false) hcyl (fun T' z' l' hz' _=>(C6C t.hp hz').2.1) T _ off z l hz hle;refine RI.o ⟨s1,fun c hc => ?_⟩ ho;rcases C9.1 hc with h|h
      ·exact A1z T _ c (Q0 h)
      ·rcases C9.1 h with h|h
       ·rw[A3M hf] at h;obtain⟨q,_,rfl⟩:=C5.1 h;exact(A05 _ q).1
       ·exact A1z T _ c (R3 h)
     ·cases h
    |false =>
     rw[ho,A9] at h;simp only[A0k,Bool.not_eq_false'] at ho;obtain⟨rfl,_⟩:=ho;split at h
     ·rename_i z l hz;cases hn:d5 (j :: l) with
      |false=>rw[hn] at h;cases h
      |true =>
       rw[hn,A4] at h;have hnd:=j5 hn;have s1:=A8T (R:=Ab (F1 t.hp)) (fun xs=>Ab.refl _ xs) (fun h k=>Ab.append h k) (o:=true) hcyl (fun T' z' l' hz' _=>by
        have:=B83 hz' (B3Z hf);rw[(i3 hf).2] at this;exact this) T _ off z l hz hle
       rw[← g1] at s1;obtain⟨q1,q2⟩:=A3s (l:=L.map (enc true T)) (i:=row) (x:=nr) (d:=.any) (by simpa using hr);obtain⟨q3,_⟩:=A3s (l:=L) (i:=row) (x:=z) (d:=dft T) hr;have hnrl:nr.cells.length=T.sz:=by rw[g1];exact g2
       have hab:Ab (F1 t.hp) (((L.map (enc true T)).set row nr).flatMap AV.cells) (((L.set row z).map (enc true T)).flatMap AV.cells) l:=by
        rw[q1,q3];simp only[G0,F6,W0,W7,O1,F0,N6];have:=(Ab.refl (F1 t.hp) (((L.map (enc true T)).take row).flatMap AV.cells)).append (s1.append (Ab.refl (F1 t.hp) (((L.map (enc true T)).drop (row+1)).flatMap AV.cells)));simpa using this
       have hlive:∀ i∈l,i≠j:=fun i hi e=>(H9.1 hnd).1 (e▸hi);refine⟨_,h,?_⟩;have hab':Ab ((F1 t.hp).set j (some ⟨T.sz,0,(L.map (enc true T)).set row nr,0⟩)) (((L.map (enc true T)).set row nr).flatMap AV.cells) (((L.set row z).map (enc true T)).flatMap AV.cells) l:=hab.mono fun i hi=>by
        rw[G5,G6 (fun e=>hlive i hi e.symm)]
       rw[T9];refine Get.trans (Get.absorbP (s:=D2 n t) (d:=d) (b:=⟨T.sz,0,(L.map (enc true T)).set row nr,0⟩) (rows':=(L.set row z).map (enc true T)) (l:=l)
        (by rw[E6,F3];exact hj) hnd (by simp) (fun _ y hy=>by
         obtain⟨q,_,rfl⟩:=C5.1 hy;rw[N6,O0]) hab') (L7.get ?_)
       refine L7.put ?_ d (Im.refl _);have e1:D2 n { t with hp:=t.hp.set j (some (.arr T true (L.set row z))) }={ D2 n t with hp:=(F1 t.hp).set j (some ⟨T.sz,0,(L.set row z).map (enc true T),0⟩) }:=A6z hj (by simp[T8 e,TB.rlen]);have:=L7.kill (n:=n) (t:={ t with hp:=t.hp.set j (some (.arr T true (L.set row z))) }) l;rw[e1] at this
       have e2:F1 (t.hp.set j (some (.arr T true (L.set row z))))=(F1 t.hp).set j (some ⟨T.sz,0,(L.set row z).map (enc true T),0⟩):=congrArg AS.hp e1;rw[e2] at this;exact this
     ·cases h
  ·rename_i T L row' off' c0 e;have hj:j<t.hp.length:=(B4.1 e).1;have hr:=hrowh j row off hx T L row' off' c0 e;split at h
   ·rename_i q hy;cases hb:(Nat.beq off off'&&(Nat.beq m 1&&(Nat.ble (off'+1) T.sz&&f8 t.hp q))) with
    |false=>rw[hb] at h;cases h
    |true =>
     rw[hb,A4] at h;simp only[A6,F4] at hb;obtain⟨rfl,rfl,hle,hq⟩:=hb;have hle:=H6 hle;obtain⟨h1,h2⟩:=m7 h;have h1:=h1.sm;simp only[F4] at h1;subst h1;have hf:(t.ev n y).fits t.hp 1=true:=by
      rw[hy];simp only[TV.fits,TV.c1,hq,U6];rfl
     have ha:av t.hp (.ptr j row off)=.ptr j L.length row off:=by simp only[av,A7n e]
     simp only[ae,J0,hx,ha,E6];rw[B2H e];have hcl:=O0 true T (L.getD row (dft T));have hgd:((tb t.hp (.hol T L row off c0)).rows).getD row .any=.agg ((cls true T (L.getD row (dft T))).set off (cav t.hp c0)):=by
      simp only[tb,B3,G5];rw[E9 (by simp)];simp[hr]
     refine⟨P1 _,(i3 hf).1,?_,?_⟩
     ·show off+1≤((((tb t.hp (.hol T L row off c0)).rows).getD row .any).cells).length;rw[hgd];simp only[AV.cells,G1,hcl];exact hle
     refine Kt.of h2 ?_;rw[T9];refine L7.put ?_ d (Im.any _);refine L7.setB hj (by simp[A7n e,TB.rlen]) ?_;have hcy:(av t.hp (t.ev n y)).cells=[cav t.hp (.own q)]:=by rw[A3M hf,hy];rfl
     have:A20 (((tb t.hp (.hol T L row off c0)).rows).getD row .any) ((((tb t.hp (.hol T L row off c0)).rows).getD row .any).cells.take off++((av t.hp (t.ev n y)).cells++(((tb t.hp (.hol T L row off c0)).rows).getD row .any).cells.drop (off+1)))=.agg ((cls true T (L.getD row (dft T))).set off (cav t.hp (.own q))):=by
      rw[hgd,hcy];simp only[AV.cells,A20];congr 1;exact B4O _ _ (by omega)
     have e3:(⟨T.sz,0,((tb t.hp (.hol T L row off c0)).rows).set row (.agg ((cls true T (L.getD row (dft T))).set off (cav t.hp (.own q)))),0⟩:Blk)=tb t.hp (.hol T L row off (.own q)):=by
      simp only[tb,Z0]
     rw[this];rw[← e3];exact R0.refl _
   ·cases h
  ·cases h
 ·cases h
end
open Go Go.RowKit
section
variable {C:Ctx} {s:AS} {a:Act} {w:World} {N:NT} {M:MT} {ℓ:Nat→List (Nat×Nat)}
theorem R9.emit(h:R9 C s a w N M ℓ){j:Nat}{b:Blk}(hj:s.hp[j]? = some (some b)){A B:List AV}{sz:Nat}{rows rows':List AV}(hc:b.rows.flatMap AV.cells=A ++ .sl true sz rows :: B)
  (hc':rows'.flatMap AV.cells=A ++ .ref s.hp.length rows.length 0 rows.length :: B) (hlen:rows'.length=b.rows.length) (hcl:(∀ y∈b.rows,y.cells.length=b.sz)→∀ y∈rows',y.cells.length=b.sz) :
  M8 C { s with hp:=s.hp.set j (some { b with rows:=rows' })++[some ⟨sz,0,rows,0⟩] } a w:=by
 have hjl:j<s.hp.length:=(B4.1 hj).1;obtain⟨mj,K,q1,q2,q3⟩:=h.hp j _ hj;have r:=q2.rep;rw[hc] at r;obtain⟨KA,KR,rfl,rA,rR⟩:=r.append;have hv:mj.virt=false:=by
  cases hv:mj.virt with
  |false=>rfl
  |true =>
   have:=q2.vt hv;rw[this] at hc;simp at hc
 cases rR with
 |cons hcell hx rB =>
  rename_i v L1 L2;obtain⟨m',L',ad,cap,e1,e2,e3,e4,e5⟩:∃ (m':Cn) (L':List Nat) (ad:Option Addr) (cap:Nat),H0 m' L'=L1.map (fun b=>(b,0))∧BR w N M ⟨sz,0,rows,0⟩ m' L'∧A8A w m' 0 rows.length ad cap∧v=.slice ad rows.length cap∧m'.len=rows.length:=by
   cases hx with
   |slO0 _ ad =>
    refine⟨⟨0,0,sz,0,0,true⟩,[],ad,0,by simp[H0],⟨rfl,rfl,P1 _,fun y hy=>(by cases hy),.nil _ _,fun _=>rfl,fun e=>(by cases e),B9 _,fun i hi=>(by simp at hi),fun _=>rfl⟩,⟨B9 _,.inl ⟨rfl,rfl⟩⟩,rfl,rfl⟩
   |slO rr hl hcap hroom =>
    rename_i b' o' cap L';refine⟨⟨b',o',sz,rows.length,0,false⟩,L',_,cap,by simp[H0],⟨rfl,rfl,P1 _,hl,rr,fun e=>(by cases e),fun _ => ?_,P1 _,fun i hi=>(by simp at hi),fun _=>rfl⟩,⟨by simp,.inr ⟨rfl,by simp,hcap,by simpa using hroom⟩⟩,rfl,rfl⟩;obtain⟨c,e,fz,h1,h2,h3⟩:=hroom;exact⟨c,e,fz,h1,S2 (i5 (O2 _ hcap) _) h2,h3⟩
  subst e4
  let n0:=s.hp.length
  let M':MT:=fun i=>if i=n0 then some (some m') else M i
  let ℓ':Nat→List (Nat×Nat):=fun i=>if i=n0 then H0 m' L' else if i=j then H0 mj (KA++L2) else ℓ i
  have hjn:j≠n0:=fun e=>by simp only[n0] at e;omega
  have hM:∀ i,i≠n0→M' i=M i:=fun i hi=>by simp only[M',hi,E5]
  have hMn:M' n0=some (some m'):=by simp only[M',H1]
  have g:Gr w w N N M M':=⟨fun _ c _ _ h=>⟨c,h,rfl⟩,fun _ _ _=>rfl,fun _ _ hn=>hn,fun i x hx=>by
   have hi:i≠n0:=fun e=>by
    subst e;rw[h.un _ (B9 _)] at hx;cases hx
   exact⟨x,by rw[hM i hi];exact hx,fun m hm=>⟨m,hm,.inl rfl⟩⟩⟩
  have same:∀ b,t2 w w b:=fun _ _=>rfl;have hlj:H0 mj (KA++(L1++L2))=(mj.b,mj.fr) :: (KA++(L1++L2)).map fun b=>(b,0):=by rw[H0,G6 (by rw[hv];simp)]
  have hlj':H0 mj (KA++L2)=(mj.b,mj.fr) :: (KA++L2).map fun b=>(b,0):=by rw[H0,G6 (by rw[hv];simp)]
  have fstid:∀ X:List Nat,(X.map fun b=>(b,0)).map Prod.fst=X:=fun X=>by
   rw[H7];have:(Prod.fst ∘ fun b:Nat=>(b,0))=id:=rfl;rw[this,A0q]
  have hnd0:=h.nd j hjl;rw[q3,hlj,F6,fstid] at hnd0;obtain⟨nb,nk⟩:=H9.1 hnd0;have nk':=J3.1 nk;have nk2:=J3.1 nk'.2.1;have lj:∀ p,p∈H0 mj (KA++L2)→p∈ℓ j:=fun p hp=>by
   rw[q3,hlj];rw[hlj'] at hp;rcases D8.1 hp with rfl|hp
   ·simp
   ·refine I7 _ ?_;obtain⟨x,hx,rfl⟩:=C5.1 hp;refine L9 ?_;rcases C9.1 hx with hx|hx
    ·exact O3 _ hx
    ·exact Q3 _ (Q3 _ hx)
  have ln:∀ p,p∈H0 m' L'→p∈ℓ j:=fun p hp=>by
   rw[e1] at hp;rw[q3,hlj];obtain⟨x,hx,rfl⟩:=C5.1 hp;exact I7 _ (L9 (Q3 _ (O3 _ hx)))
  have src:∀ i,i≤n0→∀ p∈ℓ' i,p∈ℓ (if i=n0 then j else i):=fun i hi p hp=>by
   by_cases e:i=n0
   ·simp only[ℓ',e,H1] at hp ⊢;exact ln p hp
   ·by_cases e':i=j
    ·subst e';simp only[ℓ',e,E5,H1] at hp ⊢;exact lj p hp
    ·simp only[ℓ',e,e',E5] at hp ⊢;exact hp
  have apart:∀ p∈H0 mj (KA++L2),∀ q∈H0 m' L',p.1≠q.1:=fun p hp q hq e=>by
   rw[e1] at hq;obtain⟨y,hy,rfl⟩:=C5.1 hq;rw[hlj'] at hp;rcases D8.1 hp with rfl|hp
   ·have e:mj.b=y:=e;exact nb (e▸Q3 _ (O3 _ hy))
   ·obtain⟨x,hx,rfl⟩:=C5.1 hp;have e:x=y:=e;subst e;rcases C9.1 hx with hx|hx
    ·exact nk'.2.2 x hx x (O3 _ hy) rfl
    ·exact nk2.2.2 x hy x hx rfl
  have hlen':(s.hp.set j (some { b with rows:=rows' })++[some (⟨sz,0,rows,0⟩:Blk)]).length=n0+1:=by simp[n0]
  refine R9.c (N:=N) (M:=M') (ℓ:=ℓ') ⟨h.df,h.sl.gr g (fun _ hb=>by cases hb),fun i x hx => ?_,fun i hi => ?_,fun i i' hi hi' hne p hp q hq => ?_,fun i hi p hp => ?_,h.nlt,h.nup,h.ndn,h.fr,fun k hk => ?_,fun k m m0 h1 h0 => ?_,fun k hk => ?_⟩
  ·replace hx:(s.hp.set j (some { b with rows:=rows' })++[some (⟨sz,0,rows,0⟩:Blk)])[i]? = some x:=hx;rcases D9 i n0 with hi|hi
   ·have hin:i≠n0:=by omega
    rw[B7 (by simpa using hi),G5] at hx;by_cases hij:j=i
    ·subst hij;rw[E9 rfl,E9 hjl] at hx;cases hx;refine⟨mj,KA++L2,by rw[hM _ hin];exact q1,?_,by simp only[ℓ',hin,E5,H1]⟩;refine⟨by rw[q2.len,hlen],q2.sz,q2.fr,hcl q2.cl,?_,fun e=>(by rw[hv] at e;cases e),q2.rm,by rw[hlen];exact q2.lo,q2.fz,q2.f0⟩;rw[hc'];refine(rA.gr g (fun _ _=>rfl) (fun _ _=>same _)).join ?_
     have:Rep w N M' (.ref s.hp.length rows.length 0 rows.length) (.slice ad rows.length cap) []:=.ref (some m') hMn fun m hm=>by
      cases hm;exact⟨by rw[e5];exact B9 _,fun _=>e3⟩
     exact .cons (L1:=[]) hcell this (rB.gr g (fun _ _=>rfl) (fun _ _=>same _))
    ·rw[G6 hij] at hx;have:=h.hp i x hx;cases x with
     |none=>exact⟨by rw[hM _ hin];exact this.1,by simp only[ℓ',hin,E5];rw[G6 (fun e=>hij e.symm)];exact this.2⟩
     |some x =>
      obtain⟨m,L1',h1,h2,h3⟩:=this;exact⟨m,L1',by rw[hM _ hin];exact h1,h2.gr g (fun _ _=>same _),by simp only[ℓ',hin,E5];rw[G6 (fun e=>hij e.symm)];exact h3⟩
   ·rw[B6 (by simpa using hi)] at hx;have hi0:i=n0:=by
     have:=(B4.1 hx).1;simp at this;simp only[n0] at hi ⊢; omega
    subst hi0;simp only[G1,n0,R7,E8,C3] at hx;subst hx;exact⟨m',L',hMn,e2.gr g (fun _ _=>same _),by simp only[ℓ',H1]⟩
  ·rw[hlen'] at hi;by_cases e:i=n0
   ·simp only[ℓ',e,H1,e1,fstid];exact nk2.1
   ·by_cases e':i=j
    ·subst e';simp only[ℓ',e,E5,H1,hlj',F6,fstid];refine H9.2 ⟨fun hx=>nb ?_,J3.2 ⟨nk'.1,nk2.2.1,fun x hx y hy=>nk'.2.2 x hx y (Q3 _ hy)⟩⟩;rcases C9.1 hx with hx|hx
     ·exact O3 _ hx
     ·exact Q3 _ (Q3 _ hx)
    ·simp only[ℓ',e,e',E5];exact h.nd i (by simp only[n0] at hi e;omega)
  ·rw[hlen'] at hi hi';have hp':=src i (by omega) p hp;have hq':=src i' (by omega) q hq;by_cases e:i=n0
   ·by_cases e':i'=j
    ·subst e;subst e';simp only[ℓ',H1] at hp;simp only[ℓ',hjn,E5,H1] at hq;exact fun e=>apart q hq p hp e.symm
    ·have:i'≠n0:=fun e2=>hne (e.trans e2.symm);rw[E9 e] at hp';rw[G6 this] at hq';exact h.dj j i' hjl (by simp only[n0] at *; omega) (fun e=>e' e.symm) p hp' q hq'
   ·by_cases e2:i'=n0
    ·by_cases e':i=j
     ·subst e2;subst e';simp only[ℓ',H1] at hq;simp only[ℓ',hjn,E5,H1] at hp;exact apart p hp q hq
     ·rw[G6 e] at hp';rw[E9 e2] at hq';exact h.dj i j (by simp only[n0] at *; omega) hjl e' p hp' q hq'
    ·rw[G6 e] at hp';rw[G6 e2] at hq';exact h.dj i i' (by simp only[n0] at *; omega) (by simp only[n0] at *; omega) hne p hp' q hq'
  ·rw[hlen'] at hi;have hp':=src i (by omega) p hp;by_cases e:i=n0
   ·rw[E9 e] at hp'; exact h.own j hjl p hp'
   ·rw[G6 e] at hp'; exact h.own i (by simp only[n0] at *; omega) p hp'
  ·rw[hlen'] at hk;rw[hM k (by omega)];exact h.un k (by simp only[n0] at hk;omega)
  ·by_cases e:k=n0
   ·rw[h.mz k (by simp only[n0] at e;omega)] at h0;cases h0
   ·rw[hM k e] at h1;exact h.mv k m m0 h1 h0
  ·rw[hlen'] at hk;exact h.mz k (by simp only[n0] at hk;omega)
theorem C1A:∀ (T:Ty) (x:Den T) (off:Nat) (t':Ty) (xs:List (Den t')),B1A T x off=some ⟨t',xs⟩→off<T.sz∧(cls true T x)[off]? = some (.sl true t'.sz (xs.map (enc true t'))):=by
 intro T;induction T with
 |i|bl|tx|sv|ar=>intro x off t' xs h;cases h
 |sl t _ =>
  intro x off t' xs h;simp only[B1A] at h;cases hb:Nat.beq off 0 with
  |false=>rw[hb] at h;cases h
  |true =>
   rw[hb,A4] at h;cases h;simp only[F4] at hb;subst hb;exact⟨Nat.zero_lt_one,rfl⟩
 |st t ih=>exact fun x off t' xs h=>ih x off t' xs h
 |pr a b iha ihb =>
  intro x off t' xs h;simp only[B1A] at h;have la:=O0 true a x.1;simp only[Ty.sz,cls];cases hb:Nat.blt off a.sz with
  |true =>
   rw[hb,A4] at h;rw[Q5] at hb;obtain⟨h1,h2⟩:=iha x.1 off t' xs h;exact⟨by omega,by rw[B7 (by omega)];exact h2⟩
  |false =>
   rw[hb,A9] at h;have hb:¬ off<a.sz:=fun e=>by rw[← Q5,hb] at e;cases e
   obtain⟨h1,h2⟩:=ihb x.2 (off-a.sz) t' xs h;exact⟨by omega,by rw[B6 (by omega),la];exact h2⟩
end
section
variable {n:Nat} {t:TS} {C:Ctx} {a:Act} {w:World}
theorem B8a(j:Nat):Get (D2 n t) (D2 n (B3J t j)):=by
 unfold B3J;split
 case h_3=>exact fun _ _ _ h=>h
 case h_2 =>
  rename_i T L row cs e;have hj:j<t.hp.length:=(B4.1 e).1;split
  case h_2=>exact fun _ _ _ h=>h
  rename_i z l hz;cases hb:(cs.all (TV.c1 t.hp)&&d5 (j :: l)) with
  |false=>exact fun _ _ _ h=>h
  |true =>
   simp only[A6,D6] at hb;obtain⟨hc1,hn⟩:=hb;simp only[A4];have hnd:=j5 hn;obtain⟨c1,ec,s1⟩:=A6T t.hp T cs z l [] hz hc1;rw[D5] at ec;subst ec;have hcv:cs.map (cav t.hp)=cs.map (av t.hp):=E4 fun c hc=>by unfold cav;rw[hc1 c hc];rfl
   rw[← hcv] at s1;have hat:(F1 t.hp)[j]? = some (some (tb t.hp (.tld T L row cs))):=by rw[I1,e];rfl
   have hab:Ab (F1 t.hp) ((tb t.hp (.tld T L row cs)).rows.flatMap AV.cells) (((L.set row z).map (enc true T)).flatMap AV.cells) l∨(L.length≤row):=by
    rcases D9 row L.length with hr|hr
    ·refine .inl ?_;obtain⟨q1,q2⟩:=A3s (l:=L.map (enc true T)) (i:=row) (x:=.agg (cs.map (cav t.hp))) (d:=.any) (by simpa using hr);obtain⟨q3,_⟩:=A3s (l:=L) (i:=row) (x:=z) (d:=dft T) hr;show Ab _ (((L.map (enc true T)).set row (.agg (cs.map (cav t.hp)))).flatMap AV.cells) _ _;rw[q1,q3];have hagg:∀ cs:List AV,(AV.agg cs).cells=cs:=fun _=>rfl
     simp only[G0,F6,W0,W7,O1,F0,N6,hagg];have:=(Ab.refl (F1 t.hp) (((L.map (enc true T)).take row).flatMap AV.cells)).append (s1.append (Ab.refl (F1 t.hp) (((L.map (enc true T)).drop (row+1)).flatMap AV.cells)));simpa using this
    ·exact .inr hr
   have fin:Get (D2 n t) { D2 n t with hp:=K8 ((F1 t.hp).set j (some ⟨T.sz,0,(L.set row z).map (enc true T),0⟩)) l }:=by
    rcases hab with hab|hr
    ·exact Get.absorb (s:=D2 n t) hat hnd (by simp[tb]) (fun _ y hy=>by
      obtain⟨q,_,rfl⟩:=C5.1 hy;rw[N6,O0];rfl) hab
    ·have e3:tb t.hp (.tld T L row cs)=⟨T.sz,0,(L.set row z).map (enc true T),0⟩:=by
      simp only[tb];rw[Q6 (by simpa using hr),Q6 hr]
     have e4:(F1 t.hp).set j (some ⟨T.sz,0,(L.set row z).map (enc true T),0⟩)=F1 t.hp:=by
      rw[← e3];refine A1a fun i => ?_;rw[G5];by_cases hi:j=i
      ·subst hi;rw[E9 rfl,E9 (by rw[F3];exact hj),hat]
      ·rw[G6 hi]
     rw[e4];have hl:∀ m∈l,m<(D2 n t).hp.length:=fun m hm=>by
      obtain⟨bm,e5,_⟩:=s1.live m hm;exact(B4.1 e5).1
     intro C a w hc;obtain⟨N,M,ℓ,hc⟩:=hc.fn;exact hc.kill hl
   refine Get.trans fin (L7.get ?_);have e1:D2 n { t with hp:=t.hp.set j (some (.arr T true (L.set row z))) }={ D2 n t with hp:=(F1 t.hp).set j (some ⟨T.sz,0,(L.set row z).map (enc true T),0⟩) }:=A6z hj (by simp[B8J e,TB.rlen]);have:=L7.kill (n:=n) (t:={ t with hp:=t.hp.set j (some (.arr T true (L.set row z))) }) l;rw[e1] at this
   have e2:F1 (t.hp.set j (some (.arr T true (L.set row z))))=(F1 t.hp).set j (some ⟨T.sz,0,(L.set row z).map (enc true T),0⟩):=congrArg AS.hp e1;rw[e2] at this;exact this
 rename_i T L row off k e;have hj:j<t.hp.length:=(B4.1 e).1;cases hb:(Nat.ble (off+1) T.sz&&f8 t.hp k) with
 |false=>exact fun _ _ _ h=>h
 |true =>
  simp only[A6] at hb;obtain⟨hle,hk⟩:=hb;have hle:=H6 hle;simp only[A4];split
  case h_2=>exact fun _ _ _ h=>h
  rename_i z l hz;cases hn:d5 (j :: l) with
  |false=>exact fun _ _ _ h=>h
  |true =>
   simp only[A4];have hnd:=j5 hn;have hf:(TV.own k).fits t.hp 1=true:=by
    simp only[TV.fits,TV.c1,hk,U6];rfl
   have hcyl:(av t.hp (.own k)).cells.length=1:=by rw[A3M hf,C7];exact A11 hf
   have s1:=A8T (R:=Ab (F1 t.hp)) (fun xs=>Ab.refl _ xs) (fun h k=>Ab.append h k) (o:=true) hcyl (fun T' z' l' hz' _=>by
    have:=B83 hz' (B3Z hf);rw[(i3 hf).2] at this;exact this) T _ off z l hz hle
   have hcav:(av t.hp (.own k)).cells=[cav t.hp (.own k)]:=by rw[A3M hf];rfl
   have hcl:=O0 true T (L.getD row (dft T));have s2:Ab (F1 t.hp) ((cls true T (L.getD row (dft T))).set off (cav t.hp (.own k))) (cls true T z) l:=by
    rw[Q2,E9 (by omega)];rw[hcav] at s1;exact s1
   have hat:(F1 t.hp)[j]? = some (some (tb t.hp (.hol T L row off (.own k)))):=by rw[I1,e];rfl
   have henc:∀ q:Den T,(enc true T q).cells=cls true T q:=fun q=>N6 true T q;have hab:Ab (F1 t.hp) ((tb t.hp (.hol T L row off (.own k))).rows.flatMap AV.cells) (((L.set row z).map (enc true T)).flatMap AV.cells) l∨(L.length≤row):=by
    rcases D9 row L.length with hr|hr
    ·refine .inl ?_;obtain⟨q1,q2⟩:=A3s (l:=L.map (enc true T)) (i:=row) (x:=.agg ((cls true T (L.getD row (dft T))).set off (cav t.hp (.own k)))) (d:=.any) (by simpa using hr);obtain⟨q3,_⟩:=A3s (l:=L) (i:=row) (x:=z) (d:=dft T) hr;show Ab _ (((L.map (enc true T)).set row (.agg ((cls true T (L.getD row (dft T))).set off (cav t.hp (.own k))))).flatMap AV.cells) _ _;rw[q1,q3]
     have hagg:∀ cs:List AV,(AV.agg cs).cells=cs:=fun _=>rfl;simp only[G0,F6,W0,W7,O1,F0,N6,hagg];have:=(Ab.refl (F1 t.hp) (((L.map (enc true T)).take row).flatMap AV.cells)).append (s2.append (Ab.refl (F1 t.hp) (((L.map (enc true T)).drop (row+1)).flatMap AV.cells)));simpa using this
    ·exact .inr hr
   have fin:Get (D2 n t) { D2 n t with hp:=K8 ((F1 t.hp).set j (some ⟨T.sz,0,(L.set row z).map (enc true T),0⟩)) l }:=by
    rcases hab with hab|hr
    ·exact Get.absorb (s:=D2 n t) hat hnd (by simp[tb]) (fun _ y hy=>by
      obtain⟨q,_,rfl⟩:=C5.1 hy;rw[N6,O0];rfl) hab
    ·have e3:tb t.hp (.hol T L row off (.own k))=⟨T.sz,0,(L.set row z).map (enc true T),0⟩:=by
      simp only[tb];rw[Q6 (by simpa using hr),Q6 hr]
     have e4:(F1 t.hp).set j (some ⟨T.sz,0,(L.set row z).map (enc true T),0⟩)=F1 t.hp:=by
      rw[← e3];refine A1a fun i => ?_;rw[G5];by_cases hi:j=i
      ·subst hi;rw[E9 rfl,E9 (by rw[F3];exact hj),hat]
      ·rw[G6 hi]
     rw[e4];have hl:∀ m∈l,m<(D2 n t).hp.length:=fun m hm=>by
      obtain⟨bm,e5,_⟩:=s2.live m hm;exact(B4.1 e5).1
     intro C a w hc;obtain⟨N,M,ℓ,hc⟩:=hc.fn;exact hc.kill hl
   refine Get.trans fin (L7.get ?_);have e1:D2 n { t with hp:=t.hp.set j (some (.arr T true (L.set row z))) }={ D2 n t with hp:=(F1 t.hp).set j (some ⟨T.sz,0,(L.set row z).map (enc true T),0⟩) }:=A6z hj (by simp[A7n e,TB.rlen]);have:=L7.kill (n:=n) (t:={ t with hp:=t.hp.set j (some (.arr T true (L.set row z))) }) l;rw[e1] at this
   have e2:F1 (t.hp.set j (some (.arr T true (L.set row z))))=(F1 t.hp).set j (some ⟨T.sz,0,(L.set row z).map (enc true T),0⟩):=congrArg AS.hp e1;rw[e2] at this;exact this
theorem A4A(hc:M8 C (D2 n t) a w):M8 C (D2 n (A0e t)) a w:=by
 have:∀ (i:Nat) (t:TS),M8 C (D2 n t) a w→M8 C (D2 n (B3K i t)) a w:=by
  intro i;induction i with
  |zero=>exact fun t h=>h
  |succ i ih=>exact fun t h=>ih _ (B8a i C a w h)
 exact this _ _ hc
theorem B9k(x:Operand)(hc:M8 C (D2 n t) a w):M8 C (D2 n (B9z n t x)) a w:=by
 unfold B9z;split
 case h_2=>exact hc
 rename_i j row off hx;split
 case h_2=>exact hc
 rename_i T o L e;cases hb:(o && !T.flat) with
 |false=>exact hc
 |true =>
  simp only[A6] at hb;obtain⟨rfl,_⟩:=hb;simp only[A4];split
  case h_2=>exact hc
  rename_i t' xs hg;have hj:j<t.hp.length:=(B4.1 e).1;obtain⟨N,M,ℓ,hcf⟩:=hc.fn;have ha:(D2 n t).ev x=.ptr j L.length row off:=by rw[J0,hx];simp only[av,T8 e]
  obtain⟨b,m,L1,q1,q2,q3,q4,q5,q6,hr,q8⟩:=hcf.d.ptr ha (by rw[E6,w9 e];rfl);obtain⟨ho,hcell⟩:=C1A T _ off t' xs hg;have hcl:=O0 true T (L.getD row (dft T));have hat:(D2 n t).hp[j]? = some (some ⟨T.sz,0,L.map (enc true T),0⟩):=by rw[E6,I1,e];rfl
  have hlen:(D2 n t).hp.length=t.hp.length:=by rw[E6,F3]
  let nr:AV:=.agg ((cls true T (L.getD row (dft T))).set off (.ref t.hp.length xs.length 0 xs.length))
  have hrm:row<(L.map (enc true T)).length:=by rw[C7];exact hr
  have hrow:(L.map (enc true T))[row]=enc true T (L.getD row (dft T)):=by simp[List.getD,hr]
  have em:=hcf.emit (A:=((L.map (enc true T)).take row).flatMap AV.cells++(cls true T (L.getD row (dft T))).take off) (B:=(cls true T (L.getD row (dft T))).drop (off+1)++((L.map (enc true T)).drop (row+1)).flatMap AV.cells) (sz:=t'.sz) (rows:=xs.map (enc true t')) (rows':=(L.map (enc true T)).set row nr) hat
   (by
    show(L.map (enc true T)).flatMap AV.cells=_;have e1:L.map (enc true T)=(L.map (enc true T)).take row++(L.map (enc true T))[row] :: (L.map (enc true T)).drop (row+1):=by rw[Z5 hrm,G3]
    have e2:cls true T (L.getD row (dft T))=(cls true T (L.getD row (dft T))).take off ++ .sl true t'.sz (xs.map (enc true t')) :: (cls true T (L.getD row (dft T))).drop (off+1):=by
     have h1:off<(cls true T (L.getD row (dft T))).length:=by omega
     have h2:(cls true T (L.getD row (dft T)))[off]=.sl true t'.sz (xs.map (enc true t')):=by
      rw[D1 h1] at hcell;exact P3 hcell
     rw[← h2,Z5 h1,G3]
    conv=>lhs;rw[e1]
    rw[O1,F0,hrow,N6]
    conv=>lhs;rw[e2]
    simp)
   (by
    rw[A4a hrm,hlen,C7];show _++((cls true T (L.getD row (dft T))).set off (.ref t.hp.length xs.length 0 xs.length)++_)=_;rw[Q2,E9 (by omega)];simp)
   (by simp) (fun _ y hy=>by
    rcases H5 hy with hy|rfl
    ·obtain⟨q,_,rfl⟩:=C5.1 hy;rw[N6,O0]
    ·show((cls true T (L.getD row (dft T))).set off _).length=_;rw[G1,O0])
  refine L7.conc ?_ em
  let u:TS:=t.new [.arr t' true xs]
  let v:TS:={ u with hp:=u.hp.set j (some (.hol T L row off (.own t.hp.length))) }
  show L7 _ (D2 n v);have hul:u.hp.length=t.hp.length+1:=by simp[u,TS.new,P8]
  have hun:u.hp[t.hp.length]? = some (some (.arr t' true xs)):=A2C (t:=t) _;have hvn:v.hp[t.hp.length]? = some (some (.arr t' true xs)):=by
   show(u.hp.set j _)[t.hp.length]? = _;rw[G5,G6 (by omega)];exact hun
  have hui:∀ i,i<t.hp.length→u.hp[i]? = (t.hp[i]?).map (Option.map (TB.flt fun i=>Nat.blt i t.hp.length)):=fun i hi=>by
   show(Z8 _ t.hp++_)[i]? = _;rw[B7 (by rw[P8];exact hi),A0y]
  have hvj:v.hp[j]? = some (some (.hol T L row off (.own t.hp.length))):=by
   show(u.hp.set j _)[j]? = _;rw[G5,E9 rfl,E9 (by omega)]
  have hvi:∀ i,i<t.hp.length→i≠j→v.hp[i]? = (t.hp[i]?).map (Option.map (TB.flt fun i=>Nat.blt i t.hp.length)):=fun i hi hij=>by
   show(u.hp.set j _)[i]? = _;rw[G5,G6 (fun e=>hij e.symm)];exact hui i hi
  have hl:∀ i,Nat.blt i t.hp.length=true→hpk v.hp i=hpk t.hp i:=fun i hi=>by
   rw[Q5] at hi;by_cases hij:i=j
   ·subst hij;rw[A7n hvj,T8 e]
   ·unfold hpk;rw[hvi i hi hij];cases t.hp[i]? with
    |none=>rfl
    |some c=>cases c with
     |none=>rfl
     |some c=>simp[A4t]
  have hcv:cav v.hp (.own t.hp.length)=.ref t.hp.length xs.length 0 xs.length:=by
   unfold cav;simp only[TV.c1,f8,av,T8 hvn,A4]
  refine⟨by show(D2 n v).sl.length=(D2 n t).sl.length;rw[T5,T5],fun i => ?_,?_,fun i y hy => ?_⟩
  ·show Im ((D2 n t).sl.getD i .any) _;have hg2:v.get n i=flt (fun i=>Nat.blt i t.hp.length) (t.get n i):=A2u n t _ _ (fun i=>Nat.blt i t.hp.length) rfl i;rw[R5,R5,hg2];exact A1Y hl _
  ·show(F1 v.hp).length=((F1 t.hp).set j _++[_]).length;rw[F3];show(u.hp.set j _).length=_;simp[hul,F3]
  ·show ∃ z,(F1 v.hp)[i]? = some z∧_;replace hy:((F1 t.hp).set j (some ⟨T.sz,0,(L.map (enc true T)).set row nr,0⟩)++[some ⟨t'.sz,0,xs.map (enc true t'),0⟩])[i]? = some y:=hy;rw[I1];rcases D9 i t.hp.length with hi|hi
   ·rw[B7 (by simpa[F3] using hi),G5] at hy;by_cases hij:j=i
    ·subst hij;rw[E9 rfl,E9 (by rw[F3];exact hj)] at hy;cases hy;rw[hvj];refine⟨_,rfl,?_⟩;show R0 _ (tb v.hp (.hol T L row off (.own t.hp.length)));have:tb v.hp (.hol T L row off (.own t.hp.length))=⟨T.sz,0,(L.map (enc true T)).set row nr,0⟩:=by simp only[tb,hcv,nr]
     rw[this];exact .refl _
    ·rw[G6 hij,I1] at hy;rw[hvi i hi (fun e=>hij e.symm)];cases hb:t.hp[i]? with
     |none=>rw[hb] at hy;cases hy
     |some c =>
      rw[hb] at hy;simp only[F8,C3] at hy;subst hy;refine⟨_,rfl,?_⟩;cases c with
      |none=>trivial
      |some c=>exact A2R hl c
   ·rw[B6 (by simpa[F3] using hi)] at hy;have hi0:i=t.hp.length:=by
     have:=(B4.1 hy).1;simp[F3] at this;omega
    subst hi0;simp only[G1,F3,R7,E8,C3] at hy;subst hy;rw[hvn];exact⟨_,rfl,R0.refl _⟩
def rfC(base:Nat):(T:Ty)→Den T→List AV
 |.sl _,x=>[.ref base x.length 0 x.length]
 |.pr a b,x=>rfC base a x.1++rfC (base+(rsC base a x.1).2.length) b x.2
 |.st t,x=>rfC base t x
 |.i k,x=>[.val (.int k x)]
 |.bl,x=>[.val (.bool x)]
 |.tx,x=>[.val (.string x)]
 |.sv t,x=>[.sl false t.sz (x.map fun y=>mkr t.ag (cls false t y))]
 |.ar n k,x=>arC n k x
def bkC(T:Ty)(x:Den T):HP:=(rsC 0 T x).2.map fun b=>some (tb [] b)
theorem A4p:∀ (T:Ty) (x:Den T) (b c:Nat),(rsC b T x).2=(rsC c T x).2
 |.i _,_,_,_=>rfl
 |.bl,_,_,_=>rfl
 |.tx,_,_,_=>rfl
 |.sv _,_,_,_=>rfl
 |.ar _ _,_,_,_=>rfl
 |.sl _,_,_,_=>rfl
 |.st t,x,b,c=>A4p t x b c
 |.pr p q,x,b,c=>by
  simp only[rsC];rw[A4p p x.1 b c,A4p q x.2 _ (c+(rsC c p x.1).2.length)]
theorem A7k:∀ (T:Ty) (x:Den T) (b:Nat),(rfC b T x).length=T.sz
 |.i _,_,_=>rfl
 |.bl,_,_=>rfl
 |.tx,_,_=>rfl
 |.sv _,_,_=>rfl
 |.ar _ _,_,_=>A2D ..
 |.sl _,_,_=>rfl
 |.st t,x,b=>A7k t x b
 |.pr p q,x,b=>by simp[rfC,Ty.sz,A7k p,A7k q]
theorem C8G{T0:Ty}{L:List (Den T0)}{row j:Nat}(hr:row<L.length):∀ (T:Ty) (x:Den T) (s:AS) (P S:List AV),P.length+(T.sz+S.length)=T0.sz →
  s.hp[j]? = some (some ⟨T0.sz,0,(L.map (enc true T0)).set row (.agg (P++(cls true T x++S))),0⟩)→M8 C s a w →
   M8 C { s with hp:=s.hp.set j (some ⟨T0.sz,0,(L.map (enc true T0)).set row (.agg (P++(rfC s.hp.length T x++S))),0⟩)++bkC T x } a w:=by
 have hrm:row<(L.map (enc true T0)).length:=by simpa using hr
 have same:∀ (s:AS) (b:Option Blk),s.hp[j]? = some b→s.hp.set j b++[]=s.hp:=fun s b e=>by
  rw[D5];refine A1a fun i => ?_;rw[G5];by_cases hi:j=i
  ·subst hi;rw[E9 rfl,E9 (B4.1 e).1,e]
  ·rw[G6 hi]
 intro T;induction T with
 |i|bl|tx|sv|ar =>
  intro x s P S hl e hc;have:=same s _ e;show M8 C { s with hp:=s.hp.set j _++[] } a w;simp only[cls,rfC] at this ⊢;rw[this];exact hc
 |st t ih=>intro x s P S hl e hc;exact ih x s P S hl e hc
 |sl t _ =>
  intro x s P S hl e hc;obtain⟨N,M,ℓ,hcf⟩:=hc.fn;have hagg:∀ cs:List AV,(AV.agg cs).cells=cs:=fun _=>rfl;have:=hcf.emit (A:=((L.map (enc true T0)).take row).flatMap AV.cells++P) (B:=S++((L.map (enc true T0)).drop (row+1)).flatMap AV.cells) (sz:=t.sz) (rows:=x.map fun y=>mkr t.ag (cls true t y)) (rows':=(L.map (enc true T0)).set row (.agg (P++(rfC s.hp.length (.sl t) x++S)))) e
   (by
    show((L.map (enc true T0)).set row _).flatMap AV.cells=_;rw[A4a hrm,hagg];simp[cls])
   (by
    rw[A4a hrm,hagg];simp[rfC])
   (by simp) (fun _ y hy=>by
    rcases H5 hy with hy|rfl
    ·obtain⟨q,_,rfl⟩:=C5.1 hy;rw[N6,O0]
    ·show(P++(rfC s.hp.length (.sl t) x++S)).length=T0.sz;rw[A5,A5,A7k];exact hl)
  exact this
 |pr p q ihp ihq =>
  intro x s P S hl e hc;have hj:j<s.hp.length:=(B4.1 e).1;have h1:=ihp x.1 s P (cls true q x.2++S) (by simp only[A5,O0];simp only[Ty.sz] at hl;omega) (by rw[e];simp[cls]) hc
  let s1:AS:={ s with hp:=s.hp.set j (some ⟨T0.sz,0,(L.map (enc true T0)).set row (.agg (P++(rfC s.hp.length p x.1++(cls true q x.2++S)))),0⟩)++bkC p x.1 }
  have hl1:s1.hp.length=s.hp.length+(rsC s.hp.length p x.1).2.length:=by
   show(s.hp.set j _++bkC p x.1).length=_;rw[A5,G1,A4p p x.1 s.hp.length 0];simp[bkC]
  have e1:s1.hp[j]? = some (some ⟨T0.sz,0,(L.map (enc true T0)).set row (.agg ((P++rfC s.hp.length p x.1)++(cls true q x.2++S))),0⟩):=by
   show(s.hp.set j _++bkC p x.1)[j]? = _;rw[B7 (by rw[G1];exact hj),G5,E9 rfl,E9 hj,F9]
  have h2:=ihq x.2 s1 (P++rfC s.hp.length p x.1) S (by simp only[A5,A7k];simp only[Ty.sz] at hl;omega) e1 h1;have e2:s1.hp.set j (some ⟨T0.sz,0,(L.map (enc true T0)).set row (.agg ((P++rfC s.hp.length p x.1)++(rfC s1.hp.length q x.2++S))),0⟩)++bkC q x.2 =
    s.hp.set j (some ⟨T0.sz,0,(L.map (enc true T0)).set row (.agg (P++(rfC s.hp.length (.pr p q) x++S))),0⟩)++bkC (.pr p q) x:=by
   show(s.hp.set j _++bkC p x.1).set j _++bkC q x.2=_;rw[List.set_append_left _ _ (by rw[G1];exact hj),Z0,F9];have e3:bkC p x.1++bkC q x.2=bkC (.pr p q) x:=by
    simp only[bkC,rsC,G0];rw[A4p q x.2 (0+(rsC 0 p x.1).2.length) 0]
   rw[e3,hl1];simp[rfC]
  rw[e2] at h2;exact h2
theorem C6b{hp:THP}:∀ (T:Ty) (x:Den T) (base:Nat),(∀ i k,(rsC base T x).2[i]? = some k→hp[base+i]? = some (some k))→(rsC base T x).1.map (cav hp)=rfC base T x:=by
 intro T;induction T with
 |i|bl|tx|sv=>intro x base _;rfl
 |ar n k =>
  intro x base _;simp only[rsC,W8,rfC,arC,H7];exact E4 fun i _=>rfl
 |sl t _ =>
  intro x base h;have:=h 0 _ rfl;rw[H2] at this;simp only[rsC,rfC,F6,U3,cav,TV.c1,f8,av,T8 this,A4]
 |st t ih=>intro x base h;exact ih x base h
 |pr p q ihp ihq =>
  intro x base h;simp only[rsC,rfC,G0] at h ⊢;rw[ihp x.1 base (fun i k e=>h i k (by rw[B7 (B4.1 e).1];exact e)),ihq x.2 _ (fun i k e=>by
   rw[G4];exact h _ k (by rw[B6 (by omega),J8];exact e))]
theorem B9S(m:Nat)(x:Operand)(hc:M8 C (D2 n t) a w):M8 C (D2 n (B91 n t m x)) a w:=by
 unfold B91;split
 case h_2=>exact hc
 rename_i j row off hx;split
 case h_2=>exact hc
 rename_i T o L e;cases hb:((o && !T.flat)&&(Nat.beq off 0&&Nat.beq m T.sz)) with
 |false=>exact hc
 |true =>
  simp only[A6,F4] at hb;obtain⟨⟨rfl,_⟩,rfl,rfl⟩:=hb;simp only[A4];have hj:j<t.hp.length:=(B4.1 e).1;have ha:(D2 n t).ev x=.ptr j L.length row 0:=by rw[J0,hx];simp only[av,T8 e]
  have hr:row<L.length:=by
   obtain⟨N,M,K,hcd⟩:=hc;obtain⟨b,m,L1,q1,q2,q3,q4,q5,q6,hr,q8⟩:=hcd.ptr ha (by rw[E6,w9 e];rfl);exact hr
  have hlen:(D2 n t).hp.length=t.hp.length:=by rw[E6,F3]
  have hrm:row<(L.map (enc true T)).length:=by rw[C7];exact hr
  let X:=L.getD row (dft T)
  let bs:=(rsC t.hp.length T X).2
  have h0:M8 C { D2 n t with hp:=(F1 t.hp).set j (some ⟨T.sz,0,(L.map (enc true T)).set row (.agg ([]++(cls true T X++[]))),0⟩) } a w:=by
   suffices hle:L7 (D2 n t) { D2 n t with hp:=(F1 t.hp).set j (some ⟨T.sz,0,(L.map (enc true T)).set row (.agg ([]++(cls true T X++[]))),0⟩) } from hle.conc hc
   refine⟨rfl,fun _=>.refl _,by rw[E6];simp,fun i y hy => ?_⟩;rw[E6] at hy;show ∃ z,((F1 t.hp).set j (some ⟨T.sz,0,(L.map (enc true T)).set row (.agg ([]++(cls true T X++[]))),0⟩))[i]? = some z∧_;rw[G5];by_cases hij:j=i
   ·subst hij;rw[E9 rfl,E9 (by rw[F3];exact hj)];rw[I1,e] at hy;cases hy;refine⟨_,rfl,?_⟩;have hrow:(L.map (enc true T))[row]=enc true T X:=by simp[X,List.getD,hr]
    have hfl:((L.map (enc true T)).set row (.agg (cls true T X))).flatMap AV.cells=(L.map (enc true T)).flatMap AV.cells:=by
     rw[A4a hrm];have e1:L.map (enc true T)=(L.map (enc true T)).take row++(L.map (enc true T))[row] :: (L.map (enc true T)).drop (row+1):=by rw[Z5 hrm,G3]
     conv=>rhs;rw[e1]
     rw[O1,F0,hrow,N6];rfl
    show R0 ⟨T.sz,0,L.map (enc true T),0⟩ ⟨T.sz,0,(L.map (enc true T)).set row (.agg ([]++(cls true T X++[]))),0⟩;rw[I2,D5];refine⟨rfl,rfl,rfl,by simp,fun _ z hz => ?_,fun w N M p o K r => ?_⟩
    ·rcases H5 hz with hz|rfl
     ·obtain⟨q,_,rfl⟩:=C5.1 hz;rw[N6,O0]
     ·exact O0 true T X
    ·simp only at r ⊢;rw[hfl];exact r
   ·rw[G6 hij];exact⟨y,hy,by cases y;trivial;exact R0.refl _⟩
  have em:=C8G (j:=j) (L:=L) hr T X { D2 n t with hp:=(F1 t.hp).set j (some ⟨T.sz,0,(L.map (enc true T)).set row (.agg ([]++(cls true T X++[]))),0⟩) } [] [] (by simp) (by
   show((F1 t.hp).set j _)[j]? = _;rw[G5,E9 rfl,E9 (by rw[F3];exact hj)]) h0
  refine L7.conc ?_ em
  let u:TS:=t.new bs
  let v:TS:={ u with hp:=u.hp.set j (some (.tld T L row (rsC t.hp.length T X).1)) }
  show L7 _ (D2 n v);have hul:u.hp.length=t.hp.length+bs.length:=by simp[u,TS.new,P8]
  have hun:∀ i k,bs[i]? = some k→u.hp[t.hp.length+i]? = some (some k):=fun i k ek=>by
   show(Z8 _ t.hp++bs.map some)[t.hp.length+i]? = _;rw[B6 (by rw[P8];omega),P8,J8,H3,ek];rfl
  have hvn:∀ i k,bs[i]? = some k→v.hp[t.hp.length+i]? = some (some k):=fun i k ek=>by
   show(u.hp.set j _)[t.hp.length+i]? = _;rw[G5,G6 (by omega)];exact hun i k ek
  have hui:∀ i,i<t.hp.length→u.hp[i]? = (t.hp[i]?).map (Option.map (TB.flt fun i=>Nat.blt i t.hp.length)):=fun i hi=>by
   show(Z8 _ t.hp++_)[i]? = _;rw[B7 (by rw[P8];exact hi),A0y]
  have hvj:v.hp[j]? = some (some (.tld T L row (rsC t.hp.length T X).1)):=by
   show(u.hp.set j _)[j]? = _;rw[G5,E9 rfl,E9 (by omega)]
  have hvi:∀ i,i<t.hp.length→i≠j→v.hp[i]? = (t.hp[i]?).map (Option.map (TB.flt fun i=>Nat.blt i t.hp.length)):=fun i hi hij=>by
   show(u.hp.set j _)[i]? = _;rw[G5,G6 (fun e=>hij e.symm)];exact hui i hi
  have hl:∀ i,Nat.blt i t.hp.length=true→hpk v.hp i=hpk t.hp i:=fun i hi=>by
   rw[Q5] at hi;by_cases hij:i=j
   ·subst hij;rw[B8J hvj,T8 e]
   ·unfold hpk;rw[hvi i hi hij];cases t.hp[i]? with
    |none=>rfl
    |some c=>cases c with
     |none=>rfl
     |some c=>simp[A4t]
  have hcv:(rsC t.hp.length T X).1.map (cav v.hp)=rfC t.hp.length T X:=C6b T X t.hp.length hvn;have hbk:bkC T X=bs.map fun b=>some (tb v.hp b):=by
   unfold bkC;rw[A4p T X 0 t.hp.length];refine E4 fun b hb => ?_;have:∀ (T:Ty) (x:Den T) (b:Nat),∀ k∈(rsC b T x).2,∃ (A:Ty) (Z:List (Den A)),k=.arr A true Z:=by
    intro T;induction T with
    |i|bl|tx|sv|ar=>intro x b k hk;cases hk
    |sl t _=>intro x b k hk;simp only[rsC,C1] at hk;exact⟨_,_,hk⟩
    |st t ih=>intro x;exact ih x
    |pr a c iha ihc =>
     intro x b k hk;rcases C9.1 hk with h|h
     ·exact iha _ _ k h
     ·exact ihc _ _ k h
   obtain⟨A,Z,rfl⟩:=this T X _ b hb;rfl
  refine⟨by show(D2 n v).sl.length=(D2 n t).sl.length;rw[T5,T5],fun i => ?_,?_,fun i y hy => ?_⟩
  ·show Im ((D2 n t).sl.getD i .any) _;have hg2:v.get n i=flt (fun i=>Nat.blt i t.hp.length) (t.get n i):=A2u n t _ _ (fun i=>Nat.blt i t.hp.length) rfl i;rw[R5,R5,hg2];exact A1Y hl _
  ·show(F1 v.hp).length=(((F1 t.hp).set j _).set j _++bkC T X).length;rw[F3,hbk];show(u.hp.set j _).length=_;simp[hul,F3]
  ·show ∃ z,(F1 v.hp)[i]? = some z∧_;replace hy:(((F1 t.hp).set j (some ⟨T.sz,0,(L.map (enc true T)).set row (.agg ([]++(cls true T X++[]))),0⟩)).set j (some ⟨T.sz,0,(L.map (enc true T)).set row (.agg ([]++(rfC ((F1 t.hp).set j (some ⟨T.sz,0,(L.map (enc true T)).set row (.agg ([]++(cls true T X++[]))),0⟩)).length T X++[]))),0⟩)++bkC T X)[i]? = some y:=hy
   rw[Z0,G1,F3,I2,D5] at hy;rw[I1];rcases D9 i t.hp.length with hi|hi
   ·rw[B7 (by simpa[F3] using hi),G5] at hy;by_cases hij:j=i
    ·subst hij;rw[E9 rfl,E9 (by rw[F3];exact hj)] at hy;cases hy;rw[hvj];refine⟨_,rfl,?_⟩;show R0 _ (tb v.hp (.tld T L row (rsC t.hp.length T X).1));have:tb v.hp (.tld T L row (rsC t.hp.length T X).1)=⟨T.sz,0,(L.map (enc true T)).set row (.agg (rfC t.hp.length T X)),0⟩:=by simp only[tb,hcv]
     rw[this];exact .refl _
    ·rw[G6 hij,I1] at hy;rw[hvi i hi (fun e=>hij e.symm)];cases hb:t.hp[i]? with
     |none=>rw[hb] at hy;cases hy
     |some c =>
      rw[hb] at hy;simp only[F8,C3] at hy;subst hy;refine⟨_,rfl,?_⟩;cases c with
      |none=>trivial
      |some c=>exact A2R hl c
   ·rw[B6 (by simpa[F3] using hi)] at hy;simp only[G1,F3] at hy;rw[hbk,H3] at hy;cases hk:bs[i-t.hp.length]? with
    |none=>rw[hk] at hy;cases hy
    |some k =>
     rw[hk] at hy;simp only[F8,C3] at hy;subst hy;have:=hvn _ k hk;rw[show t.hp.length+(i-t.hp.length)=i from by omega] at this;rw[this];exact⟨_,rfl,R0.refl _⟩
theorem L7.app{s s':AS}(h:L7 s s')(q:HP):L7 { s with hp:=s.hp++q } { s' with hp:=s'.hp++q }:=by
 refine⟨h.len,h.sl,by simp[h.hl],fun i x hx => ?_⟩;replace hx:(s.hp++q)[i]? = some x:=hx;show ∃ y,(s'.hp++q)[i]? = some y∧_;rcases D9 i s.hp.length with hi|hi
 ·rw[B7 hi] at hx;rw[B7 (by rw[h.hl];exact hi)];exact h.hp i x hx
 ·rw[B6 hi] at hx;rw[B6 (by rw[h.hl];exact hi),h.hl];exact⟨x,hx,by cases x;trivial;exact R0.refl _⟩
theorem B4k{Θ:TyO}(x:Operand)(hc:M8 C (D2 n t) a w):M8 C (D2 n (B98 Θ n t x)) a w:=by
 unfold B98;split
 case h_2=>exact hc
 rename_i k;split
 case h_2=>exact hc
 split
 case h_2=>exact hc
 rename_i j off len hx;split
 case h_2=>exact hc
 rename_i T o L e;cases hb:(Nat.beq off 0&&(o||T.flat)) with
 |false=>exact hc
 |true =>
  simp only[A6,F4] at hb;obtain⟨rfl,hof⟩:=hb;simp only[A4];have hj:j<t.hp.length:=(B4.1 e).1;obtain⟨N,M,ℓ,h⟩:=hc.fn;have hlh:(D2 n t).hp.length=t.hp.length:=by rw[E6,F3]
  have hev:(D2 n t).ev (.tmp k)=.ref j L.length 0 len:=by
   rw[J0];show av t.hp (t.get n k)=_;rw[hx];simp only[av,T8 e]
  have r:=h.d.ev (.tmp k);rw[hev] at r;obtain⟨m,L1,q1,q2,q3⟩:=h.hp j (some (tb t.hp (.arr T o L))) (by rw[E6,I1,e];rfl);have hrows:L.map (enc o T)=L.map (enc true T):=by
   refine E4 fun y _ => ?_;unfold enc;cases o with
   |true=>rfl
   |false=>rw[A5w (by simpa using hof)]
  have hml:m.len=L.length:=by have:=q2.len;simpa[tb] using this
  have hfr:m.fr=0:=q2.f0 rfl;have hro:∃ ad cap,a.eval (.tmp k)=.slice ad len cap∧A8A w m 0 len ad cap:=by
   generalize a.eval (.tmp k)=v at r;cases r with
   |ref mm h1 h2 =>
    rw[q1] at h1;cases h1;exact⟨_,_,rfl,(h2 m rfl).2 hml.symm⟩
  obtain⟨ad,cap,hv,hrf⟩:=hro;have hlen:len≤L.length:=by have:=hrf.1;omega
  have htl:(L.take len).length=len:=by simp;omega
  have hrep:I0 w N M m.b m.o ((L.map (enc true T)).flatMap AV.cells) L1:=by have:=q2.rep;simpa[tb,hrows] using this
  have hsp:(L.map (enc true T)).flatMap AV.cells=((L.take len).map (enc true T)).flatMap AV.cells++((L.drop len).map (enc true T)).flatMap AV.cells:=by
   rw[← O1,← G0,G3]
  rw[hsp] at hrep;obtain⟨A,B,hL1,hA,_⟩:=hrep.append
  let m':Cn:={ m with len:=len }
  let n0:=t.hp.length
  let M':MT:=fun i=>if i=j then some none else if i=n0 then some (some m') else M i
  let ℓ':Nat→List (Nat×Nat):=fun i=>if i=j then [] else if i=n0 then H0 m' A else ℓ i
  have hjn:j≠n0:=by omega
  have hM1:M' j=some none:=by simp[M']
  have hM2:M' n0=some (some m'):=by simp[M',Ne.symm hjn]
  have hM3:∀ i,i≠j→i≠n0→M' i=M i∧ℓ' i=ℓ i:=fun i h1 h2=>⟨by simp[M',h1,h2],by simp[ℓ',h1,h2]⟩;have hl1:ℓ' j=[]:=by simp[ℓ']
  have hl2:ℓ' n0=H0 m' A:=by simp[ℓ',Ne.symm hjn]
  have hMn:M n0=none:=h.un n0 (by omega);have g:Gr w w N N M M':=⟨fun _ c _ _ h=>⟨c,h,rfl⟩,fun _ _ _=>rfl,fun _ _ hn=>hn,fun i x hx=>by
   by_cases h1:i=j
   ·exact⟨none,by rw[h1];exact hM1,fun m' hm'=>by cases hm'⟩
   ·by_cases h2:i=n0
    ·rw[h2,hMn] at hx;cases hx
    ·exact⟨x,by rw[(hM3 i h1 h2).1];exact hx,fun m' hm'=>⟨m',hm',.inl rfl⟩⟩⟩
  have hoO:∀ B,H0 m' B=if m.virt=true then [] else(m.b,m.fr) :: B.map fun b=>(b,0):=fun B=>rfl;have hoM:∀ B,H0 m B=if m.virt=true then [] else(m.b,m.fr) :: B.map fun b=>(b,0):=fun B=>rfl;have hsub:∀ p∈H0 m' A,p∈ℓ j:=fun p hp=>by
   rw[q3,hoM];rw[hoO] at hp;by_cases hvt:m.virt=true
   ·rw[E9 hvt] at hp;cases hp
   ·rw[G6 hvt] at hp ⊢;rcases D8.1 hp with hp|hp
    ·exact D8.2 (.inl hp)
    ·refine I7 _ ?_;rw[hL1,G0];exact O3 _ hp
  let kb:Blk:=⟨T.sz,0,(L.take len).map (enc true T),0⟩
  have hBR:BR w N M' kb m' A:=by
   refine⟨by show len=((L.take len).map (enc true T)).length;rw[C7,htl],q2.sz,by have:=q2.fr;simpa[tb,kb] using this,fun y hy => ?_,hA.gr g (fun _ _=>rfl) (fun _ _ _=>rfl),fun e => ?_,fun e => ?_,P1 _,fun i hi=>by simp[kb] at hi,fun _=>hfr⟩
   ·obtain⟨z,_,rfl⟩:=C5.1 hy;show(enc true T z).cells.length=T.sz;rw[N6,O0]
   ·have:=q2.vt e;have hL:L=[]:=by simpa[tb] using this
    simp[kb,hL]
   ·obtain⟨c,ee,fz,r1,r2,r3⟩:=q2.rm e;refine⟨c,ee,fz,r1,S2 (i5 (O2 _ ?_) _) r2,r3⟩;show len≤m.len;omega
  let s1:AS:={ D2 n t with hp:=K8 (F1 t.hp) [j]++[some kb] }
  have hs1:s1.hp.length=n0+1:=by show(K8 (F1 t.hp) [j]++[some kb]).length=_;rw[A5,S9,F3];rfl
  have main:R9 C s1 a w N M' ℓ':=by
   refine⟨h.df,h.sl.gr g (fun _ hb=>by cases hb),fun i x hx => ?_,fun i hi => ?_,fun i i' hi hi' hne p hp q hq => ?_,fun i hi p hp => ?_,h.nlt,h.nup,h.ndn,h.fr,fun k hk => ?_,fun k m1 m0 h1 h0 => ?_,fun k hk=>h.mz k (by rw[hlh];omega)⟩
   ·replace hx:(K8 (F1 t.hp) [j]++[some kb])[i]? = some x:=hx;rcases D9 i n0 with hi|hi
    ·rw[B7 (by rw[S9,F3];exact hi),A0o] at hx;by_cases hij:i=j
     ·subst hij;rw[E9 (by simp),E9 (by rw[F3];exact hi)] at hx;cases hx;exact⟨hM1,hl1⟩
     ·rw[G6 (by simpa using hij)] at hx;obtain⟨g1,g2⟩:=hM3 i hij (by omega);have:=h.hp i x (by rw[E6];exact hx);rw[g2];cases x with
      |none=>exact⟨by rw[g1];exact this.1,this.2⟩
      |some x =>
       obtain⟨m2,L2,e1,e2,e3⟩:=this;exact⟨m2,L2,by rw[g1];exact e1,e2.gr g (fun _ _ _=>rfl),e3⟩
    ·rw[B6 (by rw[S9,F3];exact hi),S9,F3] at hx;have:i=n0:=by
      have:=(B4.1 hx).1;simp only[J5] at this;show i=t.hp.length;omega
     subst this;rw[show n0-t.hp.length=0 from R7 _] at hx;cases hx;exact⟨m',A,hM2,hBR,hl2⟩
   ·rw[hs1] at hi;by_cases h1:i=j
    ·rw[h1,hl1];simp
    ·by_cases h2:i=n0
     ·rw[h2,hl2];have hn:=h.nd j (by rw[hlh];exact hj);rw[q3,hoM] at hn;rw[hoO];by_cases hvt:m.virt=true
      ·rw[E9 hvt];simp
      ·rw[G6 hvt] at hn ⊢;rw[hL1] at hn;simp only[G0,F6] at hn ⊢;refine List.Nodup.sublist ?_ hn;exact List.Sublist.cons_cons _ (List.sublist_append_left _ _)
     ·rw[(hM3 i h1 h2).2];exact h.nd i (by rw[hlh];omega)
   ·rw[hs1] at hi hi';have key:∀ i,i<n0+1→∀ p∈ℓ' i,∃ z,z<n0∧p∈ℓ z∧((i=n0∧z=j)∨(i=z∧i≠j)):=fun i hi p hp=>by
     by_cases h1:i=j
     ·rw[h1,hl1] at hp;cases hp
     ·by_cases h2:i=n0
      ·rw[h2,hl2] at hp;exact⟨j,hj,hsub p hp,.inl ⟨h2,rfl⟩⟩
      ·rw[(hM3 i h1 h2).2] at hp;exact⟨i,by omega,hp,.inr ⟨rfl,h1⟩⟩
    obtain⟨z,z1,z2,z3⟩:=key i hi p hp;obtain⟨z',y1,y2,y3⟩:=key i' hi' q hq;exact h.dj z z' (by rw[hlh];exact z1) (by rw[hlh];exact y1) (by omega) p z2 q y2
   ·rw[hs1] at hi;by_cases h1:i=j
    ·rw[h1,hl1] at hp;cases hp
    ·by_cases h2:i=n0
     ·rw[h2,hl2] at hp;exact h.own j (by rw[hlh];exact hj) p (hsub p hp)
     ·rw[(hM3 i h1 h2).2] at hp;exact h.own i (by rw[hlh];omega) p hp
   ·rw[hs1] at hk;rw[(hM3 k (by omega) (by omega)).1];exact h.un k (by rw[hlh];omega)
   ·by_cases h2:k=j
    ·rw[h2,hM1] at h1;cases h1
    ·by_cases h3:k=n0
     ·rw[h.mz k (by rw[hlh,h3];exact B9 _)] at h0;cases h0
     ·rw[(hM3 k h2 h3).1] at h1;exact h.mv k m1 m0 h1 h0
  have hrep2:Rep w N M' (.ref n0 len 0 len) (a.eval (.tmp k)) []:=by
   rw[hv];refine .ref _ hM2 fun m2 e2 => ?_;cases e2;exact⟨B9 _,fun _=>⟨by show 0+len≤len;omega,hrf.2⟩⟩
  let u:TS:=(t.kill [j]).new [.arr T true (L.take len)]
  have hkl:(t.kill [j]).hp.length=n0:=by show(setAll (Z8 _ t.hp) [j]).length=_;simp[setAll,P8,n0]
  have hle:L7 s1 (D2 n u):=by
   refine((L7.kill (n:=n) (t:=t) [j]).app [some kb]).trans ?_;rw[E6];exact L7.new (n:=n) (t:=t.kill [j]) (.arr T true (L.take len)) (R0.refl _)
  have hun:hpk u.hp n0=some (some len):=by
   have:u.hp[n0]? = some (some (.arr T true (L.take len))):=by rw[← hkl];exact A2C (t:=t.kill [j]) _
   rw[T8 this,htl]
  rw[T9];have hput:=main.d.put (some k) hrep2;have hid:a.put (some k) (a.eval (.tmp k))=a:=by
   cases a with
   |mk tmps defers =>
    simp only[Act.put,Act.eval];congr 1;apply Array.ext
    ·simp
    ·intro i h1 h2;rw[A1t];split
     ·rename_i e;subst e;simp[Array.getD,h2]
     ·rfl
  rw[hid] at hput;refine(L7.put hle (some k) ?_).conc ⟨_,_,_,hput⟩;rw[t9 hun];exact Im.refl _
end
theorem A5e{C:Ctx}{n:Nat}{a:Act}{w:World}:(rs:List NR)→(t:TS)→M8 C (D2 n t) a w→M8 C (D2 n (A8m n t rs)) a w
 |[],_,hc=>hc
 |.t k :: rs,t,hc=>A5e rs _ (B4k (.tmp k) hc)
 |.c _ _ _ :: rs,t,hc=>A5e rs t hc
open Go Go.RowKit
theorem B2n(a b:List AV):ciL (a++b)=(ciL a&&ciL b):=by simp[A1e]
theorem A2y:∀ (T:Ty) (x:Den T),ciL (cls false T x)=true:=by
 intro T;induction T with
 |i|bl|tx=>intro x;rfl
 |ar n k =>
  intro x;simp only[cls,arC];rw[A1e,D6];intro c hc;obtain⟨y,_,rfl⟩:=C5.1 hc;rfl
 |sl t ih|sv t ih =>
  intro x;simp only[cls,ciL,ci,N3,P4,U6];rw[A1e,D6];intro c hc;obtain⟨y,_,rfl⟩:=C5.1 hc;show ci (mkr t.ag (cls false t y))=true;have:=ih y;unfold mkr;split
  ·exact this
  ·generalize cls false t y=l at this;cases l with
   |nil=>rfl
   |cons c l=>simp only[ciL,A6] at this;exact this.1
 |pr a b iha ihb=>intro x;simp only[cls,B2n,iha,ihb];rfl
 |st t ih=>intro x;exact ih x
theorem C7h{ag:Bool}{l:List AV}(h:ciL l=true):ci (mkr ag l)=true:=by
 unfold mkr;split
 ·exact h
 ·cases l with
  |nil=>rfl
  |cons c l=>simp only[ciL,A6] at h;exact h.1
theorem A4T(T:Ty)(x:Den T):ci (enc false T x)=true:=C7h (A2y T x)
theorem A34{hp:HP}{n:Nat}:∀ {xs:List AV},ciL xs=true→xs.map (vw hp n)=xs
 |[],_=>rfl
 |x :: xs,h=>by
  simp only[ciL,A6] at h;rw[F6,A0F h.1,A34 h.2]
theorem B8D(ag:Bool)(l:List AV):imm (mkr ag l)=mkr ag (A0c l):=by
 unfold mkr;split
 ·rfl
 ·cases l<;>rfl
mutual
theorem C0M:∀ (x:AV),ci x=true→imm x=x
 |.any,_=>rfl
 |.val _,_=>rfl
 |.agg cs,h=>by simp only[ci] at h;simp only[imm,A3t cs h]
 |.tup cs,h=>by simp only[ci] at h;simp only[imm,A3t cs h]
 |.sl o _ rows,h=>by
  simp only[ci,A6,M6] at h;simp only[imm,A3t rows h.2,h.1]
 |.ref ..,h=>by cases h
 |.ptr ..,h=>by cases h
 |.ipt cs,h=>by simp only[ci] at h;simp only[imm,A3t cs h]
 |.fn _ cs,h=>by simp only[ci] at h;simp only[imm,A3t cs h]
theorem A3t:∀ (xs:List AV),ciL xs=true→A0c xs=xs
 |[],_=>rfl
 |x :: xs,h=>by
  simp only[ciL,A6] at h;simp only[A0c,C0M x h.1,A3t xs h.2]
end
theorem B7b(H:HP):∀ (T:Ty) (x:Den T),A0c (cls true T x)=cls false T x∧(∀ n,(cls true T x).map (vw H n)=cls false T x)∧(ciL (cls true T x)=true→cls true T x=cls false T x):=by
 intro T;induction T with
 |i|bl|tx=>intro x;exact⟨rfl,fun n=>A34 rfl,fun _=>rfl⟩
 |ar m k=>intro x;exact⟨A3t _ (A2y (.ar m k) x),fun n=>A34 (A2y (.ar m k) x),fun _=>rfl⟩
 |sv t _=>intro x;exact⟨A3t _ (A2y (.sv t) x),fun n=>A34 (A2y (.sv t) x),fun _=>rfl⟩
 |sl t ih =>
  intro x;have him:∀ y,imm (mkr t.ag (cls true t y))=mkr t.ag (cls false t y):=fun y=>by rw[B8D,(ih y).1]
  have hvw:∀ n y,vw H n (mkr t.ag (cls true t y))=mkr t.ag (cls false t y):=fun n y=>by
   cases hag:t.ag with
   |false =>
    have h1:(cls true t y).length=1:=by rw[O0];exact A5Z hag
    have h2:(cls false t y).length=1:=by rw[O0];exact A5Z hag
    have:=(ih y).2.1 n;match h3:cls true t y,h4:cls false t y,h1,h2 with
    |[c],[c'],_,_ =>
     rw[h3,h4] at this;simpa[mkr] using this
   |true =>
    simp only[mkr,H1];cases hc:ci (.agg (cls true t y)) with
    |true=>rw[A0F hc,(ih y).2.2 hc]
    |false =>
     cases n with
     |zero=>simp only[vw,hc,E0,E5,imm,(ih y).1]
     |succ n=>simp only[vw,hc,E0,E5,(ih y).2.1 n]
  refine⟨?_,fun n => ?_,fun h => ?_⟩
  ·simp only[cls,A0c,imm];rw[A0z,H7];congr 2;exact E4 fun y _=>him y
  ·simp only[cls,F6,U3];have hc:ci (.sl true t.sz (x.map fun y=>mkr t.ag (cls true t y)))=false:=by simp[ci]
   congr 1;cases n with
   |zero =>
    simp only[vw,hc,E0,E5,imm,A0z,H7];congr 1;exact E4 fun y _=>him y
   |succ n =>
    simp only[vw,hc,E0,E5,H7];congr 1;exact E4 fun y _=>hvw n y
  ·simp[cls,ciL,ci] at h
 |pr a b iha ihb =>
  intro x;refine⟨?_,fun n => ?_,fun h => ?_⟩
  ·simp only[cls];rw[A0z,G0,← A0z,← A0z,(iha x.1).1,(ihb x.2).1]
  ·simp only[cls,G0,(iha x.1).2.1 n,(ihb x.2).2.1 n]
  ·simp only[cls,B2n,A6] at h ⊢;rw[(iha x.1).2.2 h.1,(ihb x.2).2.2 h.2]
 |st t ih=>intro x;exact ih x
theorem C7P(H:HP)(n:Nat)(T:Ty)(o:Bool)(x:Den T):vw H n (enc o T x)=enc false T x:=by
 cases o with
 |false=>exact A0F (A4T T x)
 |true =>
  have:=(B7b H (.sl T) [x]).2.1 (n+1);simp only[cls,F6,U3] at this;have hc:ci (.sl true T.sz [mkr T.ag (cls true T x)])=false:=by simp[ci]
  simp only[vw,hc,E0,E5,F6,U3,A6F,AV.sl.injEq,and_true,A8H] at this;exact this
open Go Go.RowKit
theorem C6i(o:Bool)(T:Ty)(x:Den T):imm (enc o T x)=enc false T x:=by
 cases o with
 |false=>exact C0M _ (A4T T x)
 |true=>unfold enc;rw[B8D,(B7b [] T x).1]
section
variable {C:Ctx} {s:AS} {a:Act} {w:World} {N N':NT} {M:MT} {ℓ:Nat→List (Nat×Nat)}
theorem R9.moreN(h:R9 C s a w N M ℓ)(hN:∀ b o,N b o→N' b o)(hlt:∀ b o,N' b o→b<w.heap.size)(hdn:∀ b o,N' b o→C.N0 b o∨C.w0.heap.size≤b∨b∈C.X)
  (how:∀ i,i<s.hp.length→∀ p∈ℓ i,∀ o,N' p.1 o→o<p.2):R9 C s a w N' M ℓ:=by
 have g:Gr w w N N' M M:=⟨fun _ c _ _ h=>⟨c,h,rfl⟩,fun _ _ _=>rfl,hN,fun i x hx=>⟨x,hx,fun m' hm'=>⟨m',hm',.inl rfl⟩⟩⟩;refine⟨h.df,h.sl.gr g (fun _ hb=>by cases hb),fun i x hx => ?_,h.nd,h.dj,fun i hi p hp=>⟨(h.own i hi p hp).1,(h.own i hi p hp).2.1,how i hi p hp⟩,hlt,fun b o hn=>hN b o (h.nup b o hn),hdn,h.fr,h.un,h.mv,h.mz⟩;have:=h.hp i x hx;cases x with
 |none=>exact this
 |some x =>
  obtain⟨m,L1,e1,e2,e3⟩:=this;exact⟨m,L1,e1,e2.gr g (fun _ _ _=>rfl),e3⟩
end
section
variable {n:Nat} {t:TS} {C:Ctx} {a:Act} {w:World}
theorem A8B(a:Act)(k:Nat):a.put (some k) (a.eval (.tmp k))=a:=by
 cases a with
 |mk tmps defers =>
  simp only[Act.put,Act.eval];congr 1;apply Array.ext
  ·simp
  ·intro i h1 h2;rw[A1t];split
   ·rename_i e;subst e;simp[Array.getD,h2]
   ·rfl
theorem B7g{w:World}{N N':NT}{M M':MT}{T:Ty}{o:Bool}{L:List (Den T)}{b:Blk}{m:Cn}{L1:List Nat}{j off len:Nat}{v:Value}(hb:b.rows=L.map (enc o T))(hsz:b.sz=T.sz)(hM:M j=some (some m))(q:BR w N M b m L1)
  (hN:∀ b o,N b o→N' b o) (hL:∀ x∈L1,∀ o,N' x o) (hm:m.virt=false→∀ i,i<len*T.sz→N' m.b (m.o+off*T.sz+i)) (r:Rep w N M (.ref j L.length off len) v []):Rep w N' M' (enc false (.sl T) ((L.drop off).take len)) v []:=by
 have hml:m.len=L.length:=by rw[q.len,hb,C7]
 have hms:m.sz=T.sz:=by rw[q.sz,hsz]
 cases r with
 |ref mm h1 h2 =>
  rw[hM] at h1;cases h1;obtain⟨h3,h4⟩:=(h2 m rfl).2 hml.symm;have hen:enc false (.sl T) ((L.drop off).take len)=.sl false T.sz (((L.drop off).take len).map (enc false T)):=rfl;rw[hen];have hlen:((L.drop off).take len).length=len:=by simp;omega
  rcases h4 with⟨rfl,rfl⟩|⟨hv,rfl,h5,h6⟩
  ·rw[show(L.drop off).take 0=[] from by simp];exact .slI0 _ _ _
  ·obtain⟨K1,K2,K3,hK,r⟩:=q.rep.rows q.cl off len (by rw[hb,C7];omega);have r2:=r.imm (M':=M') hN (fun x hx=>hL x (by rw[hK];simp[hx]));rw[← A7G,hb] at r2;have e:A0c (((L.map (enc o T)).drop off).take len)=((L.drop off).take len).map (enc false T):=by
    rw[A0z,← W7,← W0,H7];exact E4 fun y _=>C6i o T y
   rw[e] at r2;have r3:I0 w N' M' m.b (m.o+off*m.sz) ((((L.drop off).take len).map (enc false T)).flatMap AV.cells) []:=by
    rw[hms,← hsz];exact r2
   rename_i cap;have hlm:(((L.drop off).take len).map (enc false T)).length=len:=by rw[C7,hlen]
   have:=Rep.slI (cap:=cap) r3 (sz:=T.sz) (fun y hy=>by
    obtain⟨z,_,rfl⟩:=C5.1 hy;rw[N6,O0]) (fun i hi=>by
     rw[hlm] at hi;rw[hms];exact hm hv i hi) (by rw[hlm];exact h5)
   rw[hlm] at this;exact this
theorem B4A{hp:THP}{x:TV}{j:Nat}{T:Ty}{L':List (Den T)}(h:A71 hp x=some (j,⟨T,L'⟩)) :
  ∃ (b:TB) (o:Bool) (L:List (Den T)) (off len:Nat),hp[j]? = some (some b)∧(tb hp b).rows=L.map (enc o T)∧(tb hp b).sz=T.sz∧av hp x=.ref j L.length off len∧L'=(L.drop off).take len:=by
 unfold A71 at h;split at h
 ·split at h
  ·rename_i A o L e;cases h;exact⟨_,o,L',0,L'.length,e,rfl,rfl,by simp only[av,T8 e],by simp⟩
  ·rename_i A L e;cases h;exact⟨_,false,L',0,L'.length,e,rfl,rfl,by simp only[av,A5s e],by simp⟩
  ·cases h
 ·rename_i j' off len;split at h
  ·rename_i A o L e;cases h;exact⟨_,o,L,off,len,e,rfl,rfl,by simp only[av,T8 e],rfl⟩
  ·cases h
 ·cases h
theorem B1q{j:Nat}{T:Ty}{L':List (Den T)}{c0:TV}(hs:A71 t.hp c0=some (j,⟨T,L'⟩))(hc:M8 C (D2 n t) a w) :
  ∃ N M ℓ N' M1 ℓ1,R9 C (D2 n t) a w N M ℓ∧R9 C { D2 n t with hp:=K8 (D2 n t).hp [j] } a w N' M1 ℓ1∧∀ c T' L2 u,A71 t.hp c=some (j,⟨T',L2⟩)→Rep w N M (av t.hp c) u []→Rep w N' M1 (enc false (.sl T') L2) u []:=by
 obtain⟨b,o,L,off,len,e,h1,h2,h3,rfl⟩:=B4A hs;have hj:j<t.hp.length:=(B4.1 e).1;have hlh:(D2 n t).hp.length=t.hp.length:=by rw[E6,F3]
 obtain⟨N,M,ℓ,h⟩:=hc.fn;obtain⟨m,L1,q1,q2,q3⟩:=h.hp j (some (tb t.hp b)) (by rw[E6,I1,e];rfl);obtain⟨M1,ℓ1,k1,k2,k3⟩:=h.kill2 (l:=[j]) (fun m hm=>by simp only[C1] at hm;omega)
 let N':NT:=fun b o=>N b o∨∃ p∈ℓ j,p.1=b
 have hN:∀ b o,N b o→N' b o:=fun b o h=>.inl h;have hown:m.virt=false→(m.b,m.fr)∈ℓ j∧∀ x∈L1,(x,0)∈ℓ j:=fun hv=>by
  rw[q3,H0,G6 (by rw[hv];simp)];exact⟨by simp,fun x hx=>by simp[hx]⟩
 have hL1:∀ x∈L1,∀ o,N' x o:=fun x hx o=>by
  cases hv:m.virt with
  |false=>exact .inr ⟨_,(hown hv).2 x hx,rfl⟩
  |true =>
   have hr:=q2.rep;rw[q2.vt hv] at hr;cases hr;cases hx
 have main:R9 C { D2 n t with hp:=K8 (D2 n t).hp [j] } a w N' M1 ℓ1:=by
  refine k1.moreN hN (fun b o hb => ?_) (fun b o hb => ?_) (fun i hi p hp o hb => ?_)
  ·rcases hb with hb|⟨p,hp,rfl⟩
   ·exact h.nlt b o hb
   ·exact(h.own j (by rw[hlh];exact hj) p hp).1
  ·rcases hb with hb|⟨p,hp,rfl⟩
   ·exact h.ndn b o hb
   ·exact .inr (h.own j (by rw[hlh];exact hj) p hp).2.1
  ·have hi':i<(D2 n t).hp.length:=by
    have:(K8 (D2 n t).hp [j]).length=(D2 n t).hp.length:=S9 _ _;replace hi:i<(K8 (D2 n t).hp [j]).length:=hi;omega
   obtain⟨g1,g2⟩:=k2 i p hp;rcases hb with hb|⟨q,hq,e⟩
   ·exact(h.own i hi' p g2).2.2 o hb
   ·exact absurd e (h.dj j i (by rw[hlh];exact hj) hi' (fun e=>g1 (by simp[e])) q hq p g2)
 refine⟨N,M,ℓ,N',M1,ℓ1,h,main,fun c T' L2 u hs' r' => ?_⟩;obtain⟨b',o',L',off',len',e',h1',h2',h3',rfl⟩:=B4A hs';rw[e] at e';cases e';rw[h3'] at r';exact B7g h1' h2' q1 q2 hN hL1 (fun hv i _=>.inr ⟨_,(hown hv).1,rfl⟩) r'
theorem B8C{w:World}{N:NT}{M:MT}:∀ {xs:List AV} {vs:List Value},F5 w N M xs vs []→∀ (i:Nat) (x:AV) (v:Value),xs[i]? = some x→vs[i]? = some v→Rep w N M x v []
 |[],_,_,i,x,v,hx,_=>by simp at hx
 |y :: ys,vs,h,i,x,v,hx,hv=>by
  generalize hL:([]:List Nat)=LL at h;cases h with
  |@cons _ v0 L1 L2 _ vs0 r1 r2 =>
  have h1:L1=[]:=(G9.1 hL.symm).1;have h2:L2=[]:=(G9.1 hL.symm).2;subst h1;subst h2;cases i with
  |zero=>simp only[E8,C3] at hx hv;subst hx;subst hv;exact r1
  |succ i=>simp only[A0K] at hx hv;exact B8C r2 i x v hx hv
theorem B6K{w:World}{N:NT}{M:MT}:∀ {xs:List AV} {vs:List Value},F5 w N M xs vs []→∀ (i:Nat) (y:AV),(∀ v,vs[i]? = some v→Rep w N M y v [])→F5 w N M (xs.set i y) vs []
 |[],_,h,i,y,hy=>by simpa using h
 |x :: xs,vs,h,i,y,hy=>by
  generalize hL:([]:List Nat)=LL at h;cases h with
  |@cons _ v0 L1 L2 _ vs0 r1 r2 =>
  have h1:L1=[]:=(G9.1 hL.symm).1;have h2:L2=[]:=(G9.1 hL.symm).2;subst h1;subst h2;cases i with
  |zero=>exact .cons (hy v0 rfl) r2
  |succ i=>exact .cons r1 (B6K r2 i y fun v hv=>hy v (by simpa using hv))
theorem C2h(k i:Nat)(hc:M8 C (D2 n t) a w):M8 C (D2 n (C3B n t k i)) a w:=by
 unfold C3B;split
 case h_2=>exact hc
 rename_i cs hk;split
 case h_2=>exact hc
 rename_i c hci;split
 case h_2=>exact hc
 rename_i j T L' hs;split
 case h_2=>exact hc
 rename_i cs' hk';obtain⟨N,M,ℓ,N',M1,ℓ1,h,main,hrep⟩:=B1q hs hc;have h1:=(L7.kill (n:=n) (t:=t) [j]).concF main;have r0:=h.d.ev (.tmp k);have r1:=h1.d.ev (.tmp k);have e0:(D2 n t).ev (.tmp k)=.agg (avL t.hp cs):=by
  rw[J0];show av t.hp (t.get n k)=_;rw[hk,av]
 have e1:(D2 n (t.kill [j])).ev (.tmp k)=.agg (avL (t.kill [j]).hp cs'):=by
  rw[J0];show av (t.kill [j]).hp ((t.kill [j]).get n k)=_;rw[hk',av]
 rw[e0] at r0;rw[e1] at r1;have r2:Rep w N' M1 (av (t.kill [j]).hp (.ag (cs'.set i (.v (.sl T) L')))) (a.eval (.tmp k)) []:=by
  have e2:av (t.kill [j]).hp (.ag (cs'.set i (.v (.sl T) L')))=.agg ((avL (t.kill [j]).hp cs').set i (enc false (.sl T) L')):=by
   rw[av,O8,O8,A2o];rfl
  rw[e2];generalize a.eval (.tmp k)=u at r0 r1;cases r0 with
  |agg r0 =>
  cases r1 with
  |agg r1 =>
  refine .agg (B6K r1 i _ fun v hv => ?_);refine hrep c T L' v hs (B8C r0 i _ v ?_ hv);rw[O8,H3,hci];rfl
 have hput:=h1.d.put (some k) r2;rw[A8B] at hput;rw[T9];exact⟨_,_,_,hput⟩
theorem B4I(k:Nat):∀ (i:Nat) (t:TS),M8 C (D2 n t) a w→M8 C (D2 n (C4s n k i t)) a w
 |0,t,h=>h
 |i+1,t,h=>B4I k i _ (C2h k i h)
theorem B7s(k:Nat)(hc:M8 C (D2 n t) a w):M8 C (D2 n (see n t k)) a w:=by
 unfold see;split
 case h_2 =>
  split
  ·exact B4I k _ t hc
  ·exact hc
 rename_i j T L' hs;obtain⟨N,M,ℓ,N',M1,ℓ1,h0,main,hrep⟩:=B1q hs hc;have r0:=h0.d.ev (.tmp k);rw[J0] at r0;have hput:=main.d.put (some k) (hrep (t.get n k) T L' _ hs r0);rw[A8B] at hput;rw[T9];refine(L7.put (L7.kill (n:=n) (t:=t) [j]) (some k) ?_).conc ⟨_,_,_,hput⟩;exact Im.refl _
theorem A6B{N':NT}{M1:MT}{Lx:List (Nat×Nat)}{j:Nat}(hrep:∀ k' T' L2,A71 t.hp (t.get n k')=some (j,⟨T',L2⟩)→Rep w N' M1 (enc false (.sl T') L2) (a.eval (.tmp k')) []) :
  ∀ (ks:List Nat) (t':TS),H4 C (D2 n t') a w N' M1 Lx→H4 C (D2 n (B3G n t j ks t')) a w N' M1 Lx
 |[],_,h=>h
 |k :: ks,t',h=>by
  rw[B3G];split
  ·rename_i j' T L2 hs;cases hb:Nat.beq j j' with
   |false=>exact A6B hrep ks t' h
   |true =>
    have hj:j=j':=Nat.eq_of_beq_eq_true hb;subst hj;rw[A4];refine A6B hrep ks _ ?_;have hput:=h.put (some k) (hrep k T L2 hs);rw[A8B] at hput;rw[T9];exact hput
  ·exact A6B hrep ks t' h
theorem C1z(k:Nat)(hc:M8 C (D2 n t) a w):M8 C (D2 n (C3M n t k)) a w:=by
 unfold C3M;split
 case h_2=>exact hc
 rename_i j x hs;obtain⟨T,L'⟩:=x;obtain⟨N,M,ℓ,N',M1,ℓ1,h0,main,hrep⟩:=B1q hs hc;have h1:=(L7.kill (n:=n) (t:=t) [j]).concF main;refine⟨_,_,_,A6B (fun k' T' L2 hs' => ?_) _ _ h1.d⟩;have r0:=h0.d.ev (.tmp k');rw[J0] at r0;exact hrep (t.get n k') T' L2 _ hs' r0
theorem A9g{Θ:TyO}(x:Operand)(hc:M8 C (D2 n t) a w):M8 C (D2 n (B6b Θ n t x)) a w:=by
 unfold B6b;split
 ·rename_i k;cases C5Q (A6M Θ k) with
  |true=>exact B7s k hc
  |false =>
   cases C05 (A6M Θ k) with
   |true=>exact C1z k hc
   |false=>exact hc
 ·exact hc
end
theorem B4o{Θ:TyO}{n:Nat}{C:Ctx}{a:Act}{w:World}:(ps:List (Nat×Nat×Operand))→(t:TS)→M8 C (D2 n t) a w→M8 C (D2 n (C3k Θ n t ps)) a w
 |[],_,hc=>hc
 |(_,_,x) :: ps,t,hc=>B4o ps _ (A9g x hc)
theorem B4L{Θ:TyO}{n:Nat}{C:Ctx}{a:Act}{w:World}:(ps:List (Nat×Operand))→(t:TS)→M8 C (D2 n t) a w→M8 C (D2 n (C39 Θ n t ps)) a w
 |[],_,hc=>hc
 |(_,x) :: ps,t,hc=>B4L ps _ (A9g x hc)
theorem A3p{n:Nat}{C:Ctx}{a:Act}{w:World}:(bs:List Bool)→(rs:List NR)→(t:TS)→M8 C (D2 n t) a w→M8 C (D2 n (A9B n t bs rs)) a w
 |true :: bs,.t k :: rs,t,hc=>A3p bs rs _ (B7s k hc)
 |true :: bs,.c _ _ _ :: rs,t,hc=>A3p bs rs t hc
 |false :: bs,.t _ :: rs,t,hc=>A3p bs rs t hc
 |false :: bs,.c _ _ _ :: rs,t,hc=>A3p bs rs t hc
 |[],[],_,hc=>hc
 |[],_ :: _,_,hc=>hc
 |_ :: _,[],t,hc=>by
  have:∀ b bs,A9B n t (b :: bs) []=t:=fun b bs=>by cases b<;>rfl
  rw[this];exact hc
section
variable {n:Nat} {t:TS} {C:Ctx} {a:Act} {w:World}
theorem A9h(T:Ty)(L:List (Den T)):∀ c∈(L.map (enc false T)).flatMap AV.cells,c.bare1=true:=by
 intro c hc;obtain⟨y,hy,hc⟩:=J6.1 hc;obtain⟨z,_,rfl⟩:=C5.1 hy;rw[N6] at hc;exact A1z T z c hc
theorem Get.frz{s:AS}{j k:Nat}{b:Blk}(hj:s.hp[j]? = some (some b))(hbare:∀ c∈b.rows.flatMap AV.cells,c.bare1=true)(hk:s.ev (.tmp k)=.ref j b.rows.length 0 b.rows.length) :
  Get s (AS.put { s with hp:=K8 s.hp [j]++[some { b with lo:=b.rows.length,fz:=b.rows.length }] } (some k) (.ref s.hp.length b.rows.length 0 b.rows.length)):=fun C a w hc=>by
 have hjl:j<s.hp.length:=(B4.1 hj).1;obtain⟨N,M,ℓ,h⟩:=hc.fn;have r:=h.d.ev (.tmp k);rw[hk] at r;obtain⟨m,L1,q1,q2,q3⟩:=h.hp j (some b) hj;have hL1:L1=[]:=q2.rep.bare hbare;subst hL1
 let l:=b.rows.length
 have hml:m.len=l:=q2.len
 let f':Nat:=if l=0 then m.fr else m.o+l*m.sz
 let m':Cn:={ m with fr:=f' }
 have hfr:m.fr≤f':=by
  by_cases hl:l=0
  ·simp only[f',E9 hl];exact B9 _
  ·simp only[f',G6 hl];refine S2 q2.fr (i5 ?_ _);rw[q2.sz];exact O2 _ q2.lo
 let N':NT:=fun x o=>N x o∨(x=m.b∧m.virt=false∧o<f'∧l≠0∧m.o≤o)
 let n0:=s.hp.length
 let M':MT:=fun i=>if i=j then some none else if i=n0 then some (some m') else M i
 let ℓ':Nat→List (Nat×Nat):=fun i=>if i=j then [] else if i=n0 then H0 m' [] else ℓ i
 have hjn:j≠n0:=by omega
 have hM1:M' j=some none:=by simp[M']
 have hM2:M' n0=some (some m'):=by simp[M',Ne.symm hjn]
 have hM3:∀ i,i≠j→i≠n0→M' i=M i∧ℓ' i=ℓ i:=fun i h1 h2=>⟨by simp[M',h1,h2],by simp[ℓ',h1,h2]⟩;have hl1:ℓ' j=[]:=by simp[ℓ']
 have hl2:ℓ' n0=H0 m' []:=by simp[ℓ',Ne.symm hjn]
 have hMn:M n0=none:=h.un n0 (B9 _);have hN:∀ x o,N x o→N' x o:=fun x o h=>.inl h;have g:Gr w w N N' M M':=⟨fun _ c _ _ h=>⟨c,h,rfl⟩,fun _ _ _=>rfl,hN,fun i x hx=>by
  by_cases h1:i=j
  ·exact⟨none,by rw[h1];exact hM1,fun m' hm'=>by cases hm'⟩
  ·by_cases h2:i=n0
   ·rw[h2,hMn] at hx;cases hx
   ·exact⟨x,by rw[(hM3 i h1 h2).1];exact hx,fun m' hm'=>⟨m',hm',.inl rfl⟩⟩⟩
 have hoO:H0 m' []=if m.virt=true then [] else [(m.b,f')]:=rfl
 have hoM:H0 m []=if m.virt=true then [] else [(m.b,m.fr)]:=rfl
 have hfst:∀ p∈H0 m' [],∃ q∈ℓ j,q.1=p.1∧m.virt=false∧p=(m.b,f'):=fun p hp=>by
  rw[hoO] at hp;by_cases hvt:m.virt=true
  ·rw[E9 hvt] at hp;cases hp
  ·rw[G6 hvt] at hp;simp only[C1] at hp;subst hp;refine⟨(m.b,m.fr),?_,rfl,by simpa using hvt,rfl⟩;rw[q3,hoM,G6 hvt];simp
 let kb:Blk:={ b with lo:=l,fz:=l }
 have hBR:BR w N' M' kb m' []:=by
  refine⟨hml,q2.sz,?_,q2.cl,q2.rep.gr g (fun _ _=>rfl) (fun _ hb=>by cases hb),q2.vt,q2.rm,B9 _,fun i hi => ?_,fun e => ?_⟩
  ·show f'≤m.o+l*b.sz;by_cases hl:l=0
   ·simp only[f',E9 hl];have h1:=q2.fr;have h2:=q2.lo;have:b.lo=0:=by have:b.lo≤l:=h2;omega
    rw[this] at h1;rw[hl];exact h1
   ·simp only[f',G6 hl];rw[q2.sz];exact B9 _
  ·replace hi:i<l*b.sz:=hi;have hl:l≠0:=fun e=>by rw[e] at hi;simp at hi
   refine .inr ⟨rfl,?_,?_,hl,w4 _ _⟩
   ·cases hv:m.virt with
    |false=>rfl
    |true=>exact absurd (by show b.rows.length=0;rw[q2.vt hv];rfl) hl
   ·show m.o+i<f';simp only[f',G6 hl];rw[q2.sz];omega
  ·show f'=0;have hl:l=0:=e;simp only[f',E9 hl];refine q2.f0 ?_;have:b.lo≤l:=q2.lo;omega
 have hs1:(K8 s.hp [j]++[some kb]).length=n0+1:=by rw[A5,S9];rfl
 have main:R9 C { s with hp:=K8 s.hp [j]++[some kb] } a w N' M' ℓ':=by
  refine⟨h.df,h.sl.gr g (fun _ hb=>by cases hb),fun i x hx => ?_,fun i hi => ?_,fun i i' hi hi' hne p hp q hq => ?_,fun i hi p hp => ?_,fun x o hx => ?_,fun x o hx=>hN x o (h.nup x o hx),fun x o hx => ?_,h.fr,fun k hk => ?_,fun k m1 m0 h1 h0 => ?_,fun k hk=>h.mz k ?_⟩
  ·replace hx:(K8 s.hp [j]++[some kb])[i]? = some x:=hx;rcases D9 i n0 with hi|hi
   ·rw[B7 (by rw[S9];exact hi),A0o] at hx;by_cases hij:i=j
    ·subst hij;rw[E9 (by simp),E9 hi] at hx;cases hx;exact⟨hM1,hl1⟩
    ·rw[G6 (by simpa using hij)] at hx;obtain⟨g1,g2⟩:=hM3 i hij (by omega);have:=h.hp i x hx;rw[g2];cases x with
     |none=>exact⟨by rw[g1];exact this.1,this.2⟩
     |some x =>
      obtain⟨m2,L2,e1,e2,e3⟩:=this;exact⟨m2,L2,by rw[g1];exact e1,e2.gr g (fun _ _ _=>rfl),e3⟩
   ·rw[B6 (by rw[S9];exact hi),S9] at hx;have:i=n0:=by
     have:=(B4.1 hx).1;simp only[J5] at this;show i=s.hp.length;omega
    subst this;rw[show n0-s.hp.length=0 from R7 _] at hx;cases hx;exact⟨m',[],hM2,hBR,hl2⟩
  ·replace hi:i<(K8 s.hp [j]++[some kb]).length:=hi;rw[hs1] at hi;by_cases h1:i=j
   ·rw[h1,hl1];simp
   ·by_cases h2:i=n0
    ·rw[h2,hl2,hoO];split<;>simp
    ·rw[(hM3 i h1 h2).2];exact h.nd i (by omega)
  ·replace hi:i<(K8 s.hp [j]++[some kb]).length:=hi;replace hi':i'<(K8 s.hp [j]++[some kb]).length:=hi';rw[hs1] at hi hi';have key:∀ i,i<n0+1→∀ p∈ℓ' i,∃ z,z<n0∧(∃ q∈ℓ z,q.1=p.1)∧((i=n0∧z=j)∨(i=z∧i≠j)):=fun i hi p hp=>by
    by_cases h1:i=j
    ·rw[h1,hl1] at hp;cases hp
    ·by_cases h2:i=n0
     ·rw[h2,hl2] at hp;obtain⟨q,e1,e2,_⟩:=hfst p hp;exact⟨j,hjl,⟨q,e1,e2⟩,.inl ⟨h2,rfl⟩⟩
     ·rw[(hM3 i h1 h2).2] at hp;exact⟨i,by omega,⟨p,hp,rfl⟩,.inr ⟨rfl,h1⟩⟩
   obtain⟨z,z1,⟨x,z2,z4⟩,z3⟩:=key i hi p hp;obtain⟨z',y1,⟨y,y2,y4⟩,y3⟩:=key i' hi' q hq;rw[← z4,← y4];exact h.dj z z' z1 y1 (by omega) x z2 y y2
  ·replace hi:i<(K8 s.hp [j]++[some kb]).length:=hi;rw[hs1] at hi;by_cases h1:i=j
   ·rw[h1,hl1] at hp;cases hp
   ·by_cases h2:i=n0
    ·rw[h2,hl2] at hp;obtain⟨q,e1,e2,_,e4⟩:=hfst p hp;obtain⟨o1,o2,o3⟩:=h.own j hjl q e1;subst e4;refine⟨by rw[← e2];exact o1,by rw[← e2];exact o2,fun o ho => ?_⟩;rcases ho with ho|⟨_,_,ho,_⟩
     ·have hq:q∈H0 m []:=by rw[← q3];exact e1
      rw[hoM] at hq;split at hq
      ·cases hq
      ·simp only[C1] at hq;subst hq;exact P7 (o3 o ho) hfr
     ·exact ho
    ·rw[(hM3 i h1 h2).2] at hp;obtain⟨o1,o2,o3⟩:=h.own i (by omega) p hp;refine⟨o1,o2,fun o ho => ?_⟩;rcases ho with ho|⟨e,hv,_⟩
     ·exact o3 o ho
     ·exfalso;have hq:(m.b,m.fr)∈ℓ j:=by rw[q3,hoM,G6 (by rw[hv];simp)];simp
      exact h.dj j i hjl (by omega) (fun e=>h1 e.symm) _ hq p hp e.symm
  ·rcases hx with hx|⟨rfl,hv,_⟩
   ·exact h.nlt x o hx
   ·have hq:(m.b,m.fr)∈ℓ j:=by rw[q3,hoM,G6 (by rw[hv];simp)];simp
    exact(h.own j hjl _ hq).1
  ·rcases hx with hx|⟨rfl,hv,_⟩
   ·exact h.ndn x o hx
   ·have hq:(m.b,m.fr)∈ℓ j:=by rw[q3,hoM,G6 (by rw[hv];simp)];simp
    exact .inr (h.own j hjl _ hq).2.1
  ·replace hk:(K8 s.hp [j]++[some kb]).length≤k:=hk;rw[hs1] at hk;rw[(hM3 k (by omega) (by omega)).1];exact h.un k (by omega)
  ·by_cases h2:k=j
   ·rw[h2,hM1] at h1;cases h1
   ·by_cases h3:k=n0
    ·rw[h.mz k (by rw[h3];exact B9 _)] at h0;cases h0
    ·rw[(hM3 k h2 h3).1] at h1;exact h.mv k m1 m0 h1 h0
  ·replace hk:(K8 s.hp [j]++[some kb]).length≤k:=hk;rw[hs1] at hk;omega
 have hrep:Rep w N' M' (.ref n0 l 0 l) (a.eval (.tmp k)) []:=by
  generalize a.eval (.tmp k)=v at r;cases r with
  |ref mm h1 h2 =>
   rw[q1] at h1;cases h1;obtain⟨h3,h4⟩:=(h2 m rfl).2 hml.symm;refine .ref _ hM2 fun m2 e2 => ?_;cases e2;exact⟨by show l≤m.len;omega,fun _=>⟨h3,h4⟩⟩
 have hput:=main.d.put (some k) hrep;rw[A8B] at hput;exact⟨_,_,_,hput⟩
theorem C07{w:World}{N:NT}{M:MT}{ℓ:Nat→List (Nat×Nat)}(h:R9 C (D2 n t) a w N M ℓ)(x:TV){v:Value}(r:Rep w N M (av t.hp x) v []):Rep w N M (av t.hp (B5q t.hp x)) v []:=by
 unfold B5q;split
 ·rename_i j;split
  ·rename_i T L e;obtain⟨m,L1,q1,q2,q3⟩:=h.hp j (some (tb t.hp (.log T L))) (by rw[E6,I1,e];rfl);have hL1:L1=[]:=q2.rep.bare (A9h T L);subst hL1;rw[show av t.hp (.own j)=.ref j L.length 0 L.length from by simp only[av,A5s e]] at r;have:=B7g (N':=N) (M':=M) (o:=false) (L:=L) rfl rfl q1 q2 (fun _ _ h=>h) (fun _ hx=>by cases hx) (fun hv i hi=>by
    have:=q2.fz i hi
    rwa [A2m,H2]) r
   rw[N8,w7] at this;exact this
  ·exact r
 ·exact r
theorem B7e(ks:List Nat)(hp:THP):∀ (u:List (Nat×TV)) (k:Nat),fnd (B43 ks hp u) k=bif A0J ks k then fnd u k else B5q hp (fnd u k)
 |[],k=>by
  show TV.any=_;cases A0J ks k<;>rfl
 |p :: u,k=>by
  simp only[B43,fnd];cases hb:Nat.beq p.1 k with
  |true =>
   simp only[A4];rw[F4] at hb;rw[hb]
  |false=>simp only[A9];exact B7e ks hp u k
theorem C2S(s:SK)(hc:M8 C (D2 n t) a w):M8 C (D2 n (B9Y s t)) a w:=by
 unfold B9Y;split
 ·exact hc
 ·skip
  obtain⟨N,M,ℓ,h⟩:=hc.fn;refine R9.c (N:=N) (M:=M) (ℓ:=ℓ) ⟨h.df,?_,h.hp,h.nd,h.dj,h.own,h.nlt,h.nup,h.ndn,h.fr,h.un,h.mv,h.mz⟩;have hl:=h.sl.length;rw[T5] at hl;have key:∀ (ys:List AV) (vs:List Value),ys.length=vs.length→(∀ i,Rep w N M (ys.getD i .any) (vs.getD i undef) [])→F5 w N M ys vs []:=by
   intro ys;induction ys with
   |nil=>intro vs hl _;cases vs with|nil=>exact .nil|cons=>simp at hl
   |cons y ys ih =>
    intro vs hl h;cases vs with
    |nil=>simp at hl
    |cons v vs=>exact .cons (L1:=[]) (L2:=[]) (by simpa using h 0) (ih vs (by simpa using hl) fun i=>by simpa using h (i+1))
  refine key _ _ (by rw[T5,hl]) fun i => ?_;have r:=h.sl.get i;rw[R5] at r;rw[R5];unfold TS.get at r ⊢;cases hb:Nat.blt i n with
  |false=>exact .any _
  |true =>
   rw[hb,A4] at r;simp only[A4];rw[B7e];cases A0J _ i with
   |true=>exact r
   |false=>exact C07 h _ r
end
end Go.Proofs.YtkmhopbmpeiofaaGreat.Nx
