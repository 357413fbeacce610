/- What the evaluator reads is what memory holds: sound, with no condition beyond those each lemma names. -/
import Derived.Test.YtkmhopbmpeiofaaGreatNxh
set_option linter.unusedVariables false
set_option linter.unusedSimpArgs false
namespace Go.Proofs.YtkmhopbmpeiofaaGreat.Nx
open Go Go.RowKit
section
variable {C:Ctx} {n:Nat} {t:TS} {a:Act} {w:World} {N:NT} {M:MT} {L:List (Nat×Nat)}
theorem A3w{d:Int}{o:Option Operand}{l:Int}(h:t.bd n d o=some l):bd (D2 n t) d o=some l:=by
 cases o with
 |none=>exact h
 |some x =>
  simp only[TS.bd] at h;simp only[bd,J0];generalize t.ev n x=tx at *
  split at h
  ·cases h;rfl
  ·cases h
theorem A8o{l h m:Int}(hh:inB l h m=true):0≤l∧l≤h∧h≤m:=by
 unfold inB at hh;simp only[A6,D7] at hh;exact hh
theorem B5S(o:Bool)(T:Ty)(Lx:List (Den T)):enc o (.sl T) Lx=.sl o T.sz (Lx.map (enc o T)):=rfl
theorem C7c(sz:Nat)(x:Operand)(lo hi:Option Operand):A0a n t (.slc sz x lo hi):=by
 intro h;simp only[rd] at h ⊢;simp only[apc,apv,J0];generalize t.ev n x=tx at *
 unfold C8b at h ⊢;split at h
 ·rename_i T Lx;split at h
  ·rename_i l h' el eh;obtain⟨h1,h2⟩:=h.and2;have h1:=h1.ok;simp only[F4] at h1;obtain⟨b1,b2,b3⟩:=A8o h2.sm;simp only[av,hpk,TB.rlen,B5S,B3l,B1m,C7,A3w el,A3w eh,el,eh];refine⟨⟨.inl h1,b1,b2,b3⟩,?_⟩;rw[A13 (by simp;omega)];simp only[W0,W7]
  ·exact h.bad.elim
 ·rename_i j;split at h
  ·rename_i T o Lx e;split at h
   ·rename_i l h' el eh;obtain⟨h1,h2⟩:=h.and2;have h1:=h1.ok;simp only[F4] at h1;obtain⟨b1,b2,b3⟩:=A8o h2.sm;simp only[av,hpk,TB.rlen,e,B3l,B1m,A3w el,A3w eh,el,eh,E6,w9 e];refine⟨⟨h1,b1,b2,b3⟩,?_⟩;simp
   ·exact h.bad.elim
  ·exact h.bad.elim
 ·rename_i j off len;split at h
  ·rename_i T o Lx e;split at h
   ·rename_i l h' el eh;obtain⟨h1,h2⟩:=h.and2;have h1:=h1.ok;simp only[F4] at h1;obtain⟨b1,b2,b3⟩:=A8o h2.sm;simp only[av,hpk,TB.rlen,e,B3l,B1m,A3w el,A3w eh,el,eh,E6,w9 e];exact⟨⟨h1,b1,b2,b3⟩,trivial⟩
   ·exact h.bad.elim
  ·exact h.bad.elim
 ·exact h.bad.elim
theorem C7C(x:Operand)(lo hi:Option Operand):A0a n t (.sls x lo hi):=by
 intro h;simp only[rd] at h ⊢;simp only[apc,apv,J0];generalize t.ev n x=tx at *
 split at h
 ·rename_i s;split at h
  ·rename_i l h' el eh;have hb:=A8o h.sm;have e1:=A3w el;have e2:=A3w eh;show(match bd (D2 n t) 0 lo,bd (D2 n t) (s.size:Nat) hi with|some l,some h=>0≤l∧l≤h∧h≤(s.size:Int)|_,_=>False)∧(match bd (D2 n t) 0 lo,bd (D2 n t) (s.size:Nat) hi with|some l,some h=>AV.val (.string (s.extract l.toNat h.toNat))|_,_=>.any)=_
   rw[e1,e2];simp only[el,eh];exact⟨hb,rfl⟩
  ·exact h.bad.elim
 ·exact h.bad.elim
theorem i3{hp:THP}{m:Nat}{x:TV}(h:x.fits hp m=true):(av hp x).fits m=true∧x.cs.map (av hp)=(av hp x).cells:=by
 have c1:∀ y:TV,y.c1 hp=true→(av hp y).cell1=true∧(av hp y).cells=[av hp y]:=by
  intro y hy;cases y with
  |v T x=>cases T<;>first|exact⟨rfl,rfl⟩|cases hy
  |c v=>cases v<;>first|exact⟨rfl,rfl⟩|cases hy
  |nil=>exact⟨rfl,rfl⟩
  |own j =>
   simp only[TV.c1,f8] at hy;split at hy
   ·rename_i e;simp only[av,e];exact⟨rfl,rfl⟩
   ·cases hy
  |sub j o l =>
   simp only[TV.c1,f8] at hy;split at hy
   ·rename_i e;simp only[av,e];exact⟨rfl,rfl⟩
   ·cases hy
  |ipv=>exact⟨rfl,rfl⟩
  |ipt=>exact⟨rfl,rfl⟩
  |_=>cases hy
 have one:(Nat.beq m 1&&x.c1 hp)=true→(∀ t y,x ≠ .v (.st t) y)→(∀ cs,x ≠ .ag cs)→(av hp x).fits m=true∧x.cs.map (av hp)=(av hp x).cells:=by
  intro h n1 n2;simp only[A6,F4] at h;obtain⟨rfl,h0⟩:=h;obtain⟨k1,k2⟩:=c1 x h0;refine⟨?_,?_⟩
  ·cases hx:av hp x<;>rw[hx] at k1<;>first|(simp only[AV.fits];rw[k1];rfl)|cases k1
  ·rcases C9C hp x with e|e
   ·exact e
   ·rw[h0] at e;cases e
 unfold TV.fits at h;split at h
 ·rename_i T y;simp only[F4] at h;refine⟨?_,A0u hp T y⟩;show((cls false T y).length==m&&(cls false T y).all AV.cell1)=true;rw[O0,h];simp only[A0D,P4,D6];exact fun c hc=>(A1p false T y c hc).1
 ·rename_i k1 k2 y;simp only[F4] at h;subst h;refine⟨?_,A0u hp (.ar _ _) y⟩;show((cls false (.ar _ _) y).length==_&&(cls false (.ar _ _) y).all AV.cell1)=true;rw[O0];simp only[Ty.sz,A0D,P4,D6];exact fun c hc=>(A1p false (.ar _ _) y c hc).1
 ·rename_i cs;simp only[A6,F4] at h;obtain⟨rfl,h0⟩:=h;refine⟨?_,by simp only[TV.cs,av,O8];rfl⟩;show((avL hp cs).length==cs.length&&(avL hp cs).all AV.cell1)=true;rw[B3R,O8,X5,A0D,P4];rw[D6] at h0 ⊢;exact fun c hc=>(c1 c (h0 c hc)).1
 ·rename_i n1 n0 n2;exact one h (fun t y e=>n1 t y e) (fun cs e=>n2 cs e)
theorem C2o(hp:THP){z:List AV}(h:z.all A5c=true):(z.map A6P).map (av hp)=z:=by
 rw[H7];rw[D6] at h;refine(E4 fun x hx => ?_).trans (A0q z);have:=h x hx;cases x<;>first|exact B0z hp _|cases this
theorem B5Z:∀ {ps:List (Nat×Nat×Operand)} {z:List TV} {len:Nat},B5o n t len ps=true→B1g (D2 n t) len ps∧lay (D2 n t) (z.map (av t.hp)) ps=(C0k n t z ps).map (av t.hp)
 |[],_,_,_=>⟨trivial,rfl⟩
 |(off,m,x) :: ps,z,len,h=>by
  simp only[B5o,A6] at h;obtain⟨h1,h2,h3⟩:=h;obtain⟨k1,k2⟩:=i3 h1;obtain⟨i1,i2⟩:=B5Z (z:=z.take off++((t.ev n x).cs++z.drop (off+m))) h3;refine⟨⟨by rw[J0];exact k1,H6 h2,i1⟩,?_⟩;simp only[lay,C0k,J0];rw[← i2];simp only[G0,W0,W7,k2]
theorem C7J(z:List AV)(ps:List (Nat×Nat×Operand)):A0a n t (.bld z ps):=by
 intro h;simp only[rd] at h ⊢;simp only[apc,apv];have h:=h.ok;simp only[A6] at h;obtain⟨k1,k2⟩:=B5Z (z:=z.map A6P) h.2;refine⟨k1,?_⟩;rw[C2o t.hp h.1] at k2;simp only[av,O8,k2]
theorem A1I{hp:THP}{x:TV}(h:x.c1 hp=true):(av hp x).bare1=true:=by
 cases x with
 |v T x=>cases T<;>first|rfl|cases h
 |c v=>rfl
 |nil=>rfl
 |own j=>simp only[av];split<;>rfl
 |sub j o l=>simp only[av];split<;>rfl
 |ipv=>rfl
 |ipt=>rfl
 |_=>cases h
theorem B7r(hp:THP)(Lx:List Int)(o:Bool):A3e (Lx.map (enc o (.i .u8)))=some (Lx.map fun x=>UInt8.ofNat x.toNat):=by
 induction Lx with
 |nil=>rfl
 |cons x xs ih =>
  show(A3e (xs.map (enc o (.i .u8)))).map (UInt8.ofNat x.toNat :: ·)=_;rw[ih];rfl
theorem C8w(x:Operand):A0a n t (.cbs x):=by
 intro h;simp only[rd] at h ⊢;simp only[apc,apv,J0];generalize t.ev n x=tx at *
 split at h
 ·rename_i Lx;simp only[av,hpk,TB.rlen,B5S,A7c,B7r t.hp Lx false];exact⟨rfl,rfl⟩
 ·rename_i j;split at h
  ·rename_i o Lx e;simp only[av,hpk,TB.rlen,e,A7c,E6,w9 e,F8];have:sub (Lx.map (enc o (.i .u8))) 0 Lx.length=Lx.map (enc o (.i .u8)):=by simp[sub]
   rw[this,B7r t.hp Lx o];exact⟨rfl,rfl⟩
  ·exact h.bad.elim
 ·exact h.bad.elim
theorem C1t(hp:THP)(x:TV):(cav hp x).bare1=true∧(cav hp x).cells=[cav hp x]:=by
 unfold cav;cases hc:TV.c1 hp x with
 |false=>exact⟨rfl,rfl⟩
 |true =>
  refine⟨A1I hc,?_⟩;simp only[A4];cases x with
  |v T y=>cases T<;>first|rfl|cases hc
  |c v=>rfl
  |nil=>rfl
  |own j=>simp only[av];split<;>rfl
  |sub j o l=>simp only[av];split<;>rfl
  |ipv=>rfl
  |ipt=>rfl
  |_=>cases hc
theorem C1l:∀ (T:Ty) (x:Den T) (off m:Nat),B0i T off m=true→off+m≤T.sz→((cls true T x).drop off).take m=((cls false T x).drop off).take m:=by
 intro T;induction T with
 |i|bl|tx|sv|ar=>intro x off m h hl;rfl
 |sl t _=>intro x off m h hl;cases h
 |st t ih=>exact fun x off m h hl=>ih x off m h hl
 |pr a b iha ihb =>
  intro x off m h hl;simp only[Ty.sz] at hl;have la:=O0 true a x.1;have la':=O0 false a x.1;simp only[B0i,b7] at h;rcases h with h|h
  ·rw[A7r (o:=true) (T:=.pr a b) (by simpa[Ty.flat] using h)]
  ·simp only[cls];cases hc:Nat.ble (off+m) a.sz with
   |true =>
    have hle:=H6 hc;rw[hc,A4] at h;rw[t6 (by omega),t6 (by omega),t7 (by simp;omega),t7 (by simp;omega)];exact iha x.1 off m h hle
   |false =>
    rw[hc,A9] at h;cases hd:Nat.ble a.sz off with
    |false=>rw[hd] at h;cases h
    |true =>
     have hle:=H6 hd;rw[hd,A4] at h;rw[A3h,A3h,show(cls true a x.1).drop off=[] from O7 (by omega),show(cls false a x.1).drop off=[] from O7 (by omega),la,la',I2,I2];exact ihb x.2 (off-a.sz) m h (by omega)
theorem C9J(hC:H4 C (D2 n t) a w N M L)(m:Nat)(ag:Bool)(x:Operand):A0a n t (.ld m ag x):=by
 intro h;simp only[rd] at h ⊢;simp only[apc,apv];cases hx:t.ev n x with
 |ipv T y o =>
  simp only[hx,J0,av] at h ⊢;have h:=h.ok;simp only[A6] at h;have h1:=H6 h.1;have h2:0<m:=by have:=h.2.1;rw[Q5] at this;exact this
  have h3:=ag1 h.2.2;refine⟨⟨trivial,?_,?_,?_⟩,?_⟩
  ·simp only[cellsOf,I4,O0];omega
  ·intro e;rcases h3 with h|h
   ·rw[e] at h;cases h
   ·exact h
  ·rw[D6];intro c hc;exact A1z T y c (R3 (Q0 hc))
  ·rw[B3U t.hp T y o m ag h1 h2 h3];cases ag with
   |true=>rfl
   |false=>simp only[E0,E5,cellsOf,B3,m3,H2]
 |ipt cs =>
  simp only[hx,J0,av] at h ⊢;have h:=h.ok;simp only[A6] at h;have h1:=H6 h.1;have h2:0<m:=by have:=h.2.1;rw[Q5] at this;exact this
  have h3:=ag1 h.2.2.1;refine⟨⟨trivial,?_,?_,?_⟩,?_⟩
  ·simp only[cellsOf,B3R];exact h1
  ·intro e;rcases h3 with h|h
   ·rw[e] at h;cases h
   ·exact h
  ·simp only[cellsOf,← B04];have h4:=h.2.2.2;rw[O8,X5];rw[D6] at h4 ⊢;exact fun c hc=>A1I (h4 c hc)
  ·simp only[cellsOf];cases ag with
   |true=>simp only[H1,A4,av,B04]
   |false=>simp only[E0,E5,A9];exact B6F _ _ _
 |ptr j row o =>
  simp only[hx] at h ⊢;have hb:A6v t.hp j=true:=by
   unfold A6v;cases hj:t.hp[j]? with
   |none=>simp only[hj] at h;exact h.bad.elim
   |some b=>cases b with
    |none=>simp only[hj] at h;exact h.bad.elim
    |some b=>rfl
  obtain⟨ver,p1,p2⟩:=B3P (n:=n) hb row o;have hev:(D2 n t).ev x=.ptr j ver row o:=by rw[J0,hx,p1]
  obtain⟨b,mm,L1,q1,q2,q3,q4,q5,q6,q7,q8⟩:=hC.ptr hev p2;rw[hev];simp only[A6C,cellsOf,HP.row,q1,Option.isSome_some];rcases A7R hb with⟨T,ow,Lx,e⟩|⟨cs,e⟩|⟨T,R,e⟩|⟨T,Lx,r',o',c,e⟩|⟨T,Lx,r',cs,e⟩|⟨T,Lx,e⟩|⟨n',k',Lx,e⟩
  ·simp only[e] at h ⊢;have hb':b=⟨T.sz,0,Lx.map (enc ow T),0⟩:=by
    rw[E6,I1,e] at q5;simpa[tb] using q5.symm
   subst hb';have h:=h.ok;simp only[A6] at h;have hfl:=h.1;have h1:=H6 h.2.1;have h2:0<m:=by have:=h.2.2.1;rw[Q5] at this;exact this
   have h3:=ag1 h.2.2.2;have hr:row<Lx.length:=by
    have:(Lx.map (enc ow T)).length=ver:=q6;rw[C7] at this;omega
   show(True∧m≤((((Lx.map (enc ow T)).getD row .any).cells).drop o).length∧_)∧_;rw[A4j (d:=dft T) hr,N6];have heq:∀ y:Den T,((cls ow T y).drop o).take m=((cls false T y).drop o).take m:=fun y=>by
    cases ow with
    |false=>rfl
    |true=>exact C1l T y o m (by simpa using hfl) h1
   refine⟨⟨trivial,?_,?_,?_⟩,?_⟩
   ·simp only[I4,O0];omega
   ·intro e;rcases h3 with h|h
    ·rw[e] at h;cases h
    ·exact h
   ·rw[heq,D6];intro c hc;exact A1z T _ c (R3 (Q0 hc))
   ·rw[B3U t.hp T _ o m ag h1 h2 h3];cases ag with
    |true=>simp only[H1];rw[heq]
    |false =>
     obtain rfl:m=1:=by rcases h3 with h|h;cases h;exact h
     have e2:=congrArg (fun l:List AV=>l.getD 0 .any) (heq (Lx.getD row (dft T)));simp only[B3,A0W,m3,H2] at e2;simp only[E0,E5,B3,m3,H2];simpa using e2
  ·simp only[e] at h ⊢;have hb':b=⟨cs.length,0,[.agg (cs.map (cav t.hp))],0⟩:=by
    rw[E6,I1,e] at q5;simpa[tb] using q5.symm
   subst hb';have h0:=h.ok;simp only[A6,F4] at h0;obtain⟨rfl,hh⟩:=h0;have h1:=H6 hh.1;have h2:0<m:=by have:=hh.2.1;rw[Q5] at this;exact this
   have h3:=ag1 hh.2.2.1;have h4:=hh.2.2.2;rw[D6] at h4;have hcv:((cs.map (cav t.hp)).drop o).take m=(((cs.drop o).take m).map (av t.hp)):=by
    rw[← W7,← W0];refine E4 fun c hc => ?_;unfold cav;rw[h4 c hc];rfl
   show(True∧m≤((cs.map (cav t.hp)).drop o).length∧(ag=false→m=1)∧(((cs.map (cav t.hp)).drop o).take m).all AV.bare1=true)∧(if ag then AV.agg (((cs.map (cav t.hp)).drop o).take m) else((cs.map (cav t.hp)).drop o).getD 0 .any)=_
   refine⟨⟨trivial,?_,?_,?_⟩,?_⟩
   ·simp only[I4,C7];omega
   ·intro e;rcases h3 with h|h
    ·rw[e] at h;cases h
    ·exact h
   ·rw[hcv,X5,D6];exact fun c hc=>A1I (h4 c hc)
   ·cases ag with
    |true=>simp only[H1,A4,av,O8,hcv]
    |false =>
     obtain rfl:m=1:=by rcases h3 with h|h;cases h;exact h
     simp only[E0,E5,A9];have hlt:o<cs.length:=by omega
     have e1:((cs.map (cav t.hp)).drop o).getD 0 .any=((((cs.map (cav t.hp)).drop o).take 1)).getD 0 .any:=by
      simp only[B3,A0W];rfl
     rw[e1,hcv];simp[B3,hlt]
  ·simp only[e] at h;exact h.bad.elim
  ·simp only[e] at h ⊢;have hb':b=tb t.hp (.hol T Lx r' o' c):=by
    rw[E6,I1,e] at q5;simpa using q5.symm
   subst hb';obtain⟨hh,hrow⟩:=h.and2;have h:=hh.ok;have hrow:=hrow.sm;simp only[A6,F4,M6] at h hrow;obtain⟨rfl,rfl,rfl,h5,h6⟩:=h;subst hrow;rw[Q5] at h5;have hr:row<Lx.length:=by
    have:((Lx.map (enc true T)).set row (.agg ((cls true T (Lx.getD row (dft T))).set o (cav t.hp c)))).length=ver:=q6;rw[G1,C7] at this;omega
   have hcell:(((tb t.hp (.hol T Lx row o c)).rows).getD row .any).cells=(cls true T (Lx.getD row (dft T))).set o (cav t.hp c):=by
    show(((Lx.map (enc true T)).set row (.agg ((cls true T (Lx.getD row (dft T))).set o (cav t.hp c)))).getD row .any).cells=_;rw[B3,G5,E9 rfl,E9 (by simpa using hr)];rfl
   show(True∧1≤(((((tb t.hp (.hol T Lx row o c)).rows).getD row .any).cells).drop o).length∧_)∧_;rw[hcell];have hl:=O0 true T (Lx.getD row (dft T));have hcv:cav t.hp c=av t.hp c:=by unfold cav;rw[h6];rfl
   have hd:(((cls true T (Lx.getD row (dft T))).set o (cav t.hp c)).drop o).take 1=[cav t.hp c]:=by
    rw[X8 (by rw[G1];omega)];simp
   refine⟨⟨trivial,?_,fun _=>rfl,?_⟩,?_⟩
   ·simp only[I4,G1];omega
   ·rw[hd];simp only[d3,List.all_nil,U6];exact(C1t t.hp c).1
   ·simp only[E0,E5];rw[X8 (by rw[G1];omega)];simpa using hcv
  ·simp only[e] at h ⊢;have hb':b=tb t.hp (.tld T Lx r' cs):=by
    rw[E6,I1,e] at q5;simpa using q5.symm
   subst hb';obtain⟨hh,hrow⟩:=h.and2;have h:=hh.ok;have hrow:=hrow.sm;simp only[A6,b7,F4,D6] at h hrow;obtain⟨h1,h2,h3,h4⟩:=h;subst hrow;have h1:=H6 h1;rw[Q5] at h2;have hr:row<Lx.length:=by
    have:((Lx.map (enc true T)).set row (.agg (cs.map (cav t.hp)))).length=ver:=q6;rw[G1,C7] at this;omega
   have hcell:(((tb t.hp (.tld T Lx row cs)).rows).getD row .any).cells=cs.map (cav t.hp):=by
    show(((Lx.map (enc true T)).set row (.agg (cs.map (cav t.hp)))).getD row .any).cells=_;rw[B3,G5,E9 rfl,E9 (by simpa using hr)];rfl
   have hcv:((cs.map (cav t.hp)).drop o).take m=((cs.drop o).take m).map (av t.hp):=by
    rw[← W7,← W0];exact E4 fun c hc=>by unfold cav;rw[h4 c hc];rfl
   show(True∧m≤(((((tb t.hp (.tld T Lx row cs)).rows).getD row .any).cells).drop o).length∧_)∧_;rw[hcell];refine⟨⟨trivial,?_,?_,?_⟩,?_⟩
   ·simp only[I4,C7];omega
   ·intro e;rcases h3 with h|h
    ·rw[e] at h;cases h
    ·exact h
   ·rw[hcv,X5,D6];exact fun c hc=>A1I (h4 c hc)
   ·cases ag with
    |true=>simp only[H1,A4,av,O8,hcv]
    |false =>
     obtain rfl:m=1:=by rcases h3 with h|h;cases h;exact h
     simp only[E0,E5,A9];have hlt:o<cs.length:=by omega
     have e1:((cs.map (cav t.hp)).drop o).getD 0 .any=((((cs.map (cav t.hp)).drop o).take 1)).getD 0 .any:=by
      simp only[B3,A0W];rfl
     rw[e1,hcv];simp[B3,hlt]
  ·simp only[e] at h;exact h.bad.elim
  ·simp only[e] at h ⊢;have hb':b=⟨n',0,[.agg (arC n' k' Lx)],0⟩:=by
    rw[E6,I1,e] at q5;simpa[tb] using q5.symm
   subst hb';cases ag with
   |true =>
    simp only[A4] at h ⊢;have h:=h.ok;simp only[A6,F4] at h;obtain⟨rfl,rfl,rfl,h2⟩:=h;show(True∧m≤((arC m k' Lx).drop 0).length∧(true=false→m=1)∧(((arC m k' Lx).drop 0).take m).all AV.bare1=true)∧(if true=true then AV.agg (((arC m k' Lx).drop 0).take m) else((arC m k' Lx).drop 0).getD 0 .any)=_
    have e9:((arC m k' Lx).drop 0).take m=arC m k' Lx:=by
     rw[N8,S0 (by rw[A2D];exact B9 _)]
    refine⟨⟨trivial,by rw[N8,A2D];exact B9 _,fun e=>(by cases e),?_⟩,?_⟩
    ·rw[e9,D6];exact fun c hc=>A1z (.ar m k') Lx c hc
    ·rw[E9 rfl,e9];rfl
   |false =>
    simp only[A9] at h ⊢;obtain⟨hh,ho⟩:=h.and2;have h:=hh.ok;have ho:=ho.sm;simp only[A6,F4,D7] at h ho;obtain⟨rfl,rfl⟩:=h;show(True∧1≤((arC n' k' Lx).drop o).length∧(True→1=1)∧(((arC n' k' Lx).drop o).take 1).all AV.bare1=true)∧(if false=true then AV.agg (((arC n' k' Lx).drop o).take 1) else((arC n' k' Lx).drop o).getD 0 .any)=_
    refine⟨⟨trivial,by rw[I4,A2D];omega,fun _=>rfl,?_⟩,?_⟩
    ·rw[D6];exact fun c hc=>A1z (.ar n' k') Lx c (R3 (Q0 hc))
    ·simp only[E0,E5];have e1:((arC n' k' Lx).drop o).getD 0 .any=(arC n' k' Lx).getD o .any:=by
      simp[B3]
     rw[e1,B06 ho];rfl
 |_=>simp only[hx] at h;exact h.bad.elim
theorem B5L(hC:H4 C (D2 n t) a w N M L)(no:NO)(h:Hc (rd n t no).1):apc (D2 n t) no∧apv (D2 n t) no=av t.hp (rd n t no).2:=by
 cases no with
 |mv x=>exact C93 x h
 |pick c x y=>exact C52 c x y h
 |bin b x y=>exact C7U b x y h
 |eqb g x y=>exact C7m g x y h
 |eqs ks g x y=>exact C7i ks g x y h
 |un u x=>exact C8L u x h
 |cvi k x=>exact C7I k x h
 |fad o x=>exact C7B o x h
 |fld o m g x=>exact C8i o m g x h
 |iad s x i=>exact C73 s x i h
 |idx x i=>exact C78 x i h
 |aad s l x i=>exact C7D s l x i h
 |ixa s l g x i=>exact C71 s l g x i h
 |ext x i=>exact C7H x i h
 |slc s x l u=>exact C7c s x l u h
 |slz x l u m=>exact C8c x l u m h
 |sls x l u=>exact C7C x l u h
 |len x=>exact C75 x h
 |lns x=>exact C7z x h
 |mnx m x y=>exact C7t m x y h
 |nck x=>exact C70 x h
 |mkf f c=>exact C8p f c h
 |bld z p=>exact C7J z p h
 |ld m g x=>exact C9J hC m g x h
 |cbs x=>exact C8w x h
 |_=>exact h.bad.elim
end
open Go Go.RowKit
def HB(w:World)(N:NT)(M:MT)(i:Nat):Option Blk→List (Nat×Nat)→Prop
 |none,l=>M i=some none∧l=[]
 |some x,l=>∃ m L1,M i=some (some m)∧BR w N M x m L1∧l=H0 m L1
structure R9 (C:Ctx) (s:AS) (a:Act) (w:World) (N:NT) (M:MT) (ℓ:Nat→List (Nat×Nat)):Prop where
 df:a.defers=[]
 sl:F5 w N M s.sl a.tmps.toList []
 hp:∀ (i:Nat) (x:Option Blk),s.hp[i]? = some x→HB w N M i x (ℓ i)
 nd:∀ i,i<s.hp.length→((ℓ i).map Prod.fst).Nodup
 dj:∀ i j,i<s.hp.length→j<s.hp.length→i≠j→∀ p∈ℓ i,∀ q∈ℓ j,p.1≠q.1
 own:∀ i,i<s.hp.length→∀ p∈ℓ i,p.1<w.heap.size∧(C.w0.heap.size≤p.1∨p.1∈C.X)∧∀ o,N p.1 o→o<p.2
 nlt:∀ b o,N b o→b<w.heap.size
 nup:∀ b o,C.N0 b o→N b o
 ndn:∀ b o,N b o→C.N0 b o∨C.w0.heap.size≤b∨b∈C.X
 fr:FrN C.N0 C.X C.w0 w
 un:∀ k,s.hp.length≤k→M k=none
 mv:∀ k m m0,M k=some (some m)→C.M0 k=some (some m0)→m0.len≤m.len∧(m.len=m0.len→m=m0)
 mz:∀ k,s.hp.length≤k→C.M0 k=none
section
variable {C:Ctx} {s:AS} {a:Act} {w:World} {N:NT} {M:MT} {L:List (Nat×Nat)} {ℓ:Nat→List (Nat×Nat)}
theorem HR.fn:∀ {hp:HP} {k:Nat} {L:List (Nat×Nat)},HR w N M k hp L→∃ ℓ:Nat→List (Nat×Nat),L=(List.range hp.length).flatMap ℓ∧∀ i x,hp[i]? = some x→HB w N M (k+i) x (ℓ i)
 |[],k,L,h=>by
  cases h;exact⟨fun _=>[],rfl,fun i x e=>by simp at e⟩
 |x :: hs,k,L,h=>by
  have step:∀ (l:List (Nat×Nat)) (L2:List (Nat×Nat)),HR w N M (k+1) hs L2→HB w N M k x l→∃ ℓ:Nat→List (Nat×Nat),l++L2=(List.range (x :: hs).length).flatMap ℓ∧∀ i y,(x :: hs)[i]? = some y→HB w N M (k+i) y (ℓ i):=by
   intro l L2 h2 hb;obtain⟨ℓ,e,hl⟩:=HR.fn h2;refine⟨fun i=>match i with|0=>l|i+1=>ℓ i,?_,?_⟩
   ·rw[B5,A2X,F0,A3i,e]
   ·intro i y hy;cases i with
    |zero=>simp only[E8,C3] at hy;subst hy;exact hb
    |succ i =>
     have:=hl i y (by simpa using hy);rw[show k+1+i=k+(i+1) from by omega] at this;exact this
  cases h with
  |dead h1 h2=>exact step [] _ h2 ⟨h1,rfl⟩
  |live h1 h2 h3=>exact step _ _ h3 ⟨_,_,h1,h2,rfl⟩
theorem HR.of_fn:∀ {hp:HP} {k:Nat} {ℓ:Nat→List (Nat×Nat)},(∀ i x,hp[i]? = some x→HB w N M (k+i) x (ℓ i))→HR w N M k hp ((List.range hp.length).flatMap ℓ)
 |[],k,ℓ,_=>.nil k
 |x :: hs,k,ℓ,h=>by
  have h2:=HR.of_fn (hp:=hs) (k:=k+1) (ℓ:=fun i=>ℓ (i+1)) fun i y hy=>by
   have:=h (i+1) y (by simpa using hy);rw[show k+(i+1)=k+1+i from by omega] at this;exact this
  have h0:=h 0 x rfl;rw[B5,A2X,F0,A3i];cases x with
  |none=>obtain⟨h1,e⟩:=h0;simp only[e,I2];exact .dead h1 h2
  |some x=>obtain⟨m,L1,h1,hb,e⟩:=h0;simp only[e];exact .live h1 hb h2
theorem H4.fn(h:H4 C s a w N M L):∃ ℓ,R9 C s a w N M ℓ:=by
 obtain⟨ℓ,e,hl⟩:=h.hp.fn;have hmem:∀ i,i<s.hp.length→∀ p∈ℓ i,p∈L:=fun i hi p hp=>by
  rw[e];exact J6.2 ⟨i,R8.2 hi,hp⟩
 have hnd:=h.nd;rw[e,A0C] at hnd;obtain⟨n1,n2⟩:=b8.1 hnd;refine⟨ℓ,h.df,h.sl,fun i x hx=>by have:=hl i x hx;rwa [E1] at this,fun i hi=>n1 i (R8.2 hi),?_,fun i hi p hp=>h.own p (hmem i hi p hp),h.nlt,h.nup,h.ndn,h.fr,h.un,h.mv,h.mz⟩;have key:∀ i j,i<j→j<s.hp.length→∀ p∈ℓ i,∀ q∈ℓ j,p.1≠q.1:=by
  intro i j hij hj p hp q hq e;have n2:=O9.1 n2 i j (by simp;omega) (by simp;omega) hij;simp only[y9] at n2;exact n2 p.1 (L9 hp) q.1 (L9 hq) e
 intro i j hi hj hne p hp q hq;rcases A4X hne with h|h
 ·exact key i j h hj p hp q hq
 ·exact fun e=>key j i h hi q hq p hp e.symm
theorem R9.d(h:R9 C s a w N M ℓ):H4 C s a w N M ((List.range s.hp.length).flatMap ℓ):=by
 refine⟨h.df,h.sl,HR.of_fn fun i x hx=>by rw[E1];exact h.hp i x hx,?_,?_,h.nlt,h.nup,h.ndn,h.fr,h.un,h.mv,h.mz⟩
 ·rw[A0C];refine b8.2 ⟨fun i hi=>h.nd i (R8.1 hi),?_⟩;rw[O9];intro i j hi hj hij x hx y hy e;simp only[y9] at hx hy;obtain⟨p,hp,rfl⟩:=C5.1 hx;obtain⟨q,hq,e'⟩:=C5.1 hy;simp only[List.length_range] at hi hj;exact h.dj i j hi hj (by omega) p hp q hq (e.trans e'.symm)
 ·intro p hp;obtain⟨i,hi,hp⟩:=J6.1 hp;exact h.own i (R8.1 hi) p hp
theorem M8.fn(h:M8 C s a w):∃ N M ℓ,R9 C s a w N M ℓ:=by
 obtain⟨N,M,L,h⟩:=h;obtain⟨ℓ,h⟩:=h.fn;exact⟨N,M,ℓ,h⟩
theorem R9.c(h:R9 C s a w N M ℓ):M8 C s a w:=⟨N,M,_,h.d⟩
end
def Im(x y:AV):Prop:=∀ w N M v,Rep w N M x v []→Rep w N M y v []
theorem Im.refl(x:AV):Im x x:=fun _ _ _ _ h=>h
theorem Im.any(x:AV):Im x .any:=fun _ _ _ v _=>.any v
theorem Im.trans{x y z:AV}(h:Im x y)(k:Im y z):Im x z:=fun w N M v r=>k w N M v (h w N M v r)
theorem Im.list{xs ys:List AV}(hl:ys.length=xs.length)(h:∀ i,i<xs.length→Im (xs.getD i .any) (ys.getD i .any)){w:World}{N:NT}{M:MT}{vs:List Value}(r:F5 w N M xs vs []):F5 w N M ys vs []:=by
 induction xs generalizing ys vs with
 |nil =>
  cases r;cases ys with
  |nil=>exact .nil
  |cons=>simp at hl
 |cons x xs ih =>
  cases ys with
  |nil=>simp at hl
  |cons y ys =>
   generalize hK:([]:List Nat)=K at r;cases r with
   |cons hx ht =>
    obtain⟨rfl,rfl⟩:=G9.1 hK.symm;refine .cons (L1:=[]) (L2:=[]) (by simpa using h 0 (by simp) _ _ _ _ hx) (ih (by simpa using hl) (fun i hi => ?_) ht);have:=h (i+1) (by simpa using hi);simpa using this
theorem Im.all2{xs ys:List AV}(h:O6 Im xs ys){w:World}{N:NT}{M:MT}{vs:List Value}(r:F5 w N M xs vs []):F5 w N M ys vs []:=by
 induction h generalizing vs with
 |nil=>exact r
 |cons hx _ ih =>
  generalize hK:([]:List Nat)=K at r;cases r with
  |cons h1 h2 =>
   obtain⟨rfl,rfl⟩:=G9.1 hK.symm;exact .cons (L1:=[]) (L2:=[]) (hx _ _ _ _ h1) (ih h2)
theorem O6.mem_left{α β:Type}{R:α→β→Prop}{a:List α}{b:List β}(h:O6 R a b){x:α}(hx:x∈a):∃ y,R x y:=by
 induction h with
 |nil=>cases hx
 |cons h1 _ ih =>
  rcases D8.1 hx with rfl|hx
  ·exact⟨_,h1⟩
  ·exact ih hx
theorem O6.mem_right{α β:Type}{R:α→β→Prop}{a:List α}{b:List β}(h:O6 R a b){y:β}(hy:y∈b):∃ x,R x y:=by
 induction h with
 |nil=>cases hy
 |cons h1 _ ih =>
  rcases D8.1 hy with rfl|hy
  ·exact⟨_,h1⟩
  ·exact ih hy
theorem Im.agg{xs ys:List AV}(h:O6 Im xs ys):Im (.agg xs) (.agg ys):=fun _ _ _ _ r=>by
 cases r with
 |agg r=>exact .agg (Im.all2 h r)
theorem Im.tup{xs ys:List AV}(h:O6 Im xs ys):Im (.tup xs) (.tup ys):=fun _ _ _ _ r=>by
 cases r with
 |tup r=>exact .tup (Im.all2 h r)
theorem Im.fn{f:FuncId}{xs ys:List AV}(h:O6 Im xs ys):Im (.fn f xs) (.fn f ys):=fun _ _ _ _ r=>by
 cases r with
 |fn r=>exact .fn (Im.all2 h r)
theorem I0.len{w:World}{N:NT}{M:MT}{b o:Nat}{xs:List AV}{K:List Nat}(r:I0 w N M b o xs K):True:=trivial
theorem Im.cells{xs ys:List AV}(h:O6 Im xs ys){w:World}{N:NT}{M:MT}{b o:Nat}(r:I0 w N M b o xs []):I0 w N M b o ys []:=by
 induction h generalizing o with
 |nil=>cases r;exact .nil _ _
 |cons hx _ ih =>
  generalize hK:([]:List Nat)=K at r;cases r with
  |cons hc h1 h2 =>
   obtain⟨rfl,rfl⟩:=G9.1 hK.symm;exact .cons (L1:=[]) (L2:=[]) hc (hx _ _ _ _ h1) (ih h2)
theorem Im.ipt{xs ys:List AV}(h:O6 Im xs ys):Im (.ipt xs) (.ipt ys):=fun _ _ _ _ r=>by
 cases r with
 |ipt r hN=>exact .ipt (Im.cells h r) (fun i hi=>hN i (by rw[h.length_eq];exact hi))
def R0(b b':Blk):Prop:=b'.sz=b.sz∧b'.lo=b.lo∧b'.fz=b.fz∧b'.rows.length=b.rows.length∧((∀ y∈b.rows,y.cells.length=b.sz)→∀ y∈b'.rows,y.cells.length=b.sz) ∧
 ∀ w N M p o K,I0 w N M p o (b.rows.flatMap AV.cells) K→I0 w N M p o (b'.rows.flatMap AV.cells) K
theorem R0.refl(b:Blk):R0 b b:=⟨rfl,rfl,rfl,rfl,fun h=>h,fun _ _ _ _ _ _ h=>h⟩
def D0i:Option Blk→Option Blk→Prop
 |none,none=>True
 |some b,some b'=>R0 b b'
 |_,_=>False
theorem BR.rowLe{w:World}{N:NT}{M:MT}{b b':Blk}(h:R0 b b'){m:Cn}{L1:List Nat}(r:BR w N M b m L1):BR w N M b' m L1:=by
 obtain⟨h1,h2,h3,h4,h5,h6⟩:=h;refine⟨by rw[r.len,h4],by rw[r.sz,h1],by rw[h1,h2];exact r.fr,by rw[h1];exact h5 r.cl,h6 _ _ _ _ _ _ r.rep,fun e => ?_,r.rm,by rw[h2,h4];exact r.lo,by rw[h1,h3];exact r.fz,by rw[h2];exact r.f0⟩;exact A07 (by rw[h4,r.vt e];rfl)
structure L7 (s s':AS):Prop where
 len:s'.sl.length=s.sl.length
 sl:∀ i,Im (s.sl.getD i .any) (s'.sl.getD i .any)
 hl:s'.hp.length=s.hp.length
 hp:∀ (i:Nat) (x:Option Blk),s.hp[i]? = some x→∃ y,s'.hp[i]? = some y∧D0i x y
theorem L7.refl(s:AS):L7 s s:=⟨rfl,fun _=>.refl _,rfl,fun i x h=>⟨x,h,by cases x;trivial;exact R0.refl _⟩⟩
theorem L7.concF{C:Ctx}{s s':AS}{a:Act}{w:World}{N:NT}{M:MT}{ℓ:Nat→List (Nat×Nat)}(h:L7 s s')(hc:R9 C s a w N M ℓ):R9 C s' a w N M ℓ:=by
 refine⟨hc.df,Im.list h.len (fun i _=>h.sl i) hc.sl,fun i y hy => ?_,fun i hi=>hc.nd i (by rw[← h.hl];exact hi),fun i j hi hj=>hc.dj i j (by rw[← h.hl];exact hi) (by rw[← h.hl];exact hj),fun i hi=>hc.own i (by rw[← h.hl];exact hi),hc.nlt,hc.nup,hc.ndn,hc.fr,fun k hk=>hc.un k (by rw[← h.hl];exact hk),hc.mv,fun k hk=>hc.mz k (by rw[← h.hl];exact hk)⟩
 have hi:i<s.hp.length:=by rw[← h.hl];exact(B4.1 hy).1
 obtain⟨y',e1,e2⟩:=h.hp i _ (D1 hi);rw[hy] at e1;cases e1;have:=hc.hp i _ (D1 hi);revert e2 this;generalize s.hp[i]=x;intro e2 this;cases x<;>cases y<;>first|exact e2.elim|skip
 ·exact this
 ·obtain⟨m,L1,h1,h2,h3⟩:=this;exact⟨m,L1,h1,h2.rowLe e2,h3⟩
theorem L7.conc{C:Ctx}{s s':AS}{a:Act}{w:World}(h:L7 s s')(hc:M8 C s a w):M8 C s' a w:=by
 obtain⟨N,M,ℓ,hc⟩:=hc.fn;exact(h.concF hc).c
theorem L7.put{s s':AS}(h:L7 s s')(d:Option Nat){x y:AV}(hx:Im x y):L7 (s.put d x) (s'.put d y):=by
 cases d with
 |none=>exact h
 |some d =>
  refine⟨by simp[AS.put,h.len],fun i => ?_,h.hl,h.hp⟩;have:=h.sl i;simp only[AS.put,B3,G5,h.len] at this ⊢;split
  ·split
   ·exact hx
   ·exact .refl _
  ·exact this
theorem L7.trans{s s' s'':AS}(h:L7 s s')(k:L7 s' s''):L7 s s'':=by
 refine⟨k.len.trans h.len,fun i=>(h.sl i).trans (k.sl i),k.hl.trans h.hl,fun i x hx => ?_⟩;obtain⟨y,h1,h2⟩:=h.hp i x hx;obtain⟨z,k1,k2⟩:=k.hp i y h1;refine⟨z,k1,?_⟩;cases x<;>cases y<;>cases z<;>first|exact h2.elim|exact k2.elim|trivial|skip
 obtain⟨a1,a2,a3,a4,a5,a6⟩:=h2;obtain⟨b1,b2,b3,b4,b5,b6⟩:=k2;refine⟨b1.trans a1,b2.trans a2,b3.trans a3,b4.trans a4,fun q => ?_,fun w N M p o K r=>b6 _ _ _ _ _ _ (a6 _ _ _ _ _ _ r)⟩;have:=b5 (by rw[a1];exact a5 q);rw[a1] at this;exact this
open Go Go.RowKit
theorem A02(p:Nat→Bool):∀ xs,A18 p xs=xs.map (flt p)
 |[]=>rfl
 |x :: xs=>by rw[A18,A02 p xs];rfl
theorem B1C(p:Nat→Bool):∀ hp,Z8 p hp=hp.map (Option.map (TB.flt p))
 |[]=>rfl
 |x :: xs=>by rw[Z8,B1C p xs];rfl
mutual
theorem A73{hp hp':THP}(h:∀ j,hpk hp' j=hpk hp j):∀ x:TV,av hp' x=av hp x
 |.any=>rfl
 |.v _ _=>rfl
 |.c _=>rfl
 |.nil=>rfl
 |.emp=>rfl
 |.ag cs=>by rw[av,av,A4U h cs]
 |.tp cs=>by rw[av,av,A4U h cs]
 |.own j=>by simp only[av,h j]
 |.sub j o l=>by simp only[av,h j]
 |.ptr j r o=>by simp only[av,h j]
 |.ipv _ _ _=>rfl
 |.ipt cs=>by rw[av,av,A4U h cs]
 |.fn f cs=>by rw[av,av,A4U h cs]
theorem A4U{hp hp':THP}(h:∀ j,hpk hp' j=hpk hp j):∀ xs:List TV,avL hp' xs=avL hp xs
 |[]=>rfl
 |x :: xs=>by rw[avL,avL,A73 h x,A4U h xs]
end
theorem C4D{hp hp':THP}(h:∀ j,hpk hp' j=hpk hp j)(x:TV):x.c1 hp'=x.c1 hp:=by
 cases x<;>simp only[TV.c1,f8,h]
theorem A6e{hp hp':THP}(h:∀ j,hpk hp' j=hpk hp j)(x:TV):cav hp' x=cav hp x:=by
 unfold cav;rw[C4D h,A73 h]
theorem A8s{hp hp':THP}(h:∀ j,hpk hp' j=hpk hp j)(b:TB):tb hp' b=tb hp b:=by
 cases b with
 |box cs=>simp only[tb,E4 fun x _=>A6e h x]
 |arr T o L=>rfl
 |log T L=>rfl
 |ara n k L=>rfl
 |rws T R =>
  simp only[tb];congr 1;refine E4 fun cs _ => ?_;rw[E4 fun x _=>A6e h x]
 |hol T L row off c=>simp only[tb,A6e h c]
 |tld T L row cs=>simp only[tb,E4 fun x _=>A6e h x]
mutual
theorem A1Y{hp hp':THP}{p:Nat→Bool}(h:∀ j,p j=true→hpk hp' j=hpk hp j):∀ x:TV,Im (av hp x) (av hp' (flt p x))
 |.any=>.refl _
 |.v _ _=>.refl _
 |.c _=>.refl _
 |.nil=>.refl _
 |.emp=>.refl _
 |.ag cs=>Im.agg (A7i h cs)
 |.tp cs=>Im.tup (A7i h cs)
 |.own j=>by
  simp only[flt];cases hj:p j with
  |true=>simp only[A4,av,h j hj];exact .refl _
  |false=>exact .any _
 |.sub j o l=>by
  simp only[flt];cases hj:p j with
  |true=>simp only[A4,av,h j hj];exact .refl _
  |false=>exact .any _
 |.ptr j r o=>by
  simp only[flt];cases hj:p j with
  |true=>simp only[A4,av,h j hj];exact .refl _
  |false=>exact .any _
 |.ipv _ _ _=>.refl _
 |.ipt cs=>Im.ipt (A7i h cs)
 |.fn f cs=>Im.fn (A7i h cs)
theorem A7i{hp hp':THP}{p:Nat→Bool}(h:∀ j,p j=true→hpk hp' j=hpk hp j):∀ xs:List TV,O6 Im (avL hp xs) (avL hp' (A18 p xs))
 |[]=>.nil
 |x :: xs=>.cons (A1Y h x) (A7i h xs)
end
theorem A5o{hp hp':THP}{p:Nat→Bool}(h:∀ j,p j=true→hpk hp' j=hpk hp j)(x:TV):Im (cav hp x) (cav hp' (flt p x)):=by
 unfold cav;cases hc:TV.c1 hp' (flt p x) with
 |false=>exact .any _
 |true =>
  have:x.c1 hp=true:=by
   cases x with
   |own j =>
    simp only[flt] at hc;cases hj:p j with
    |true=>simp only[hj,A4,TV.c1,f8,h j hj] at hc;simpa only[TV.c1,f8] using hc
    |false=>simp only[hj,A9,TV.c1] at hc;cases hc
   |sub j =>
    simp only[flt] at hc;cases hj:p j with
    |true=>simp only[hj,A4,TV.c1,f8,h j hj] at hc;simpa only[TV.c1,f8] using hc
    |false=>simp only[hj,A9,TV.c1] at hc;cases hc
   |ptr j =>
    simp only[flt] at hc;cases hj:p j<;>simp only[hj,A4,A9,TV.c1] at hc<;>cases hc
   |v T y=>cases T<;>first|rfl|exact hc
   |c v=>cases v<;>first|rfl|exact hc
   |_=>first|rfl|exact hc
  rw[this];exact A1Y h x
theorem B87(p:Nat→Bool)(k:Nat):∀ u,fnd (A9c p u) k=flt p (fnd u k)
 |[]=>rfl
 |x :: u=>by
  simp only[A9c,fnd];cases Nat.beq x.1 k with
  |true=>rfl
  |false=>simp only[A9];exact B87 p k u
theorem A2u(n:Nat)(t:TS)(u':List (Nat×TV))(hp':THP)(p:Nat→Bool)(hu:u'=A9c p t.u)(k:Nat):TS.get n ⟨u',hp'⟩ k=flt p (t.get n k):=by
 subst hu;simp only[TS.get,B87];cases Nat.blt k n<;>rfl
theorem A4t(p:Nat→Bool)(b:TB):(b.flt p).rlen=b.rlen:=by
 cases b<;>simp[TB.flt,TB.rlen]
theorem A0y(p:Nat→Bool)(hp:THP)(j:Nat):(Z8 p hp)[j]? = (hp[j]?).map (Option.map (TB.flt p)):=by
 rw[B1C,H3]
theorem P8(p:Nat→Bool)(hp:THP):(Z8 p hp).length=hp.length:=by rw[B1C,C7]
theorem A4h(p:Nat→Bool)(hp:THP)(j:Nat):hpk (Z8 p hp) j=hpk hp j:=by
 unfold hpk;rw[A0y];cases hp[j]? with
 |none=>rfl
 |some b=>cases b with
  |none=>rfl
  |some b=>simp[A4t]
theorem A05(hp:THP)(x:TV):(cav hp x).bare1=true∧(cav hp x).cells=[cav hp x]:=by
 unfold cav;cases hc:TV.c1 hp x with
 |false=>exact⟨rfl,rfl⟩
 |true =>
  refine⟨A1I hc,?_⟩;simp only[A4];cases x with
  |v T y=>cases T<;>first|rfl|cases hc
  |c v=>rfl
  |nil=>rfl
  |own j=>simp only[av];split<;>rfl
  |sub j o l=>simp only[av];split<;>rfl
  |ipv=>rfl
  |ipt=>rfl
  |_=>cases hc
theorem I0.bare{w:World}{N:NT}{M:MT}{b o:Nat}{xs:List AV}{K:List Nat}(r:I0 w N M b o xs K)(h:∀ x∈xs,x.bare1=true):K=[]:=by
 induction xs generalizing o K with
 |nil=>cases r;rfl
 |cons x xs ih =>
  cases r with
  |cons hc hx ht =>
   rw[hx.bare1 (h x (by simp)),ih ht fun y hy=>h y (by simp[hy])];rfl
theorem A0b(hp:THP)(cs:List TV):∀ ag,(mkr ag (cs.map (cav hp))).cells=if ag then cs.map (cav hp) else [(cs.map (cav hp)).headD .any]:=by
 intro ag;cases ag with
 |true=>rfl
 |false =>
  cases cs with
  |nil=>rfl
  |cons c cs=>exact(A05 hp c).2
theorem A5C{α:Type}{f g:α→AV}(h:∀ x,Im (f x) (g x)):∀ xs:List α,O6 Im (xs.map f) (xs.map g)
 |[]=>.nil
 |x :: xs=>.cons (h x) (A5C h xs)
theorem O6.append{α β:Type}{R:α→β→Prop}{a b:List α}{c d:List β}(h:O6 R a c)(k:O6 R b d):O6 R (a++b) (c++d):=by
 induction h with
 |nil=>exact k
 |cons h _ ih=>exact .cons h ih
theorem R0.of{b b':Blk}(h1:b'.sz=b.sz)(h2:b'.lo=b.lo)(h3:b'.fz=b.fz)(h4:b'.rows.length=b.rows.length)(hb:∀ c∈b.rows.flatMap AV.cells,c.bare1=true)
  (h5:(∀ y∈b.rows,y.cells.length=b.sz)→∀ y∈b'.rows,y.cells.length=b.sz) (h6:O6 Im (b.rows.flatMap AV.cells) (b'.rows.flatMap AV.cells)):R0 b b' :=
 ⟨h1,h2,h3,h4,h5,fun w N M p o K r=>by
  have:=r.bare hb;subst this;exact Im.cells h6 r⟩
theorem A4a{l:List AV}{i:Nat}(h:i<l.length)(x:AV):(l.set i x).flatMap AV.cells=(l.take i).flatMap AV.cells++(x.cells++(l.drop (i+1)).flatMap AV.cells):=by
 rw[Q2,E9 h,O1,F0]
theorem C8F{T:Ty}{L:List (Den T)}{row off:Nat}{x y:AV}(hx:x.bare1=true)(him:Im x y) :
  R0 ⟨T.sz,0,(L.map (enc true T)).set row (.agg ((cls true T (L.getD row (dft T))).set off x)),0⟩ ⟨T.sz,0,(L.map (enc true T)).set row (.agg ((cls true T (L.getD row (dft T))).set off y)),0⟩:=by
 rcases D9 row (L.map (enc true T)).length with hr|hr
 ·refine⟨rfl,rfl,rfl,by simp,fun _ z hz => ?_,fun w N M p o K r => ?_⟩
  ·rcases H5 hz with hz|rfl
   ·obtain⟨q,_,rfl⟩:=C5.1 hz;rw[N6,O0]
   ·simp[AV.cells,O0]
  ·simp only at r ⊢;rw[A4a hr] at r ⊢;obtain⟨K1,K2,rfl,r1,r2⟩:=r.append;obtain⟨K3,K4,rfl,r3,r4⟩:=r2.append;refine r1.join (I0.join ?_ (by
    have:(AV.agg ((cls true T (L.getD row (dft T))).set off y)).cells.length=(AV.agg ((cls true T (L.getD row (dft T))).set off x)).cells.length:=by simp[AV.cells]
    rw[this];exact r4))
   simp only[AV.cells] at r3 ⊢;rcases D9 off (cls true T (L.getD row (dft T))).length with ho|ho
   ·rw[Q2,E9 ho] at r3 ⊢;obtain⟨J1,J2,rfl,s1,s2⟩:=r3.append;refine s1.join ?_;cases s2 with
    |cons hc hx' ht =>
     have:=hx'.bare1 hx;subst this;exact .cons (L1:=[]) hc (him _ _ _ _ hx') ht
   ·rw[Q6 ho] at r3 ⊢;exact r3
 ·rw[Q6 hr,Q6 hr];exact .refl _
theorem C91{T:Ty}{L:List (Den T)}{row:Nat}{xs ys:List AV}(hx:∀ x∈xs,x.bare1=true)(him:O6 Im xs ys) :
  R0 ⟨T.sz,0,(L.map (enc true T)).set row (.agg xs),0⟩ ⟨T.sz,0,(L.map (enc true T)).set row (.agg ys),0⟩:=by
 have hl:=him.length_eq;rcases D9 row (L.map (enc true T)).length with hr|hr
 ·refine⟨rfl,rfl,rfl,by simp,fun hc z hz => ?_,fun w N M p o K r => ?_⟩
  ·rcases H5 hz with hz|rfl
   ·obtain⟨q,_,rfl⟩:=C5.1 hz;rw[N6,O0]
   ·have:=hc (.agg xs) (List.mem_set hr _);simp only[AV.cells] at this ⊢;rw[← hl];exact this
  ·simp only at r ⊢;rw[A4a hr] at r ⊢;obtain⟨K1,K2,rfl,r1,r2⟩:=r.append;obtain⟨K3,K4,rfl,r3,r4⟩:=r2.append;have:K3=[]:=I0.bare r3 hx;subst this;refine r1.join (I0.join (Im.cells him r3) (by
    have:(AV.agg ys).cells.length=(AV.agg xs).cells.length:=by simp only[AV.cells];exact hl.symm
    simp only[AV.cells] at this r4 ⊢;rw[this];exact r4))
 ·rw[Q6 hr,Q6 hr];exact .refl _
theorem A2R{hp hp':THP}{p:Nat→Bool}(h:∀ j,p j=true→hpk hp' j=hpk hp j)(b:TB):R0 (tb hp b) (tb hp' (b.flt p)):=by
 cases b with
 |box cs =>
  refine R0.of (by simp[tb,TB.flt,A02]) rfl rfl rfl ?_ ?_ ?_
  ·intro c hc;simp only[tb,F0,R6,D5,AV.cells,C5] at hc;obtain⟨x,_,rfl⟩:=hc;exact(A05 hp x).1
  ·intro _ y hy;simp only[tb,TB.flt,C1] at hy;subst hy;simp[tb,AV.cells,A02]
  ·simp only[tb,TB.flt,F0,R6,D5,AV.cells,A02,H7];exact A5C (fun x=>A5o h x) cs
 |arr T o L=>exact .refl _
 |log T L=>exact .refl _
 |ara n k L=>exact .refl _
 |rws T R =>
  refine R0.of rfl rfl rfl (by simp[tb,TB.flt]) ?_ ?_ ?_
  ·intro c hc;simp only[tb,A3i,J6] at hc;obtain⟨cs,_,hc⟩:=hc;rw[A0b] at hc;split at hc
   ·obtain⟨x,_,rfl⟩:=C5.1 hc;exact(A05 hp x).1
   ·simp only[C1] at hc;subst hc;cases cs with
    |nil=>rfl
    |cons c cs=>exact(A05 hp c).1
  ·intro hcl y hy;simp only[tb,TB.flt,H7,C5] at hy;obtain⟨cs,hcs,rfl⟩:=hy;have:=hcl (mkr T.ag (cs.map (cav hp))) (by simp only[tb];exact L9 hcs);simp only[Function.comp,A02];rw[A0b] at this ⊢;split
   ·rename_i hag;rw[E9 hag] at this;simpa using this
   ·rename_i hag;rw[G6 hag] at this;simpa using this
  ·simp only[tb,TB.flt,A3i,H7];induction R with
   |nil=>exact .nil
   |cons cs R ih =>
    simp only[F0];refine O6.append ?_ ih;simp only[Function.comp,A02];rw[A0b,A0b];split
    ·rw[H7];exact A5C (fun x=>A5o h x) cs
    ·cases cs with
     |nil=>exact .cons (.refl _) .nil
     |cons c cs=>exact .cons (A5o h c) .nil
 |hol T L row off c=>exact C8F (A05 hp c).1 (A5o h c)
 |tld T L row cs =>
  simp only[tb,TB.flt,A02,H7];refine C91 (fun c hc => ?_) (A5C (fun x=>A5o h x) cs);obtain⟨x,_,rfl⟩:=C5.1 hc;exact(A05 hp x).1
section
variable {n:Nat} {t:TS}
theorem L7.flt(p:Nat→Bool):L7 (D2 n t) (D2 n (t.flt p)):=by
 have hk:∀ j,p j=true→hpk (Z8 p t.hp) j=hpk t.hp j:=fun j _=>A4h p t.hp j;refine⟨by rw[T5,T5],fun i => ?_,by rw[E6,E6,F3,F3];exact P8 p t.hp,fun i x hx => ?_⟩
 ·rw[R5,R5,TS.flt,A2u n t _ _ p rfl];exact A1Y hk _
 ·rw[E6,I1] at hx;rw[E6,I1];show ∃ y,((Z8 p t.hp)[i]?).map _=some y∧_;rw[A0y];cases hb:t.hp[i]? with
  |none=>rw[hb] at hx;cases hx
  |some b =>
   rw[hb] at hx;simp only[F8,C3] at hx;subst hx;refine⟨_,rfl,?_⟩;cases b with
   |none=>trivial
   |some b=>exact A2R hk b
theorem L7.new(b:TB){k:Blk}(hk:R0 k (tb (t.new [b]).hp b)):L7 { D2 n t with hp:=F1 t.hp++[some k] } (D2 n (t.new [b])):=by
 have hl:∀ j,Nat.blt j t.hp.length=true→hpk (t.new [b]).hp j=hpk t.hp j:=fun j hj=>by
  rw[Q5] at hj;rw[← A4h (fun i=>Nat.blt i t.hp.length) t.hp j];unfold hpk TS.new;rw[B7 (by rw[P8];exact hj)]
 refine⟨by rw[T5,T5],fun i => ?_,?_,fun i x hx => ?_⟩
 ·show Im ((D2 n t).sl.getD i .any) _;rw[R5,R5,TS.new,A2u n t _ _ (fun i=>Nat.blt i t.hp.length) rfl];exact A1Y hl _
 ·show(F1 (t.new [b]).hp).length=(F1 t.hp++[some k]).length;simp[F3,TS.new,P8]
 ·show ∃ y,(F1 (t.new [b]).hp)[i]? = some y∧_;replace hx:(F1 t.hp++[some k])[i]? = some x:=hx;rw[I1];rcases D9 i t.hp.length with hi|hi
  ·rw[B7 (by rw[F3];exact hi),I1] at hx;have e:(t.new [b]).hp[i]? = (t.hp[i]?).map (Option.map (TB.flt fun i=>Nat.blt i t.hp.length)):=by
    unfold TS.new;rw[B7 (by rw[P8];exact hi),A0y]
   rw[e];cases hb:t.hp[i]? with
   |none=>rw[hb] at hx;cases hx
   |some c =>
    rw[hb] at hx;simp only[F8,C3] at hx;subst hx;refine⟨_,rfl,?_⟩;cases c with
    |none=>trivial
    |some c=>exact A2R hl c
  ·rw[B6 (by rw[F3];exact hi),F3] at hx;have hi0:i=t.hp.length:=by
    have:=(B4.1 hx).1;simp at this;omega
   subst hi0;simp only[R7,E8,C3] at hx;subst hx;have e:(t.new [b]).hp[t.hp.length]? = some (some b):=by
    unfold TS.new;rw[B6 (by rw[P8];exact B9 _),P8,R7];rfl
   rw[e];exact⟨_,rfl,hk⟩
end
end Go.Proofs.YtkmhopbmpeiofaaGreat.Nx
