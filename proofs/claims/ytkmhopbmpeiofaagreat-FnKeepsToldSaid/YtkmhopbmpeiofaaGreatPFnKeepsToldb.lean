/- The data that the functions compute, further: for all arguments that memory can hold. -/
import Derived.Test.YtkmhopbmpeiofaaGreatPFnKeepsTolda
set_option linter.unusedVariables false
set_option linter.unusedSimpArgs false
namespace Go.Proofs.YtkmhopbmpeiofaaGreat.C
open Go Go.Proofs.YtkmhopbmpeiofaaGreat.Nx Go.RowKit
set_option linter.unusedVariables false
set_option linter.unusedSimpArgs false
theorem C1M:∀ a:List UInt8,Op.bytesLess a a=false
 |[]=>rfl
 |x :: a=>by
  unfold Op.bytesLess;rw[C1M a];simp
theorem B29{a b:UInt8}:a<b↔a.toNat<b.toNat:=UInt8.lt_iff_toNat_lt
theorem B9F:∀ a b c:List UInt8,Op.bytesLess a b=true->Op.bytesLess b c=true->Op.bytesLess a c=true
 |_,[],_,h,_=>by simp[Op.bytesLess] at h
 |_,_ :: _,[],_,k=>by simp[Op.bytesLess] at k
 |[],_ :: _,_ :: _,_,_=>rfl
 |x :: a,y :: b,z :: c,h,k=>by
  simp only[Op.bytesLess,b7,A6,D7,j7] at h k ⊢;rcases h with h|⟨rfl,h⟩<;>rcases k with k|⟨rfl,k⟩
  ·left;rw[B29] at *; omega
  ·left;exact h
  ·left;exact k
  ·right;exact⟨rfl,B9F a b c h k⟩
theorem B5U:∀ a b:List UInt8,Op.bytesLess a b=false->Op.bytesLess b a=false->a=b
 |[],[],_,_=>rfl
 |[],_ :: _,h,_=>by simp[Op.bytesLess] at h
 |_ :: _,[],_,k=>by simp[Op.bytesLess] at k
 |x :: a,y :: b,h,k=>by
  simp only[Op.bytesLess,A0k,U8] at h k;have e:x=y:=by
   have h1:=h.1;have k1:=k.1;rw[B29] at h1 k1;exact UInt8.toNat_inj.1 (by omega)
  subst e;have h2:=h.2;have k2:=k.2;simp only[A0D,P4] at h2 k2;rw[B5U a b h2 k2]
theorem C0W:∀ a b:List UInt8,decide (Lib.compareBytes a b<0)=Op.bytesLess a b
 |[],[]=>by simp[Lib.compareBytes,Op.bytesLess]
 |[],_ :: _=>by simp[Lib.compareBytes,Op.bytesLess]
 |_ :: _,[]=>by simp[Lib.compareBytes,Op.bytesLess]
 |x :: a,y :: b=>by
  unfold Lib.compareBytes Op.bytesLess;by_cases h:x<y
  ·rw[E9 h];simp[h]
  ·rw[G6 h];by_cases h2:y<x
   ·rw[E9 h2];have:x≠y:=fun e=>by subst e;rw[B29] at h2;omega
    simp[h,this]
   ·rw[G6 h2];have:x=y:=by rw[B29] at h h2;exact UInt8.toNat_inj.1 (by omega)
    subst this;simp[C0W a b,h]
def iLt(x y:Den A8):Bool:=Op.bytesLess x.1.data.toList y.1.data.toList
theorem A0N:Swo iLt:=by
 refine⟨fun x=>C1M _,fun x y z h k=>B9F _ _ _ h k,fun x y z h k => ?_⟩;cases e:iLt x z with
 |false=>rfl
 |true =>
  unfold iLt at *
  cases e1:Op.bytesLess y.1.data.toList x.1.data.toList with
  |true=>rw[B9F _ _ _ e1 e] at k;cases k
  |false=>rw[B5U _ _ h e1] at e;rw[e] at k;cases k
theorem C8v{a b:ByteArray}(h:a.data.toList=b.data.toList):a=b:=by
 cases a;cases b;congr;exact Array.toList_inj.1 h
theorem B3T{x y:Den A8}(h:iLt x y=false)(k:iLt y x=false):x.1=y.1:=C8v (B5U _ _ h k)
theorem A4M{x y z:Den A8}(e:x.1=y.1):iLt z x=iLt z y:=by unfold iLt;rw[e]
theorem B32{x y z:Den A8}(e:x.1=y.1):iLt x z=iLt y z:=by unfold iLt;rw[e]
theorem B2L{x y:Den A8}(h:iLt x y=true):x.1≠y.1:=fun e=>by
 rw[A4M (y:=x) e.symm] at h;rw[A0N.irr] at h;cases h
theorem C8n(c:d9 .un):Cmp (fun (a b:Den A8) (c:d9 .un)=>A41 0 a b) c iLt:=by
 intro x y;exact⟨_,rfl,C0W _ _⟩
def U5(x:Den A8):List (Den A8)->List (Den A8)
 |[]=>[x]
 |y :: ys=>bif decide (y.1=x.1) then(y.1,y.2||x.2) :: ys else bif iLt x y then x :: y :: ys else y :: U5 x ys
theorem A7x(x:Den A8):∀ l:List (Den A8),(U5 x l).length≤l.length+1
 |[]=>B9 _
 |y :: ys=>by
  unfold U5;have:=A7x x ys;cases decide (y.1=x.1)
  ·cases iLt x y
   ·simp only[A9,B5];omega
   ·simp
  ·simp
def y7(l:List (Den A8)):Prop:=l.Pairwise fun x y=>iLt x y=true
theorem B00(x:Den A8):∀ (l:List (Den A8)) (z:Den A8),z∈U5 x l->z.1=x.1∨∃ y∈l,z.1=y.1
 |[],z,h=>by simp[U5] at h;subst h;exact .inl rfl
 |y :: ys,z,h=>by
  unfold U5 at h;cases h1:decide (y.1=x.1) with
  |true =>
   rw[h1] at h;rcases D8.1 h with rfl|h
   ·exact .inr ⟨y,by simp,rfl⟩
   ·exact .inr ⟨z,by simp[h],rfl⟩
  |false =>
   rw[h1] at h;cases h2:iLt x y with
   |true =>
    rw[h2] at h;rcases D8.1 h with rfl|h
    ·exact .inl rfl
    ·exact .inr ⟨z,h,rfl⟩
   |false =>
    rw[h2] at h;rcases D8.1 h with rfl|h
    ·exact .inr ⟨_,by simp,rfl⟩
    ·rcases B00 x ys z h with h|⟨q,h3,h4⟩
     ·exact .inl h
     ·exact .inr ⟨q,by simp[h3],h4⟩
theorem A8y(x:Den A8):∀ {l:List (Den A8)},y7 l->y7 (U5 x l)
 |[],_=>by simp[U5,y7]
 |y :: ys,h=>by
  have hh:=J4.1 h;unfold U5;cases h1:decide (y.1=x.1) with
  |true=>exact J4.2 ⟨fun z hz=>(B32 (x:=(y.1,y.2||x.2)) (y:=y) rfl).trans (hh.1 z hz),hh.2⟩
  |false =>
   cases h2:iLt x y with
   |true =>
    refine J4.2 ⟨fun z hz => ?_,h⟩;rcases D8.1 hz with rfl|hz
    ·exact h2
    ·exact A0N.tr _ _ _ h2 (hh.1 z hz)
   |false =>
    have hyx:iLt y x=true:=by
     cases e:iLt y x with
     |true=>rfl
     |false=>exact absurd (B3T e h2) (X6 h1)
    refine J4.2 ⟨fun z hz => ?_,A8y x hh.2⟩;rcases B00 x ys z hz with h|⟨q,h3,h4⟩
    ·rw[A4M h];exact hyx
    ·rw[A4M h4];exact hh.1 q h3
def ddR:List (Den A8)->List (Den A8)
 |[]=>[]
 |y :: ys=>match ddR ys with
  |[]=>[y]
  |z :: zs=>bif decide (y.1=z.1) then(y.1,y.2||z.2) :: zs else y :: z :: zs
theorem A7V(y:Den A8)(ys:List (Den A8)):∃ g zs,ddR (y :: ys)=(y.1,g) :: zs:=by
 unfold ddR;cases ddR ys with
 |nil=>exact⟨y.2,[],rfl⟩
 |cons z zs =>
  show ∃ g zs',(bif _ then _ else _)=_;cases decide (y.1=z.1)
  ·exact⟨_,_,rfl⟩
  ·exact⟨_,_,rfl⟩
theorem A26(y:Den A8)(ys:List (Den A8)):ddR (y :: ys)=match ddR ys with
  |[]=>[y]
  |z :: zs=>bif decide (y.1=z.1) then(y.1,y.2||z.2) :: zs else y :: z :: zs:=rfl
theorem B8v(x:Den A8):∀ {W:List (Den A8)},Srt iLt W->ddR (A0B iLt x W)=U5 x (ddR W)
 |[],_=>rfl
 |y :: W,h=>by
  have hh:=J4.1 h;unfold A0B;cases hxy:iLt x y with
  |true =>
   simp only[A4];obtain⟨g,zs,e⟩:=A7V y W;have hne:¬ x.1=y.1:=B2L hxy;rw[A26 x,e];show(bif decide (x.1=y.1) then _ else _)=U5 x _;unfold U5;rw[dF hne,dF (fun h=>hne h.symm),A4M (x:=(y.1,g)) (y:=y) rfl,hxy];rfl
  |false =>
   simp only[A9];rw[A26 y (A0B iLt x W),B8v x hh.2,A26 y W];have hW:∀ z∈W,iLt z y=false:=hh.1;cases hD:ddR W with
   |nil =>
    have hWn:W=[]:=by
     cases W with
     |nil=>rfl
     |cons z W=>obtain⟨g,zs,e⟩:=A7V z W;rw[e] at hD;cases hD
    show(bif decide (y.1=x.1) then [(y.1,y.2||x.2)] else [y,x])=U5 x [y];unfold U5;rw[hxy];cases decide (y.1=x.1)<;>rfl
   |cons z zs =>
    have hz:∃ w∈W,z.1=w.1:=by
     cases W with
     |nil=>cases hD
     |cons w W =>
      obtain⟨g,zs',e⟩:=A7V w W;rw[e] at hD;cases hD;exact⟨w,by simp,rfl⟩
    obtain⟨w,hw,hzw⟩:=hz;have hzy:iLt z y=false:=by rw[B32 hzw];exact hW w hw
    show _=U5 x (bif decide (y.1=z.1) then(y.1,y.2||z.2) :: zs else y :: z :: zs);by_cases hyz:y.1=z.1
    ·
     rw[dT hyz];by_cases hxz:z.1=x.1
     ·have hyx:y.1=x.1:=hyz.trans hxz;show _=U5 x ((y.1,y.2||z.2) :: zs);unfold U5;rw[dT hxz,dT (p:=((y.1,y.2||z.2):Den A8).1=x.1) hyx];show(bif decide (y.1=z.1) then _ else _)=_;rw[dT hyz];show(y.1,y.2||(z.2||x.2)) :: zs=(y.1,(y.2||z.2)||x.2) :: zs;rw[A0P]
     ·have hyx:¬ y.1=x.1:=fun e=>hxz (hyz.symm.trans e);have hxz':iLt x z=false:=by rw[A4M hyz.symm];exact hxy
      show _=U5 x ((y.1,y.2||z.2) :: zs);unfold U5;rw[dF hxz,hxz',dF (p:=((y.1,y.2||z.2):Den A8).1=x.1) hyx,A4M (x:=(y.1,y.2||z.2)) (y:=y) rfl,hxy];show(bif decide (y.1=z.1) then _ else _)=_;rw[dT hyz];rfl
    ·rw[dF hyz];have hyz':iLt y z=true:=by
      cases e:iLt y z with
      |true=>rfl
      |false=>exact absurd (B3T e hzy) hyz
     show _=U5 x (y :: z :: zs);rw[show U5 x (y :: z :: zs)=bif decide (y.1=x.1) then(y.1,y.2||x.2) :: z :: zs else bif iLt x y then x :: y :: z :: zs else y :: U5 x (z :: zs) from rfl,hxy];by_cases hyx:y.1=x.1
     ·have hxz:¬ z.1=x.1:=fun e=>hyz (hyx.trans e.symm);have hxz':iLt x z=true:=by rw[B32 hyx.symm];exact hyz'
      rw[show U5 x (z :: zs)=bif decide (z.1=x.1) then(z.1,z.2||x.2) :: zs else bif iLt x z then x :: z :: zs else z :: U5 x zs from rfl,dF hxz,hxz',dT hyx];show(bif decide (y.1=x.1) then _ else _)=_;rw[dT hyx];rfl
     ·rw[dF hyx];have hd:∃ q qs,U5 x (z :: zs)=q :: qs∧¬ y.1=q.1:=by
       unfold U5;cases decide (z.1=x.1)
       ·cases iLt x z
        ·exact⟨_,_,rfl,hyz⟩
        ·exact⟨_,_,rfl,hyx⟩
       ·exact⟨_,_,rfl,hyz⟩
      obtain⟨q,qs,e1,e2⟩:=hd;rw[e1];show(bif decide (y.1=q.1) then _ else _)=_;rw[dF e2];rfl
def C9q(l:List (Den A8)):List (Den A8):=l.foldl (fun acc x=>A0B iLt x acc) []
theorem B7y:∀ (l acc:List (Den A8)),Srt iLt acc->Srt iLt (l.foldl (fun acc x=>A0B iLt x acc) acc)∧P2 iLt (acc++l) (l.foldl (fun acc x=>A0B iLt x acc) acc)
 |[],acc,h=>⟨h,by rw[D5];exact P2.refl _⟩
 |x :: l,acc,h=>by
  have h1:=B59 A0N x h;obtain⟨h2,h3⟩:=B7y l (A0B iLt x acc) h1.1;refine⟨h2,?_⟩;have:=(h1.2.app (P2.refl l)).trans h3;simpa using this
theorem B5F:∀ (l acc:List (Den A8)),Srt iLt acc->ddR (l.foldl (fun acc x=>A0B iLt x acc) acc)=l.foldl (fun acc x=>U5 x acc) (ddR acc)
 |[],_,_=>rfl
 |x :: l,acc,h=>by
  rw[Q1,Q1,B5F l _ (B59 A0N x h).1,B8v x h]
def K7(a b:List (Den A8)):List (Den A8):=(a++b).foldl (fun acc x=>U5 x acc) []
theorem A1H:∀ (l acc:List (Den A8)),(l.foldl (fun acc x=>U5 x acc) acc).length≤acc.length+l.length
 |[],_=>B9 _
 |x :: l,acc=>by
  have h1:=A1H l (U5 x acc);have h2:=A7x x acc;simp only[Q1,B5];omega
theorem B5H{N:Nat}(hN:Big N)(L:List (Den A8))(hL:L.length≤4194304)(hs:y7 L)(x:Den A8):A9f N L x=some (U5 x L):=by
 have hN':1099511627776≤N:=hN;unfold A9f;have tl:∀ a:ByteArray,a.toList=a.data.toList:=fun a=>ByteArray.toList_eq a;have key:∀ (R pre new:List (Den A8)) (put:Bool) (M:Nat),L=pre++R->R.length<M->new.length≤pre.length+(bif put then 1 else 0)->(put=true->∀ y∈R,¬ y.1=x.1) ->
   D4 (A4R N (fun (x1,x2,x3)=>(bif (!x3) then(bif (decide ((x2.length+[x1].length)*24≤140737488355328)) then some (x2++[x1]) else none) else some x2)) (fun ρ4=>some (ρ4))) M (L,x,new,put,(pre.length:Int))=some (new++bif put then R else U5 x R):=by
  intro R;induction R with
  |nil =>
   intro pre new put M ho hM hn hp;obtain⟨M,rfl⟩:∃ K,M=K+1:=⟨M-1,by omega⟩;have hl:pre.length≤4194304:=by rw[ho] at hL;simpa using hL
   show(bif _ then _ else(bif (!put) then _ else _))=_;rw[dF (by rw[ho];simp)];have:new.length≤pre.length+1:=by cases put<;>simp at hn<;>omega
   rw[dT (p:=(new.length+[x].length)*24≤140737488355328) (by simp only[B5,C8];omega)];cases put<;>simp[U5]
  |cons y R ih =>
   intro pre new put M ho hM hn hp;obtain⟨M,rfl⟩:∃ K,M=K+1:=⟨M-1,by omega⟩;simp only[B5] at hM;have hpo:pre.length<L.length:=by rw[ho];simp
   have hl:pre.length≤4194304:=by omega
   have hnl:new.length≤pre.length+1:=by cases put<;>simp at hn<;>omega
   have g1:L.getD pre.length (dft A8)=y:=by rw[ho];exact gD0 _ _ _ _
   have ho':L=(pre++[y])++R:=by rw[ho];simp
   have hR:∀ z∈R,iLt y z=true:=by
    have:=hs;rw[ho] at this;exact(J4.1 (Q7.1 this).2.1).1
   have c1:∀ q:Den A8,decide ((new.length+[q].length)*24≤140737488355328)=true:=fun q=>dT (by simp only[B5,C8];omega);have c2:∀ q r:Den A8,decide (((new++[q]).length+[r].length)*24≤140737488355328)=true:=fun q r=>dT (by simp only[A5,B5,C8];omega)
   have ih1:∀ (new':List (Den A8)) (put':Bool),new'.length≤pre.length+1+(bif put' then 1 else 0)->(put'=true->∀ y∈R,¬ y.1=x.1)->_:=fun new' put' h1 h2=>ih (pre++[y]) new' put' M ho' (by omega) (by simpa using h1) h2;simp only[A5,B5,C8,E1] at ih1;show(bif _ then _ else _)=_
   rw[E3 L hpo,E2 pre.length,C6,g1,I5 (B9 _) (by omega),tl,tl];simp only[A4,D0];by_cases hyx:y.1=x.1
   ·have hput:put=false:=by
     cases put with
     |false=>rfl
     |true=>exact absurd hyx (hp rfl y (by simp))
    subst hput;rw[dT hyx];have hRx:∀ z∈R,¬ z.1=x.1:=fun z hz e=>B2L (hR z hz) (hyx.trans e.symm);have fin:∀ g:Bool,D4 (A4R N (fun (x1,x2,x3)=>(bif (!x3) then(bif (decide ((x2.length+[x1].length)*24≤140737488355328)) then some (x2++[x1]) else none) else some x2)) (fun ρ4=>some (ρ4))) M (L,x,new++[(y.1,g)],true,((pre.length+1:Nat):Int))=some (new++(y.1,g) :: R):=fun g=>by
     have hn:new.length≤pre.length+0:=hn;refine(ih1 (new++[(y.1,g)]) true (by simp;omega) (fun _=>hRx)).trans ?_;simp
    unfold U5;rw[dT hyx];have e1:=c1 (y.1,true);have e2:=c1 (y.1,x.2);simp only[A4,A9];cases hy2:y.2 with
    |true=>simp only[A4,A3Z];rw[e1];exact fin true
    |false=>simp only[A9,p9];rw[e2];exact fin x.2
   ·rw[dF hyx];have e1:=c1 x;have e2:=c2 x (y.1,y.2);have e3:=c1 (y.1,y.2);cases put with
    |true =>
     simp only[N7,A9,A4];rw[e3];refine(ih1 (new++[(y.1,y.2)]) true (by simp at hn ⊢; omega) (fun _ z hz=>hp rfl z (by simp[hz]))).trans ?_;simp
    |false =>
     have hn:new.length≤pre.length+0:=hn;have hgt:(!(Op.bytesLess y.1.data.toList x.1.data.toList||decide (y.1=x.1)))=iLt x y:=by
      rw[dF hyx,A44];show(!iLt y x)=iLt x y;cases e:iLt x y with
      |true=>rw[A0N.asym e];rfl
      |false =>
       cases e':iLt y x with
       |true=>rfl
       |false=>exact absurd (B3T e' e) hyx
     rw[dF hyx] at hgt;simp only[N3,A9,A4,hgt];unfold U5;rw[dF hyx];cases hlt:iLt x y with
     |true =>
      simp only[A4,A9];rw[e1,e2];have hRx:∀ z∈R,¬ z.1=x.1:=fun z hz e=>B2L (A0N.tr _ _ _ hlt (hR z hz)) e.symm;refine(ih1 (new++[x]++[(y.1,y.2)]) true (by simp;omega) (fun _=>hRx)).trans ?_;simp
     |false =>
      simp only[A9];rw[e3];refine(ih1 (new++[(y.1,y.2)]) false (by simp;omega) (fun h=>by cases h)).trans ?_;simp
 have:=key L [] [] false N rfl (by omega) (B9 _) (fun h=>by cases h);exact this
open Go Go.Proofs.YtkmhopbmpeiofaaGreat.Nx Go.RowKit
set_option linter.unusedVariables false
set_option linter.unusedSimpArgs false
theorem A4F{N:Nat}(hN:Big N)(a b:List (Den A8))(ha:a.length≤1048576)(hb:b.length≤1048576):B0h N a b=some (K7 a b):=by
 have hN':1099511627776≤N:=hN;unfold B0h K7;have key2:∀ (R pre out:List (Den A8)) (M:Nat),b=pre++R->R.length<M->out.length≤1048576+pre.length->y7 out ->
   D4 (A5K N (fun x5=>some x5) (fun ρ6=>some (ρ6))) M (b,out,(pre.length:Int))=some (R.foldl (fun acc x=>U5 x acc) out):=by
  intro R;induction R with
  |nil =>
   intro pre out M ho hM hn hs;obtain⟨M,rfl⟩:∃ K,M=K+1:=⟨M-1,by omega⟩;show(bif _ then _ else _)=_;rw[dF (by rw[ho];simp)];rfl
  |cons x R ih =>
   intro pre out M ho hM hn hs;obtain⟨M,rfl⟩:∃ K,M=K+1:=⟨M-1,by omega⟩;simp only[B5] at hM;have hpo:pre.length<b.length:=by rw[ho];simp
   have g1:b.getD pre.length (dft A8)=x:=by rw[ho];exact gD0 _ _ _ _
   have hl:=A7x x out;show(bif _ then _ else _)=_;rw[E3 b hpo,E2 pre.length,C6,g1,I5 (B9 _) (by omega),B5H hN out (by omega) hs x,A3];have:=ih (pre++[x]) (U5 x out) M (by rw[ho];simp) (by omega) (by simp;omega) (A8y x hs);rw[A5] at this;exact this
 have key1:∀ (R pre out:List (Den A8)) (M:Nat),a=pre++R->R.length<M->out.length≤pre.length->y7 out ->
   D4 (A7Y N (fun (x2,x3)=>D4 (A5K N (fun x5=>some x5) (fun ρ6=>some (ρ6))) N (x2,x3,(0:Int))) (fun ρ7=>some (ρ7))) M (a,b,out,(pre.length:Int))=some (b.foldl (fun acc x=>U5 x acc) (R.foldl (fun acc x=>U5 x acc) out)):=by
  intro R;induction R with
  |nil =>
   intro pre out M ho hM hn hs;obtain⟨M,rfl⟩:∃ K,M=K+1:=⟨M-1,by omega⟩;have hl:pre.length≤1048576:=by rw[ho] at ha;simpa using ha
   show(bif _ then _ else _)=_;rw[dF (by rw[ho];simp)];exact key2 b [] out N rfl (by omega) (by simp;omega) hs
  |cons x R ih =>
   intro pre out M ho hM hn hs;obtain⟨M,rfl⟩:∃ K,M=K+1:=⟨M-1,by omega⟩;simp only[B5] at hM;have hpo:pre.length<a.length:=by rw[ho];simp
   have g1:a.getD pre.length (dft A8)=x:=by rw[ho];exact gD0 _ _ _ _
   have hl:=A7x x out;show(bif _ then _ else _)=_;rw[E3 a hpo,E2 pre.length,C6,g1,I5 (B9 _) (by omega),B5H hN out (by omega) hs x,A3];have:=ih (pre++[x]) (U5 x out) M (by rw[ho];simp) (by omega) (by simp;omega) (A8y x hs);rw[A5] at this;exact this
 rw[List.foldl_append];exact key1 a [] [] N rfl (by omega) (B9 _) List.Pairwise.nil
theorem C64(l x:Den A8)(R:List (Den A8))(e:l.1=x.1):ddR (l :: x :: R)=ddR ((l.1,l.2||x.2) :: R):=by
 rw[A26 l,A26 x,A26 (l.1,l.2||x.2)];cases ddR R with
 |nil =>
  show(bif decide (l.1=x.1) then _ else _)=_;rw[dT e];rfl
 |cons z zs =>
  show(match (bif decide (x.1=z.1) then(x.1,x.2||z.2) :: zs else x :: z :: zs) with | []=>[l]|q :: qs=>bif decide (l.1=q.1) then(l.1,l.2||q.2) :: qs else l :: q :: qs)=(bif decide (l.1=z.1) then(l.1,(l.2||x.2)||z.2) :: zs else(l.1,l.2||x.2) :: z :: zs)
  rw[e];by_cases h:x.1=z.1
  ·rw[dT h];show(bif decide (x.1=x.1) then _ else _)=_;rw[dT rfl,A0P];rfl
  ·rw[dF h];show(bif decide (x.1=x.1) then _ else _)=_;rw[dT rfl];rfl
theorem A2V{N:Nat}(hN:4398046511104<N)(a b:List (Den A8))(ha:a.length≤1048576)(hb:b.length≤1048576):A8a N a b=some (K7 a b):=by
 unfold A8a;obtain⟨W,w1,w2,w3⟩:=C3F (d:=dft A8) A0N (C8n ()) hN (a++b) (by simp;omega);have hW:W=C9q (a++b):=by
  have:=B7y (a++b) [] List.Pairwise.nil;exact Srt.uniq A0N w1 this.1 (w2.symm.trans this.2)
 have hl:W.length≤2097152:=by rw[w2.len A0N _ rfl];simp;omega
 have hD:ddR W=K7 a b:=by rw[hW];exact B5F (a++b) [] List.Pairwise.nil
 rw[A7X N a ha,A3,dT (by omega),A3E,w3,A3,← hD];simp only[A4];have key:∀ (R pre o:List (Den A8)) (l:Den A8) (M:Nat),W=pre++R->R.length<M->o.length+1≤pre.length ->
   D4 (A7j N (fun x3=>some x3) (fun ρ4=>some (ρ4))) M (o++[l],W,(W.length:Int),(pre.length:Int))=some (o++ddR (l :: R)):=by
  intro R;induction R with
  |nil =>
   intro pre o l M ho hM hn;obtain⟨M,rfl⟩:∃ K,M=K+1:=⟨M-1,by omega⟩;show(bif _ then _ else _)=_;rw[dF (by rw[ho];simp)];rfl
  |cons x R ih =>
   intro pre o l M ho hM hn;obtain⟨M,rfl⟩:∃ K,M=K+1:=⟨M-1,by omega⟩;simp only[B5] at hM;have hpo:pre.length<W.length:=by rw[ho];simp
   have g1:W.getD pre.length (dft A8)=x:=by rw[ho];exact gD0 _ _ _ _
   have g2:(o++[l]).getD o.length (dft A8)=l:=gD0 _ _ _ _;have hol:(o++[l]).length=o.length+1:=by simp
   have hw:wrap64 (((o++[l]).length:Int)-1)=(o.length:Int):=by rw[hol];exact wN (by omega) (by omega)
   have st:∀ z:Den A8,(o++[l]).set o.length z=o++[z]:=fun z=>st0 _ _ _ _;have h1:=C8C o [] l;have c1:decide (((o++[l]).length+[((x.1,x.2):Den A8)].length)*24≤140737488355328)=true:=dT (by simp only[A5,B5,C8];omega);show(bif _ then _ else _)=_
   rw[E3 W hpo,E2 pre.length,hw,C6,C6,g1,g2,h1,C8X,I5 (B9 _) (by omega),dT (p:=(0:Int)<((o++[l]).length:Int)) (by rw[hol];omega),c1,st,st];simp only[A4,D0];have nx:∀ z:Den A8,D4 (A7j N (fun x3=>some x3) (fun ρ4=>some (ρ4))) M (o++[z],W,(W.length:Int),((pre.length+1:Nat):Int))=some (o++ddR (z :: R)):=fun z=>by
    have:=ih (pre++[x]) o z M (by rw[ho];simp) (by omega) (by simp;omega);rw[A5] at this;exact this
   by_cases e:l.1=x.1
   ·rw[dT e,C64 l x R e];simp only[A4];cases hl2:l.2 with
    |true=>exact nx (l.1,true)
    |false=>exact nx (l.1,x.2)
   ·rw[dF e];simp only[A9];have:=ih (pre++[x]) (o++[l]) (x.1,x.2) M (by rw[ho];simp) (by omega) (by simp;omega);rw[A5] at this;refine this.trans ?_;obtain⟨g,zs,e3⟩:=A7V x R;rw[A26 l (x :: R),e3];show some (o++[l]++(x.1,g) :: zs)=some (o++bif decide (l.1=x.1) then _ else _);rw[dF e];simp
 cases hWc:W with
 |nil =>
  obtain⟨M,rfl⟩:∃ K,N=K+1:=⟨N-1,by omega⟩;rfl
 |cons x R =>
  obtain⟨M,rfl⟩:∃ K,N=K+1:=⟨N-1,by omega⟩;rw[← hWc];have hpo:0<W.length:=by rw[hWc];simp
  have g1:W.getD 0 (dft A8)=x:=by rw[hWc];rfl
  show(bif decide ((0:Int)<_) then(bif (decide ((0:Int)≤0)&&decide ((0:Int)<_)) then(bif decide ((0:Int)<_) then _ else _) else _) else _)=_;rw[dT (p:=(0:Int)<(W.length:Int)) (by omega),dF (p:=(0:Int)<(([]:List (Den A8)).length:Int)) (by simp)];have c1:decide ((([]:List (Den A8)).length+[((x.1,x.2):Den A8)].length)*24≤140737488355328)=true:=dT (by simp)
  simp only[Int.toNat_zero,g1,c1,A4,A9,D0,Z6,A1K];have:=key R [x] [] (x.1,x.2) M hWc (by rw[hWc] at hl;simp at hl;omega) (by simp);rw[show wrap64 ((0:Int)+1)=(([x]:List (Den A8)).length:Int) from I5 (i:=0) (B9 _) (by omega)];refine this.trans ?_;rw[hWc];rfl
open Go Go.Proofs.YtkmhopbmpeiofaaGreat.Nx Go.RowKit
set_option linter.unusedVariables false
set_option linter.unusedSimpArgs false
theorem B9Q{a b:Int}(h:¬ a≤b):b<a:=Int.not_le.1 h
theorem C8Q{a b:Int}(h:a≤b):¬ b<a:=Int.not_lt.2 h
theorem B6S{a b:Int}(h:a<b):¬ b≤a:=Int.not_le.2 h
theorem C2C{a b:Int}(h:a=b):b≤a:=Int.le_of_eq h.symm
def X9(key:Int)(M:List (Den A8)):List (Den A7)->List (Den A7)
 |[]=>[(key,M)]
 |s :: ss=>bif decide (key≤s.1) then(bif decide (s.1=key) then(key,M) :: ss else(key,M) :: s :: ss) else s :: X9 key M ss
theorem A9G(key:Int)(M:List (Den A8))(s:Den A7)(ss:List (Den A7)):X9 key M (s :: ss)=bif decide (key≤s.1) then(bif decide (s.1=key) then(key,M) :: ss else(key,M) :: s :: ss) else s :: X9 key M ss:=rfl
def A2I(key:Int):List (Den A7)->Nat
 |[]=>0
 |s :: ss=>bif decide (s.1<key) then A2I key ss+1 else 0
theorem B8q(key:Int):∀ S:List (Den A7),A2I key S≤S.length
 |[]=>B9 _
 |s :: ss=>by
  unfold A2I;cases decide (s.1<key)
  ·exact P1 _
  ·have:=B8q key ss;simp only[A4,B5];omega
theorem B65(key:Int)(M:List (Den A8)):∀ S:List (Den A7),(∀ s∈S,s.1≠key)->X9 key M S=S.take (A2I key S)++(key,M) :: S.drop (A2I key S)
 |[],_=>rfl
 |s :: ss,h=>by
  have ih:=B65 key M ss fun x hx=>h x (I7 _ hx);have hs:s.1≠key:=h s (List.mem_cons_self ..);unfold X9 A2I;by_cases hk:key≤s.1
  ·rw[dT hk,dF hs,dF (C8Q hk)];rfl
  ·rw[dF hk,dT (B9Q hk),A9,A4,ih];rfl
def A1c(S:List (Den A7)):Prop:=S.Pairwise fun a b=>(a.1:Int)<b.1
theorem B1o(key:Int)(M:List (Den A8)):∀ (S:List (Den A7)) (j:Nat),A1c S->(hj:j<S.length)->(S[j]).1=key->X9 key M S=S.set j (key,M)
 |s :: ss,0,_,_,h=>by
  have h:s.1=key:=h;unfold X9;rw[dT (C2C h),dT h];rfl
 |s :: ss,j+1,hr,hj,h=>by
  obtain⟨h1,h2⟩:=J4.1 hr;have hj':j<ss.length:=by simpa using hj
  have h:(ss[j]).1=key:=by simpa using h
  have hlt:=h1 _ (C2 hj');rw[h] at hlt;unfold X9;rw[dF (B6S hlt),A9,B1o key M ss j h2 hj' h];rfl
theorem A7F(key:Int)(M:List (Den A8)):∀ S:List (Den A7),(X9 key M S).length≤S.length+1∧0<(X9 key M S).length
 |[]=>⟨B9 _,Nat.zero_lt_one⟩
 |s :: ss=>by
  have:=A7F key M ss;unfold X9;cases decide (key≤s.1)<;>cases decide (s.1=key)<;>simp<;>omega
theorem A5y(key:Int)(M:List (Den A8)):∀ (S:List (Den A7)) (x:Den A7),x∈X9 key M S->x=(key,M)∨x∈S
 |[],x,h=>.inl (by simpa[X9] using h)
 |s :: ss,x,h=>by
  unfold X9 at h;cases hd:decide (key≤s.1) with
  |true =>
   rw[hd,A4] at h;cases hd2:decide (s.1=key) with
   |true=>rw[hd2,A4] at h;rcases D8.1 h with h|h<;>simp[h]
   |false=>rw[hd2,A9] at h;rcases D8.1 h with h|h;exact .inl h;exact .inr h
  |false =>
   rw[hd,A9] at h;rcases D8.1 h with h|h
   ·exact .inr (by simp[h])
   ·rcases A5y key M ss x h with h|h
    ·exact .inl h
    ·exact .inr (by simp[h])
theorem B1l(key:Int)(M:List (Den A8)):∀ S:List (Den A7),(S.map Prod.fst).Sublist ((X9 key M S).map Prod.fst)
 |[]=>List.nil_sublist _
 |s :: ss=>by
  unfold X9;cases hd:decide (key≤s.1) with
  |true =>
   cases hd2:decide (s.1=key) with
   |true =>
    have e:s.1=key:=I9 hd2;simp only[A4,F6,e];exact A0f _
   |false=>simp only[A4,A9,F6];exact List.Sublist.cons _ (A0f _)
  |false=>simp only[A9,F6];exact List.Sublist.cons_cons _ (B1l key M ss)
theorem C3T(S:List (Den A7)):A1c S↔(S.map Prod.fst).Pairwise fun a b:Int=>a<b:=by
 unfold A1c;rw[A46]
theorem A6V{S T:List (Den A7)}(h:(S.map Prod.fst).Sublist (T.map Prod.fst))(hT:A1c T):A1c S:=by
 rw[C3T] at *
 exact hT.sublist h
theorem B3S(l:List (Den A7))(h:i6 (Y6 l) 0 l=true):A1c l:=by
 have hall:∀ i (hi:i<l.length),Y6 l i l[i]=true:=by
  have:∀ (m:List (Den A7)) (k:Nat),i6 (Y6 l) k m=true->∀ i (hi:i<m.length),Y6 l (k+i) m[i]=true:=by
   intro m;induction m with
   |nil=>intro k _ i hi;exact absurd hi (by simp)
   |cons x xs ih =>
    intro k h i hi;rw[A9y,A6] at h;cases i with
    |zero=>exact h.1
    |succ i =>
     have:=ih (k+1) h.2 i (by simpa using hi);rw[show k+(i+1)=k+1+i from by omega];simpa using this
  intro i hi;have:=this l 0 h i hi
  rwa [E1] at this
 have hstep:∀ i (hi:i+1<l.length),(l[i]).1<(l[i+1]).1:=fun i hi=>by
  have h:=hall (i+1) hi;unfold Y6 at h;rw[dT (by omega:(0:Int)<((i+1:Nat):Int)),A4,A6,A6] at h;have e:l.getD (i+1-1) (dft A7)=l[i]:=by simp[List.getD,show i<l.length from by omega]
  have h2:=h.2.1;rw[e] at h2;rw[M6,U8] at h2;exact B9Q h2
 unfold A1c;rw[O9];intro i j hi hj hij;induction j with
 |zero=>omega
 |succ j ih =>
  have h1:=hstep j hj;rcases D9 i j with h|h
  ·have:=ih (by omega) h;exact Int.lt_trans this h1
  ·have:i=j:=by omega
   subst this;exact h1
def M4(p:Den A0)(T:List (Den A7)):Den A0:=(p.1,p.2.1,p.2.2.1,p.2.2.2.1,p.2.2.2.2.1,T)
theorem A53{α:Type}(f:Nat->α->Bool):∀ (l:List α) (k:Nat),i6 f k l=true->∀ x∈l,∃ i,f i x=true
 |[],_,_,x,h=>by cases h
 |y :: ys,k,h,x,hx=>by
  rw[A9y,A6] at h;rcases D8.1 hx with rfl|hx
  ·exact⟨k,h.1⟩
  ·exact A53 f ys (k+1) h.2 x hx
theorem B15{p:Den A0}(hp:okz A0 p){T:List (Den A7)}(h:R4 (M4 p T)=true):okz A0 (M4 p T):=by
 refine⟨hp.1,hp.2.1,hp.2.2.1,hp.2.2.2.1,hp.2.2.2.2.1,?_⟩;unfold R4 M4 at h;rw[A6] at h;have h:=h.2;simp only at h;cases hh:p.2.1 with
 |false =>
  rw[hh] at h;simp only[A9,A6,D7] at h;have hT:T=[]:=G7.1 (by have:=h.2.2.2;omega);subst hT;exact⟨P1 _,fun _ h=>by cases h⟩
 |true =>
  rw[hh] at h;simp only[A4,A6,M6,U8] at h;obtain⟨_,_,_,h80,_,_,hs⟩:=h;refine⟨by show T.length≤1048576;omega,fun s hs' => ?_⟩;obtain⟨i,hi⟩:=A53 _ T 0 hs s hs';unfold Y6 at hi;simp only[A6,D7] at hi;obtain⟨_,_,hit,h300⟩:=hi;refine⟨trivial,by show s.2.length≤1048576;omega,fun x hx => ?_⟩
  obtain⟨k,hk⟩:=A53 _ s.2 0 hit x hx;unfold A3N at hk;simp only[A6,M6,U8] at hk;exact⟨by show x.1.size≤1048576;have:=hk.1;omega,trivial⟩
def A1y(p:Den A0)(T:List (Den A7)):Den A0×Bool:=bif R4 (M4 p T) then(M4 p T,true) else(p,false)
theorem B7h{N:Nat}(hN:Big N)(p:Den A0)(hp:okz A0 p)(T:List (Den A7))(hT:A9L T) :
  ((A6m N (M4 p T)).bind fun r9=>(bif (!r9) then(A0U N p).bind fun r10=>some (r10,false) else(A0U N (M4 p T)).bind fun r11=>some (r11,true)))=some (A1y p T):=by
 rw[A8S hN (M4 p T) ⟨hp.2.2.2.1.1,hp.2.2.2.2.1.1,hT⟩,A3];unfold A1y;cases hk:R4 (M4 p T) with
 |false=>rw[n9 hN p hp];rfl
 |true=>rw[n9 hN _ (B15 hp hk)];rfl
theorem C3G{N:Nat}(hN:Big N)(p:Den A0)(hp:okz A0 p)(key:Int)(list:List (Den A8))(hl:list.length≤1048576) :
  A1Q N p key list=some (A1y p (X9 key (K7 (P9 key p.2.2.2.2.2) list) p.2.2.2.2.2)):=by
 have hN':1099511627776≤N:=hN;have hS4:=B0W hp.2.2.2.2.2;have hSl:p.2.2.2.2.2.length≤1048576:=hp.2.2.2.2.2.1;have hfs:=A9s (key:=key) (fun s hs=>hp.2.2.2.2.2.2 s hs);unfold A1Q;rw[n9 hN p hp,A3,A52 hN p hp key,A3,A4F hN _ list hfs.1 hl,A3];have hML:(K7 (P9 key p.2.2.2.2.2) list).length≤4194304:=by
  have:=A1H (P9 key p.2.2.2.2.2++list) [];have h1:=hfs.1;unfold K7;simp only[C8,A5] at this;omega
 generalize K7 (P9 key p.2.2.2.2.2) list=M at hML;obtain⟨S,hS⟩:∃ S:List (Den A7),S=p.2.2.2.2.2:=⟨_,rfl⟩;rw[← hS] at hS4 hSl ⊢;have hfin:∀ T:List (Den A7),T=X9 key M S->A9L T:=fun T e=>by
  subst e;refine⟨by have:=(A7F key M S).1;omega,fun s hs => ?_⟩;rcases A5y key M S s hs with rfl|h
  ·exact hML
  ·exact hS4.2 s h
 refine S3 (B:=A4r (Ω:=(Den A0)×Bool) N _ _) (A:=List (Den A7)×Bool) (fun i a=>(key,p,_,(p.1,p.2.1,p.2.2.1,p.2.2.2.1,p.2.2.2.2.1,a.1),(key,M),a.2,(i:Int))) (fun i a r=>a.1.length≤i+(bif a.2 then 1 else 0)->(a.1++bif a.2 then S.drop i else X9 key M (S.drop i))=X9 key M S->r=some (A1y p (X9 key M S))) S.length
  (fun i a rec_ hi ih h1 h2=>by
   obtain⟨T,b⟩:=a;simp only at h1 h2;rw[X3 hi] at h2;show(bif _ then _ else _)=_;rw[← hS,E3 S hi,E2 i,F2 S hi,I5 (B9 i) (by omega)];simp only[D0,A4,A5,B5,C8];cases b with
   |true =>
    simp only[A4] at h1 h2;simp only[N7,A9];rw[dT (p:=(T.length+(0+1))*32≤140737488355328) (by omega)];exact ih (T++[S[i]],true) (by simp only[A5,B5,C8,A4];omega) (by simpa using h2)
   |false =>
    simp only[A9] at h1 h2;simp only[N3,A4];rw[dT (p:=(T.length+(0+1))*32≤140737488355328) (by omega),dT (p:=(T.length+(0+1)+(0+1))*32≤140737488355328) (by omega)];simp only[A4];rw[A9G] at h2;cases hd:decide (key≤(S[i]).1) with
    |false =>
     rw[hd,A9] at h2;exact ih (T++[S[i]],false) (by simp only[A5,B5,C8,A9];omega) (by simpa using h2)
    |true =>
     rw[hd,A4] at h2;simp only[A4];cases hd2:decide ((S[i]).1=key) with
     |true =>
      rw[hd2,A4] at h2;exact ih (T++[(key,M)],true) (by simp only[A5,B5,C8,A4];omega) (by simpa using h2)
     |false =>
      rw[hd2,A9] at h2;exact ih (T++[(key,M)]++[S[i]],true) (by simp only[A5,B5,C8,A4];omega) (by simpa using h2))
  (fun a rec_ h1 h2=>by
   obtain⟨T,b⟩:=a;show(bif _ then _ else _)=_;rw[← hS,Y5 S];simp only[Q9] at h2;cases b with
   |true =>
    simp only[A4,D5] at h2;subst h2;exact B7h hN p hp _ (hfin _ rfl)
   |false =>
    simp only[A9] at h1 h2;have h2:T++[(key,M)]=X9 key M S:=h2;show(bif decide ((T.length+1)*32≤140737488355328) then _ else none)=_;rw[dT (by omega)];have:=B7h hN p hp (T++[(key,M)]) (hfin _ h2);rw[← h2];exact this)
  N (by omega) ([],false) (by simp) (by simp)
theorem B60{N:Nat}(hN:Big N)(p:Den A0)(hp:okz A0 p)(T:List (Den A7))(hT:A9L T) :
  ((B0a N (M4 p T)).bind fun r12=>(bif (!r12) then(A5l N p).bind fun r13=>some (r13,false) else some (M4 p T,true)))=some (A1y p T):=by
 rw[B5z hN (M4 p T) ⟨hp.2.2.2.1.1,hp.2.2.2.2.1.1,hT⟩,A3];unfold A1y;cases hk:R4 (M4 p T) with
 |false=>rw[A2E hN p hp];rfl
 |true=>rfl
def B9D(key:Int)(list:List (Den A8))(S:List (Den A7)):List (Den A7) :=
 bif decide (Y1 (fun s:Den A7=>decide (s.1=key)) 0 S<(0:Int)) then S.take (A2I key S)++(key,K7 [] list) :: S.drop (A2I key S)
 else S.set (Y1 (fun s:Den A7=>decide (s.1=key)) 0 S).toNat ((S.getD (Y1 (fun s:Den A7=>decide (s.1=key)) 0 S).toNat (dft A7)).1,K7 (S.getD (Y1 (fun s:Den A7=>decide (s.1=key)) 0 S).toNat (dft A7)).2 list)
theorem B5K{i n:Nat}(h:i<n):decide ((i:Int)<(n:Int))=true:=O5 (by omega)
theorem C4q{N:Nat}(hN:Big N){kx kr}(e0 p r1:Den A0)(key:Int)(list:List (Den A8))(S:List (Den A7))(hS:S=r1.2.2.2.2.2)(hSl:S.length≤1048576) :
  D4 (A5U (Ω:=(Den A0)×Bool) N kx kr) N (key,list,p,e0,r1,(0:Int))=kx (key,list,p,e0,r1,((A2I key S:Nat):Int)):=by
 have hN':1099511627776≤N:=hN;have:=f7 (B:=A5U (Ω:=(Den A0)×Bool) N kx kr) S (fun i=>(key,list,p,e0,r1,(i:Int))) (fun i l=>kx (key,list,p,e0,r1,((i+A2I key l:Nat):Int)))
  (fun i hi rec_ ih=>by
   show(bif _ then _ else _)=_;rw[← hS,E3 S hi,E2 i,F2 S hi,I5 (B9 i) (by omega)];simp only[D0,A4];unfold A2I;cases decide ((S[i]).1<key) with
   |true=>rw[A4,ih,A4];congr 5;rw[show i+1+A2I key (List.drop (i+1) S)=i+(A2I key (List.drop (i+1) S)+1) from by omega]
   |false=>rfl)
  (fun rec_=>by
   show(bif _ then _ else _)=_;rw[← hS,Y5 S];rfl) (N:=N) (by omega)
 rw[E1] at this;exact this
theorem C42{N:Nat}(hN:Big N)(hN2:4398046511104<N)(p:Den A0)(hp:okz A0 p)(key:Int)(list:List (Den A8))(hl:list.length≤1048576) :
  A5k N p key list=some (A1y p (B9D key list p.2.2.2.2.2)):=by
 have hS4:=B0W hp.2.2.2.2.2;have hSl:p.2.2.2.2.2.length≤1048576:=hp.2.2.2.2.2.1;have hSi:∀ s∈p.2.2.2.2.2,s.2.length≤1048576:=fun s hs=>(hp.2.2.2.2.2.2 s hs).2.1;have hM:∀ l:List (Den A8),l.length≤1048576->(K7 l list).length≤4194304:=fun l h=>by
  have:=A1H (l++list) [];unfold K7;simp only[C8,A5] at this;omega
 unfold A5k B9D;rw[A2E hN p hp,A3,A5S hN p hp key,A3];have hor:=B1F (fun s:Den A7=>decide (s.1=key)) p.2.2.2.2.2 0;generalize Y1 (fun s:Den A7=>decide (s.1=key)) 0 p.2.2.2.2.2=j at hor ⊢;rcases hor with rfl|⟨k,_,hk,rfl⟩
 ·have hlt:decide ((-1:Int)<0)=true:=rfl;simp only[hlt,A4];rw[C4q hN _ p p key list p.2.2.2.2.2 rfl hSl];have hc:=B8q key p.2.2.2.2.2;have hm:=hM [] (by simp);have hfin:A9L (p.2.2.2.2.2.take (A2I key p.2.2.2.2.2)++(key,K7 [] list) :: p.2.2.2.2.2.drop (A2I key p.2.2.2.2.2)):=by
   refine⟨by simp only[A5,E7,B5,I4];omega,fun s hs => ?_⟩;rcases C9.1 hs with h|h
   ·exact hS4.2 s (Q0 h)
   ·rcases D8.1 h with rfl|h
    ·exact hm
    ·exact hS4.2 s (R3 h)
  rw[← B60 hN p hp _ hfin];generalize A2I key p.2.2.2.2.2=c at hc ⊢;have e:B2J N p.2.2.2.2.2 ((c:Nat):Int) [(key,[])]=some (p.2.2.2.2.2.take c++(key,[]) :: p.2.2.2.2.2.drop c,((),((),()))):=by
   unfold B2J A39;rw[E2 c,dT (by omega:((c:Nat):Int)≤(p.2.2.2.2.2.length:Int)),dT (by omega:p.2.2.2.2.2.length≤1000000000)];simp
  show(B2J N p.2.2.2.2.2 ((c:Nat):Int) [(key,[])]).bind _=_;rw[e,A3];have hget:(p.2.2.2.2.2.take c++(key,([]:List (Den A8))) :: p.2.2.2.2.2.drop c).getD ((c:Nat):Int).toNat (dft A7)=(key,[]):=by
   rw[C6];simp[List.getD,A0j,E7,X4 hc]
  have hlen:(p.2.2.2.2.2.take c++(key,([]:List (Den A8))) :: p.2.2.2.2.2.drop c).length=p.2.2.2.2.2.length+1:=by
   simp only[A5,E7,B5,I4];omega
  have hset:∀ x:Den A7,(p.2.2.2.2.2.take c++(key,([]:List (Den A8))) :: p.2.2.2.2.2.drop c).set ((c:Nat):Int).toNat x=p.2.2.2.2.2.take c++x :: p.2.2.2.2.2.drop c:=fun x=>by
   rw[C6,List.set_append,E7,X4 hc,G6 (Nat.lt_irrefl c),R7];rfl
  have hnb:Nat.beq ((c:Nat):Int).toNat ((c:Nat):Int).toNat=true:=W3 _;simp only[hget,hlen,hset,hnb,E2 c,B5K (by omega:c<p.2.2.2.2.2.length+1),D0,A4,A2V hN2 [] list (by simp) hl,A3];rfl
 ·have hkl:k<p.2.2.2.2.2.length:=by omega
  have hlt:decide (((k:Nat):Int)<0)=false:=T4 (by omega);simp only[hlt,A9];have hnb:Nat.beq ((k:Nat):Int).toNat ((k:Nat):Int).toNat=true:=W3 _;have hself:p.2.2.2.2.2.set ((k:Nat):Int).toNat ((p.2.2.2.2.2.getD ((k:Nat):Int).toNat (dft A7)).1,(p.2.2.2.2.2.getD ((k:Nat):Int).toNat (dft A7)).2)=p.2.2.2.2.2:=by
   rw[F2 p.2.2.2.2.2 hkl,C6];exact O4 hkl
  have hmem:(p.2.2.2.2.2.getD ((k:Nat):Int).toNat (dft A7))∈p.2.2.2.2.2:=by
   rw[F2 p.2.2.2.2.2 hkl];exact C2 hkl
  have hm:=hM _ (hSi _ hmem);have hfin:A9L (p.2.2.2.2.2.set ((k:Nat):Int).toNat ((p.2.2.2.2.2.getD ((k:Nat):Int).toNat (dft A7)).1,K7 (p.2.2.2.2.2.getD ((k:Nat):Int).toNat (dft A7)).2 list)):=by
   refine⟨by rw[G1];omega,fun s hs => ?_⟩;rcases H5 hs with h|rfl
   ·exact hS4.2 s h
   ·exact hm
  rw[← B60 hN p hp _ hfin];simp only[A2E hN p hp,hself,hnb,E2 k,B5K hkl,D0,A4,A2V hN2 _ list (hSi _ hmem) hl,A3];rfl
theorem B1k(p:Den A0)(key:Int)(list:List (Den A8)):A1y p (B9D key list p.2.2.2.2.2)=A1y p (X9 key (K7 (P9 key p.2.2.2.2.2) list) p.2.2.2.2.2):=by
 obtain⟨S,hS⟩:∃ S:List (Den A7),S=p.2.2.2.2.2:=⟨_,rfl⟩;rw[← hS];have hrise:∀ T:List (Den A7),0<T.length->R4 (M4 p T)=true->A1c T:=fun T h0 h=>by
  unfold R4 M4 at h;rw[A6] at h;have h:=h.2;simp only at h;cases hh:p.2.1 with
  |false =>
   rw[hh] at h;simp only[A9,A6,D7] at h;have:=h.2.2.2;omega
  |true =>
   rw[hh] at h;simp only[A4,A6] at h;exact B3S T h.2.2.2.2.2.2
 have hfi:Y1 (fun s:Den A7=>decide (s.1=key)) 0 S = -1∧(∀ s∈S,s.1≠key)∨∃ k:Nat,∃ hk:k<S.length,Y1 (fun s:Den A7=>decide (s.1=key)) 0 S=(k:Int)∧(S[k]).1=key:=by
  have:∀ (l:List (Den A7)) (i:Nat),Y1 (fun s:Den A7=>decide (s.1=key)) i l = -1∧(∀ s∈l,s.1≠key)∨∃ k:Nat,∃ hk:k<l.length,Y1 (fun s:Den A7=>decide (s.1=key)) i l=((i+k:Nat):Int)∧(l[k]).1=key:=by
   intro l;induction l with
   |nil=>intro i;exact .inl ⟨rfl,fun _ h=>by cases h⟩
   |cons x xs ih =>
    intro i;rw[A3O];cases hd:decide (x.1=key) with
    |true=>exact .inr ⟨0,by simp,rfl,I9 hd⟩
    |false =>
     rw[A9];rcases ih (i+1) with⟨h1,h2⟩|⟨k,hk,h1,h2⟩
     ·refine .inl ⟨h1,fun s hs => ?_⟩;rcases D8.1 hs with rfl|hs
      ·exact X6 hd
      ·exact h2 s hs
     ·exact .inr ⟨k+1,by simp;omega,by rw[h1];congr 1;omega,by simpa using h2⟩
  rcases this S 0 with h|⟨k,hk,h1,h2⟩
  ·exact .inl h
  ·exact .inr ⟨k,hk,by rw[h1,E1],h2⟩
 unfold B9D;rcases hfi with⟨h1,h2⟩|⟨k,hk,h1,h2⟩
 ·rw[h1,B65 key _ S h2];have hfs:P9 key S=[]:=by
   clear hrise h1 hS;induction S with
   |nil=>rfl
   |cons x xs ih =>
    unfold P9;rw[dF (h2 x (by simp)),A9];exact ih fun s hs=>h2 s (by simp[hs])
  rw[hfs];rfl
 ·rw[h1,dF (by omega:¬ ((k:Nat):Int)<0),A9,F2 S hk,C6];have hfs:∀ (l:List (Den A7)) (j:Nat),A1c l->(hj:j<l.length)->(l[j]).1=key->P9 key l=(l[j]).2:=by
   intro l;induction l with
   |nil=>intro j _ hj;exact absurd hj (by simp)
   |cons x xs ih =>
    intro j hr hj h;obtain⟨q1,q2⟩:=J4.1 hr;cases j with
    |zero =>
     have h:x.1=key:=h;unfold P9;rw[dT h];rfl
    |succ j =>
     have hj':j<xs.length:=by simpa using hj
     have h:(xs[j]).1=key:=by simpa using h
     have hlt:=q1 _ (C2 hj');rw[h] at hlt;unfold P9;rw[dF (fun e=>B6S hlt (C2C e)),A9,ih j q2 hj' h];rfl
  have heq:A1c S->S.set k ((S[k]).1,K7 (S[k]).2 list)=X9 key (K7 (P9 key S) list) S:=fun hr=>by
   rw[B1o key _ S k hr hk h2,hfs S k hr hk h2,h2]
  have r1:R4 (M4 p (S.set k ((S[k]).1,K7 (S[k]).2 list)))=true->A1c S:=fun h=>by
   have h':=hrise _ (by rw[G1];omega) h;refine A6V ?_ h';have:(S.set k ((S[k]).1,K7 (S[k]).2 list)).map Prod.fst=S.map Prod.fst:=by
    rw[A2o];have e:(S[k]).1=(S.map Prod.fst)[k]'(by simpa using hk):=by simp
    show(S.map Prod.fst).set k (S[k]).1=_;rw[e,O4]
   rw[this];exact A0f _
  have r2:R4 (M4 p (X9 key (K7 (P9 key S) list) S))=true->A1c S:=fun h =>
   A6V (B1l key _ S) (hrise _ (A7F key _ S).2 h)
  unfold A1y;cases h3:R4 (M4 p (S.set k ((S[k]).1,K7 (S[k]).2 list))) with
  |true=>rw[← heq (r1 h3),h3]
  |false =>
   cases h4:R4 (M4 p (X9 key (K7 (P9 key S) list) S)) with
   |true=>rw[heq (r2 h4),h4] at h3;cases h3
   |false=>rfl
theorem A51{p:Den A0}(hp:okz A0 p)(T:List (Den A7)):okz A0 (A1y p T).1:=by
 unfold A1y;cases h:R4 (M4 p T) with
 |false=>exact hp
 |true=>exact B15 hp h
open Go Go.Proofs.YtkmhopbmpeiofaaGreat.Nx Go.RowKit
set_option linter.unusedVariables false
set_option linter.unusedSimpArgs false
theorem B2I{α:Type}(c d:Bool)(x y:α):(bif c then x else bif d then x else y)=bif c||d then x else y:=by cases c<;>cases d<;>rfl
theorem A7b{α:Type}(c:Bool)(x:α):(bif c then x else x)=x:=by cases c<;>rfl
theorem A63{α β:Type}(c:Bool)(x y:α)(z:β):(bif c then some (x,z) else some (y,z))=some (bif c then x else y,z):=by cases c<;>rfl
def X7(L:List (Den A0))(n but:Int):List Int :=
 ((n :: (L.getD (B8 n 0 L).toNat (dft A0)).2.2.2.1).filter fun x => !decide (x=but)).take 3
theorem C5a{N:Nat}(hN:Big N)(L:List Int)(hL:L.length≤2097152)(n:Int):B2G N L n=some (L.filter fun x => !decide (x=n)):=by
 have hN':1099511627776≤N:=hN;unfold B2G;have key:=S3 (B:=A6f N (fun x1=>some x1) (fun ρ2=>some (ρ2))) (A:={l:List Int // l.length≤2097152}) (fun i a=>(L,n,a.1,(i:Int))) (fun i a r=>a.1.length≤i->r=some (a.1++(L.drop i).filter fun x => !decide (x=n))) L.length
  (fun i a rec_ hi h ha=>by
   show(bif _ then _ else _)=_;rw[E3 _ hi,E2 i,F2 _ hi,I5 (B9 i) (by omega),X3 hi,A3l];simp only[D0,A4];cases hd:decide (L[i]=n) with
   |true =>
    have:=h a (by omega);simpa using this
   |false =>
    have:=h ⟨a.1++[L[i]],by simp only[A5,B5,C8];omega⟩ (by simp only[A5,B5,C8];omega);rw[dT (p:=(a.1.length+[L[i]].length)*8≤140737488355328) (by simp only[B5,C8];omega)];simpa using this)
  (fun a rec_ ha=>by
   show(bif _ then _ else _)=_;rw[dF (M9 _),Q9];simp)
  N (by omega) ⟨[],by simp⟩ (by simp)
 simpa using key
theorem C4y(N:Nat)(L:List Int)(hL:L.length≤2097152):A4I N L=some (L.take 3):=by
 unfold A4I;simp only[C8,I2];by_cases h:3<L.length
 ·have e:inB (0:Int) (3:Int) (L.length:Int)=true:=by unfold inB;simp;omega
  rw[dT (by omega),e];simp only[A4];have e2:((L.drop (0:Int).toNat).take ((3:Int).toNat-(0:Int).toNat))=L.take 3:=rfl;have h3:(L.take 3).length≤3:=by rw[E7];omega
  rw[e2,dT (p:=(0+(L.take 3).length)*8≤140737488355328) (by omega)];rfl
 ·have e:L.take 3=L:=S0 (by omega);rw[dF (by omega),dT (p:=(0+L.length)*8≤140737488355328) (by omega),e];rfl
theorem A4D{N:Nat}(hN:Big N)(L:List (Den A0))(hL:okz C4 L)(n but:Int)(hn:0≤B8 n 0 L):A1X N L n but=some (X7 L n but):=by
 have hl:=hL.1;unfold A1X;rw[D0w,Q8 hN L hL,A3];rcases j4 n L 0 with h|⟨j,h1,h2,h3⟩
 ·omega
 ·have hj:j<L.length:=by omega
  have hp:okz A0 L[j]:=hL.2 _ (C2 hj);have hb:(L[j]).2.2.2.1.length≤1048576:=hp.2.2.2.1.1;rw[h3,E3 _ hj,E2 j,F2 _ hj,dT (p:=([n].length+(L[j]).2.2.2.1.length)*8≤140737488355328) (by simp only[B5,C8];omega)];simp only[D0,A4]
  rw[C5a hN _ (by simp only[A5,B5,C8];omega),A3,C4y N _ (by have:=List.length_filter_le (fun x => !decide (x=but)) ([n]++(L[j]).2.2.2.1);simp only[A5,B5,C8] at this;omega)];unfold X7;rw[h3,F2 _ hj];rfl
def setB(p:Den A0)(l:List Int):Den A0:=(p.1,p.2.1,p.2.2.1,l,p.2.2.2.2)
def C4Z(p:Den A0)(a:Int):Den A0:=(p.1,p.2.1,a,p.2.2.2)
theorem B7f(L:List (Den A0)):∀ l:List Int,m5 L l = -1∨0≤B8 (m5 L l) 0 L
 |[]=>.inl rfl
 |x :: xs=>by
  unfold m5;cases h:decide (0≤B8 x 0 L) with
  |true=>exact .inr (I9 h)
  |false=>exact B7f L xs
def A5p(L:List (Den A0))(id:Int):List (Den A0)×Bool :=
 bif decide (B8 id 0 L<0) then(L,false) else bif decide (F7 L id<0) then(L,false) else
  let i:=(B8 id 0 L).toNat
  let n:=F7 L id
  let p:=(L.getD (B8 n 0 L).toNat (dft A0)).2.2.1
  let n':=bif decide (0≤B8 p 0 L)&&(!decide (p=n)&&(!decide (p=id)&&c8 id p n)) then p else n
  let k:=(B8 n' 0 L).toNat
  let a:=(L.getD k (dft A0)).2.2.1
  let L1:=L.set i (setB (L.getD i (dft A0)) (X7 L n' id))
  (bif decide (B8 a 0 L<0)||c8 a id n' then L1.set k (C4Z (L1.getD k (dft A0)) id) else L1,true)
theorem A6Q{N:Nat}(hN:Big N)(L:List (Den A0))(hL:okz C4 L)(id:Int):A5h N L id=some (A5p L id):=by
 have hl:=hL.1;unfold A5h A5p;simp only[p7 hN L hL,Q8 hN L hL,A2P hN L hL,A3,A9r];rcases j4 id L 0 with h|⟨i,_,hi,h3⟩
 ·rw[h];rfl
 rw[h3,dF (p:=(i:Int)<0) (by omega),A9,A9,C6];have hi:i<L.length:=by omega
 by_cases hn:F7 L id<0
 ·rw[dT hn];rfl
 rw[dF hn,A9,A9];have hnx:0≤B8 (F7 L id) 0 L:=by
  unfold F7 at hn ⊢;rw[h3,dF (p:=(i:Int)<0) (by omega)] at hn ⊢;simp only[A9] at hn ⊢;rcases B7f L (L.getD ((i:Int)).toNat (dft A0)).2.2.2.1 with h|h
  ·omega
  ·exact h
 obtain⟨n,en⟩:∃ n,n=F7 L id:=⟨_,rfl⟩;rw[← en] at hnx ⊢;rcases j4 n L 0 with h|⟨j,_,hj,hj3⟩
 ·omega
 have hj:j<L.length:=by omega
 have dj:(decide (0≤(j:Int))&&decide ((j:Int)<(L.length:Int)))=true:=B8B L hj;have di:(decide (0≤(i:Int))&&decide ((i:Int)<(L.length:Int)))=true:=B8B L hi;have sBn:=A4D hN L hL n id hnx;have lj:=E3 L hj;have li:=E3 L hi;have lst:∀ (l:List (Den A0)) (x:Den A0) (k:Nat),(l.set k x).length=l.length:=fun l x k=>G1 ..
 have set1:∀ F:List Int,L.set i ((L.getD i (dft A0)).1,(L.getD i (dft A0)).2.1,(L.getD i (dft A0)).2.2.1,F,(L.getD i (dft A0)).2.2.2.2)=L.set i (setB (L.getD i (dft A0)) F):=fun _=>rfl;have set2:∀ (l:List (Den A0)) (k:Nat),l.set k ((l.getD k (dft A0)).1,(l.getD k (dft A0)).2.1,id,(l.getD k (dft A0)).2.2.2)=l.set k (C4Z (l.getD k (dft A0)) id):=fun _ _=>rfl
 generalize hp:(L.getD j (dft A0)).2.2.1=p at *
 by_cases h1:0≤B8 p 0 L
 ·rcases j4 p L 0 with h|⟨k,_,hk,hk3⟩
  ·omega
  have hk:k<L.length:=by omega
  have lk:=E3 L hk;have sBp:=A4D hN L hL p id h1;by_cases h2:p=n
  ·simp only[hj3,hp,E2,lj,li,lk,h2,sBn,A3,C6,D0,U6,P4,A4,A9,Z6,N7,A1o,S5,lst,set1,set2,B2I,A7b,A63]
  ·by_cases h4:p=id
   ·have h4':¬ id=n:=fun e=>h2 (h4.trans e);simp only[hj3,hk3,hp,E2,lj,li,lk,dF h2,dF h4',h4,sBn,A3,C6,D0,U6,P4,A4,A9,Z6,N7,N3,A1o,S5,lst,set1,set2,B2I,A7b,A63]
   ·cases h5:c8 id p n with
    |true=>simp only[hj3,hk3,hp,E2,lj,li,lk,dF h2,dF h4,sBn,sBp,h5,A3,C6,D0,U6,P4,A4,A9,Z6,N7,N3,A1o,S5,lst,set1,set2,B2I,A7b,A63]
    |false=>simp only[hj3,hk3,hp,E2,lj,li,lk,dF h2,dF h4,sBn,sBp,h5,A3,C6,D0,U6,P4,A4,A9,Z6,N7,N3,A1o,S5,lst,set1,set2,B2I,A7b,A63]
 ·simp only[hj3,hp,E2,lj,li,dF h1,sBn,A3,C6,D0,U6,P4,A4,A9,Z6,N7,N3,A1o,S5,lst,set1,set2,B2I,A7b,A63]
theorem B8z{t:Ty}{L:List (Den t)}(h:okz (.sl t) L){x:Den t}(hx:okz t x)(i:Nat):okz (.sl t) (L.set i x) :=
 ⟨by rw[G1];exact h.1,fun y hy=>by
  rcases H5 hy with hy|rfl
  ·exact h.2 y hy
  ·exact hx⟩
theorem C1q{L:List (Den A0)}(h:okz (.sl A0) L)(i:Nat):okz A0 (L.getD i (dft A0)):=by
 rw[B3];cases hi:L[i]? with
 |some x=>exact h.2 x (I8 hi)
 |none=>simp[okz,dft]
open Go Go.Proofs.YtkmhopbmpeiofaaGreat.Nx Go.RowKit
set_option linter.unusedVariables false
set_option linter.unusedSimpArgs false
def A6X:List Int->List Int->List Int
 |out,[]=>out
 |out,x :: xs=>A6X (bif (decide (0≤x)&&decide (x≤255))&&(!(out.any fun y=>decide (y=x))&&decide ((out.length:Int)<8)) then out++[x] else out) xs
theorem B4H(out:List Int)(x:Int)(b:Bool)(h:out.length≤8):(bif b&&(!(out.any fun y=>decide (y=x))&&decide ((out.length:Int)<8)) then out++[x] else out).length≤8:=by
 cases hb:(b&&(!(out.any fun y=>decide (y=x))&&decide ((out.length:Int)<8))) with
 |false=>exact h
 |true =>
  simp only[A6,D7] at hb;simp only[A4,A5,B5,C8];omega
theorem B7u:∀ (L out:List Int),out.length≤8->(A6X out L).length≤8
 |[],out,h=>h
 |x :: xs,out,h=>B7u xs _ (B4H out x _ h)
theorem B19:∀ (L out:List Int),out.Nodup->(A6X out L).Nodup
 |[],out,h=>h
 |x :: xs,out,h=>by
  refine B19 xs _ ?_;cases hb:((decide (0≤x)&&decide (x≤255))&&(!(out.any fun y=>decide (y=x))&&decide ((out.length:Int)<8))) with
  |false=>exact h
  |true =>
   simp only[A6,M6,A0g,D7] at hb;simp only[A4];rw[J3];refine⟨h,H9.2 ⟨by simp,A4v⟩,fun a ha b hb' e => ?_⟩;simp only[C1] at hb';exact hb.2.1 a ha (e.trans hb')
theorem C6F(N:Nat)(x:Int):A3I N x 0 255=some (decide (0≤x)&&decide (x≤255)):=by
 unfold A3I;cases decide ((0:Int)≤x)<;>rfl
theorem C4c{N:Nat}(hN:Big N){kx kr}(L:List Int)(hL:L.length≤1048576):D4 (A5v (Ω:=Den C4) N kx kr) N (L,[],[],(0:Int))=kx ([],A6X [] L):=by
 have hN':=n40 hN;have key:=A6i (B:=A5v (Ω:=Den C4) N kx kr) (A:={l:List Int // l.length≤8}) L (fun i a=>(L,[],a.1,(i:Int))) (fun i a l=>kx ([],A6X a.1 l))
  (fun i hi a rec_ h=>by
   show(bif _ then _ else _)=_;have ha:=a.2;rw[E3 _ hi,E2 i,F2 _ hi,I5 (B9 i) (by omega),C6F,A3,B8M hN a.1 _ (by omega),A3];simp only[D0,A4];unfold A6X;have:=h ⟨_,B4H a.1 L[i] (decide (0≤L[i])&&decide (L[i]≤255)) ha⟩;simp only at this;rw[← this];cases (decide (0≤L[i])&&decide (L[i]≤255))
   ·rfl
   ·cases (a.1.any fun y=>decide (y=L[i]))
    ·cases h8:decide ((a.1.length:Int)<8)
     ·rfl
     ·have h9:=I9 h8;simp only[N3,A4,D0];rw[dT (p:=(a.1.length+[L[i]].length)*8≤140737488355328) (by simp only[B5,C8];omega)];rfl
    ·rfl)
  (fun a rec_=>by
   show(bif _ then _ else _)=_;rw[Y5];rfl)
  (N:=N) (by omega) ⟨[],by simp⟩
 exact key
def A7P(key:Int)(L:List Int):Nat->Int->List Int->Int
 |_,b,[]=>b
 |i,b,x :: xs=>A7P key L (i+1) (bif decide (b<0) then(i:Int) else bif decide (K6 key x<K6 key (L.getD b.toNat 0)) then(i:Int) else b) xs
def B3i(L:List Int)(key:Int):Int :=
 bif decide (A7P key L 0 (-1) L<0) then -1 else L.getD (A7P key L 0 (-1) L).toNat 0
theorem B7I{N:Nat}(hN:Big N)(L:List Int)(hL:L.length≤1048576)(key:Int):B5n N L key=some (B3i L key):=by
 have hN':=n40 hN;unfold B5n
 have key:=A6i (B:=A7C N (fun (x3,x4)=>(bif (decide (x4<(0:Int))) then some (-1:Int) else(bif (decide (0≤x4)&&decide (x4<x3.length)) then some (x3.getD x4.toNat (0:Int)) else none))) (fun ρ5=>some (ρ5))) (A:={b:Int // b<0∨b<(L.length:Int)}) L (fun i a=>(L,key,a.1,(i:Int))) (fun i a l=>some (bif decide (A7P key L i a.1 l<0) then -1 else L.getD (A7P key L i a.1 l).toNat 0))
  (fun i hi a rec_ h=>by
   show(bif _ then _ else _)=_;have ha:=a.2;rw[E3 _ hi,E2 i,F2 _ hi,I5 (B9 i) (by omega),k9,A3,k9,A3];simp only[D0,A4];unfold A7P;cases hb:decide (a.1<0)
   ·have hb':=X6 hb;rw[dT (p:=0≤a.1) (by omega),dT (p:=a.1<(L.length:Int)) (by omega)];simp only[D0,A4,A9];cases decide (K6 key L[i]<K6 key (L.getD a.1.toNat 0))
    ·exact h a
    ·exact h ⟨(i:Int),.inr (by omega)⟩
   ·exact h ⟨(i:Int),.inr (by omega)⟩)
  (fun a rec_=>by
   show(bif _ then _ else _)=_;have ha:=a.2;rw[Y5];simp only[A9];unfold A7P;cases hb:decide (a.1<0)
   ·have hb':=X6 hb;rw[dT (p:=0≤a.1) (by omega),dT (p:=a.1<(L.length:Int)) (by omega)];rfl
   ·rfl)
  (N:=N) (by omega) ⟨-1,.inl (by omega)⟩
 exact key
def fng(base:List Int)(x:Int):Nat->Nat->List Int
 |_,0=>[]
 |i,n+1=>B3i base (wrap64 (x+A4k .i64 (1:Int) (i:Int))) :: fng base x (i+1) n
theorem C3p{N:Nat}(hN:Big N){kx kr}(r:Den C4)(m base:List Int)(hb:base.length≤1048576)(s6:Den C4){i:Nat}(hi:i<m.length)(p:Den A0)(hp:p.2.2.2.2.1=[]) :
  D4 (A4i (Ω:=Den C4) N kx kr) N (r,m,base,s6,(i:Int),p,(0:Int))=kx (r,m,base,s6,(i:Int),(p.1,p.2.1,p.2.2.1,p.2.2.2.1,fng base m[i] 0 8,p.2.2.2.2.2)):=by
 have hN':=n40 hN;obtain⟨n,hn⟩:∃ n:Nat,n=8:=⟨8,rfl⟩;have key:=S3 (B:=A4i (Ω:=Den C4) N kx kr) (A:=List Int) (fun k a=>(r,m,base,s6,(i:Int),(p.1,p.2.1,p.2.2.1,p.2.2.2.1,a,p.2.2.2.2.2),(k:Int))) (fun k a q=>a.length=k->q=kx (r,m,base,s6,(i:Int),(p.1,p.2.1,p.2.2.1,p.2.2.2.1,a++fng base m[i] k (n-k),p.2.2.2.2.2))) n
  (fun k a rec_ hk h ha=>by
   show(bif _ then _ else _)=_;have e:(k:Int) % 18446744073709551616=(k:Int):=by omega
   rw[dT (p:=(k:Int)<8) (by omega),E3 _ hi,E2 i,e,E2 k,F2 _ hi,I5 (B9 k) (by omega),B7I hN base hb,A3];simp only[D0,A4];rw[dT (p:=(a.length+[B3i base (wrap64 (m[i]+A4k .i64 (1:Int) (k:Int)))].length)*8≤140737488355328) (by simp only[B5,C8];omega)];simp only[A4]
   rw[h (a++[B3i base (wrap64 (m[i]+A4k .i64 (1:Int) (k:Int)))]) (by simp[ha])];have e8:n-k=(n-(k+1))+1:=by omega
   rw[e8];simp only[fng,F9,List.singleton_append])
  (fun a rec_ ha=>by
   show(bif _ then _ else _)=_;rw[dF (p:=(n:Int)<8) (by omega),R7];simp[fng])
  N (by omega) []
 have:=key rfl;subst hn;obtain⟨p1,p2,p3,p4,p5,p6⟩:=p;simp only at hp;subst hp;exact this
theorem A6w(lt:Int->Int->Bool)(a:Int):∀ (L o:List Int),o.length≤(A2g lt a o L).length
 |[],o=>B9 _
 |x :: L,o=>by
  unfold A2g;have h1:=A6w lt a L o;have h2:=A6w lt a L (A0B lt x o);rw[A5P] at h2;cases decide (x=a)
  ·cases o.any fun y=>decide (y=x)
   ·simp only[A9];omega
   ·exact h1
  ·exact h1
theorem B7B(lt:Int->Int->Bool)(a:Int):∀ (L o:List Int),(∃ x∈L,x≠a)->1≤(A2g lt a o L).length
 |[],o,⟨x,hx,_⟩=>by cases hx
 |x :: L,o,⟨y,hy,hn⟩=>by
  unfold A2g;by_cases hx:x=a
  ·rw[dT hx];rcases D8.1 hy with rfl|hy
   ·exact absurd hx hn
   ·exact B7B lt a L o ⟨y,hy,hn⟩
  ·rw[dF hx];simp only[A9];cases ho:o.any fun y=>decide (y=x) with
   |true =>
    have:1≤o.length:=by cases o with
     |nil=>cases ho
     |cons=>simp
    exact S2 this (A6w lt a L o)
   |false =>
    have:=A6w lt a L (A0B lt x o);rw[A5P] at this;simp only[A9];omega
theorem A8X(lt:Int->Int->Bool)(a:Int):∀ (L o:List Int),(A2g lt a o L).length≤o.length+L.length
 |[],o=>B9 _
 |x :: L,o=>by
  unfold A2g;have h1:=A8X lt a L o;have h2:=A8X lt a L (A0B lt x o);rw[A5P] at h2;simp only[B5] at h1 h2 ⊢;cases decide (x=a)
  ·cases o.any fun y=>decide (y=x)
   ·simp only[A9];omega
   ·simp only[A9,A4];omega
  ·simp only[A4];omega
def C0Q(base:List Int)(x:Int):Den A0 :=
 (x,true,(A2g (aLt x) x [] base).getD ((A2g (aLt x) x [] base).length-1) 0,(A2g (aLt x) x [] base).take 3,fng base x 0 8,[])
theorem C3W{n:Nat}(h:1≤n)(hn:n≤140737488355328):wrap64 ((n:Int)-1)=((n-1:Nat):Int):=by
 rw[w64 (by omega) (by omega)];omega
theorem C9G(N:Nat)(L:List Int)(hL:L.length≤2097152):A4I N L=some (L.take 3):=by
 unfold A4I;simp only[C8,I2];by_cases h:3<L.length
 ·have e:inB (0:Int) (3:Int) (L.length:Int)=true:=by unfold inB;simp;omega
  rw[dT (by omega),e];simp only[A4];have e2:((L.drop (0:Int).toNat).take ((3:Int).toNat-(0:Int).toNat))=L.take 3:=rfl;have h3:(L.take 3).length≤3:=by rw[E7];omega
  rw[e2,dT (p:=(0+(L.take 3).length)*8≤140737488355328) (by omega)];rfl
 ·have e:L.take 3=L:=S0 (by omega);rw[dF (by omega),dT (p:=(0+L.length)*8≤140737488355328) (by omega),e];rfl
def fPs(base:List Int):Nat->List Int->List (Den A0)
 |_,[]=>[]
 |i,x :: xs=>(bif decide ((4:Int)≤(i:Int)) then(x,false,(0:Int),[],[],[]) else C0Q base x) :: fPs base (i+1) xs
def A4G(L:List Int):List (Den A0) :=
 bif decide (((A6X [] L).length:Int)<4) then [] else fPs ((A6X [] L).take 4) 0 (A6X [] L)
theorem C5w{m:List Int}(hd:m.Nodup){i j:Nat}(hi:i<m.length)(hj:j<m.length)(h:i<j):m[i]≠m[j]:=by
 rw[A0d] at hd;exact O9.1 hd i j hi hj h
theorem C8O{m:List Int}(hd:m.Nodup)(h4:4≤m.length){i:Nat}(hi:i<m.length):∃ y∈m.take 4,y≠m[i]:=by
 have hl:(m.take 4).length=4:=by rw[E7];omega
 by_cases h0:i=0
 ·refine⟨(m.take 4)[1],C2 _,fun e => ?_⟩;rw[A2N] at e;exact C5w hd hi (by omega) (by omega) e.symm
 ·refine⟨(m.take 4)[0],C2 _,fun e => ?_⟩;rw[A2N] at e;exact C5w hd (by omega) hi (by omega) e
theorem B52{N:Nat}(hN:Big N)(L:List Int)(hL:L.length≤1048576):B5l N L=some (A4G L):=by
 have hN':=n40 hN;unfold B5l;rw[C4c hN L hL];unfold A4G;have hm:=B7u L [] (by simp);have hd:=B19 L [] A4v;generalize A6X [] L=m at hm hd;simp only;cases h4:decide ((m.length:Int)<4) with
 |true=>rfl
 |false =>
  have h4':=X6 h4;have e:inB (0:Int) (4:Int) (m.length:Int)=true:=by unfold inB;simp;omega
  rw[e];simp only[A4,A9];have e2:((m.drop ((0:Int).toNat)).take ((4:Int).toNat-(0:Int).toNat))=m.take 4:=rfl;rw[e2];have hb:(m.take 4).length≤4:=by rw[E7];omega
  have key:=S3 (B:=A7Q N (fun (x23,x24)=>some x24) (fun ρ25=>some (ρ25))) (A:=List (Den A0)) (fun i a=>([],m,m.take 4,a,(i:Int))) (fun i a q=>a.length=i->q=some (a++fPs (m.take 4) i (m.drop i))) m.length
   (fun i a rec_ hi h ha=>by
    have ho:=C8O hd (by omega) hi;show(bif _ then _ else _)=_;rw[E3 _ hi,E2 i,F2 _ hi,I5 (B9 i) (by omega),X3 hi];simp only[D0,A4];unfold fPs;cases hc:decide ((4:Int)≤(i:Int)) with
    |true =>
     have hs:=h (a++[(m[i],false,(0:Int),[],[],[])]) (by simp[ha]);simp only[A4];rw[dT (p:=_*96≤140737488355328) (by simp only[B5,C8];omega)];simp only[A4];rw[hs];simp
    |false =>
     have hc':=X6 hc;have h1:=B7B (aLt m[i]) m[i] (m.take 4) [] ho;have h2:=A8X (aLt m[i]) m[i] (m.take 4) [];simp only[C8] at h2;have hs:=h (a++[C0Q (m.take 4) m[i]]) (by simp[ha]);simp only[A9]
     rw[B1j hN _ (by omega),A3,C3W h1 (by omega),E2,dT (p:=((((A2g (aLt m[i]) m[i] [] (m.take 4)).length-1:Nat)):Int)<((A2g (aLt m[i]) m[i] [] (m.take 4)).length:Int)) (by omega)];simp only[D0,A4,Y7];rw[C9G N _ (by omega),A3,C3p hN _ _ _ (by omega) _ hi _ rfl];simp only
     rw[dT (p:=_*96≤140737488355328) (by simp only[B5,C8];omega)];simp only[A4,C6];rw[I5 (B9 i) (by omega)];refine Eq.trans hs ?_;simp)
   (fun a rec_ ha=>by
    show(bif _ then _ else _)=_;rw[Y5,Q9];simp[fPs])
   N (by omega) []
  exact key rfl
open Go Go.Proofs.YtkmhopbmpeiofaaGreat.Nx Go.RowKit
set_option linter.unusedVariables false
set_option linter.unusedSimpArgs false
theorem B14(a:Int):0≤A7H .i64 a 255∧A7H .i64 a 255≤255:=by
 unfold A7H;rw[B6y];have h:(BitVec.ofInt 64 a &&& BitVec.ofInt 64 255).toNat≤255:=by
  rw[BitVec.toNat_and];exact Nat.and_le_right
 show 0≤IntKind.i64.wrap ((BitVec.ofInt 64 a &&& BitVec.ofInt 64 255).toNat:Int)∧IntKind.i64.wrap ((BitVec.ofInt 64 a &&& BitVec.ofInt 64 255).toNat:Int)≤255;generalize (BitVec.ofInt 64 a &&& BitVec.ofInt 64 255).toNat=x at h;rw[IntWalk.i64_left,w64 (by omega) (by omega)];omega
def okC(c:Den M7):Prop:=0≤c.2.1∧c.1.length≤1048576
theorem A69(N:Nat)(c:Den M7)(h:okC c):∃ x c',A6q N c=some (x,c')∧0≤x∧x≤255∧okC c':=by
 obtain⟨b,i,s⟩:List Int×Int×Int:=c;have h0:0≤i:=h.1;have hb:b.length≤1048576:=h.2;unfold A6q;simp only;cases hd:decide (i<(b.length:Int)) with
 |true =>
  have hd':i<(b.length:Int):=I9 hd;rw[dT h0];simp only[A4,D0,A3];refine⟨_,_,rfl,(B14 _).1,(B14 _).2,?_,hb⟩;show(0:Int)≤wrap64 (i+1);rw[w64 (by omega) (by omega)];omega
 |false =>
  simp only[A9,A4,A3];exact⟨_,_,rfl,(B14 _).1,(B14 _).2,h0,hb⟩
theorem f6(N:Nat)(c:Den M7)(h:okC c)(n:Int)(hn:0<n):∃ x c',U9 N c n=some (x,c',())∧0≤x∧x<n∧okC c':=by
 unfold U9;rw[dF (p:=n≤0) (by omega),dF (p:=n=0) (by omega)];simp only[A9,N3,A4];cases hd:decide (n≤256) with
 |true =>
  obtain⟨x,c',e,h0,h1,hc⟩:=A69 N c h;rw[e];exact⟨x.tmod n,c',rfl,A1V _ h0,A0Y _ hn,hc⟩
 |false =>
  obtain⟨x,c1,e1,a0,a1,hc1⟩:=A69 N c h;obtain⟨y,c2,e2,b0,b1,hc2⟩:=A69 N c1 hc1;obtain⟨z,c3,e3,d0,d1,hc3⟩:=A69 N c2 hc2;obtain⟨u,c4,e4,f0,f1,hc4⟩:=A69 N c3 hc3;simp only[e1,e2,e3,e4,A3,A9];have hw:0≤wrap64 ((wrap64 ((wrap64 ((wrap64 (x*(16777216:Int)))+(wrap64 (y*(65536:Int)))))+(wrap64 (z*(256:Int)))))+u):=by
   rw[w64 (x:=x*16777216) (by omega) (by omega),w64 (x:=y*65536) (by omega) (by omega),w64 (x:=z*256) (by omega) (by omega),w64 (x:=x*16777216+y*65536) (by omega) (by omega),w64 (x:=x*16777216+y*65536+z*256) (by omega) (by omega),w64 (by omega) (by omega)];omega
  exact⟨_,c4,rfl,A1V _ hw,A0Y _ hn,hc4⟩
theorem A4Q{N:Nat}(hN:Big N)(L:List Int)(hL:L.length≤1048576):∃ c,A3Q N L=some (c,())∧okC c:=by
 have hN':1099511627776≤N:=hN;unfold A3Q;have key:=S3 (B:=A5A N (fun (x1,x2)=>some ((x1,(0:Int),x2),())) (fun ρ3=>some (ρ3))) (A:=Int) (fun i a=>(L,a,(i:Int))) (fun i a r=>∃ s:Int,r=some ((L,(0:Int),s),())) L.length
  (fun i a rec_ hi h=>by
   show ∃ s:Int,(bif _ then _ else _)=_;rw[E3 _ hi,E2 i,I5 (B9 i) (by omega)];simp only[A4,D0];cases decide ((i:Int)<4000)
   ·exact⟨a,rfl⟩
   ·exact h _)
  (fun a rec_=>by
   show ∃ s:Int,(bif _ then _ else _)=_;rw[Y5];exact⟨a,rfl⟩)
  N (by omega) (wrap64 ((95501:Int)+(L.length:Int)))
 obtain⟨s,e⟩:=key;have e':D4 (A5A N (fun (x1,x2)=>some ((x1,(0:Int),x2),())) (fun ρ3=>some (ρ3))) N (L,wrap64 ((95501:Int)+(L.length:Int)),(0:Int))=some ((L,(0:Int),s),()):=e;rw[e'];exact⟨_,rfl,A1K _,hL⟩
theorem B80(N:Nat)(c:Den M7)(h:okC c)(l:List Int)(hl:0<l.length):∃ x c',B2o N c l=some (x,c',())∧x∈l∧okC c':=by
 obtain⟨x,c',e,h0,h1,hc⟩:=f6 N c h (l.length:Int) (by omega);unfold B2o;rw[e];simp only[A3];rw[dT h0,dT h1];refine⟨_,c',rfl,?_,hc⟩;rw[B3,D1 (by omega)];exact C2 _
def A1h:List (List Int):=[[(10:Int),(80:Int),(150:Int),(220:Int),(30:Int),(100:Int),(200:Int),(250:Int)],[(1:Int),(2:Int),(3:Int),(4:Int),(5:Int),(6:Int),(7:Int),(8:Int)],[(250:Int),(5:Int),(60:Int),(130:Int),(255:Int),(0:Int),(90:Int),(128:Int)],[(64:Int),(128:Int),(192:Int),(0:Int),(32:Int),(96:Int)],[(9:Int),(99:Int),(199:Int),(249:Int)]]
theorem C22(N:Nat)(c:Den M7)(h:okC c):∃ L c',B2T N c=some (L,c')∧L∈A1h∧okC c':=by
 unfold B2T;obtain⟨x,c',e,h0,h1,hc⟩:=f6 N c h 5 (by omega);have e':U9 N c ((5:Nat):Int)=some (x,c',()):=e;rw[e'];have hl:x<(A1h.length:Int):=h1;have hl':decide (x<(A1h.length:Int))=true:=dT hl;simp only[A3];have hx:∃ n:Nat,x=(n:Int)∧n<A1h.length:=⟨x.toNat,by omega,by omega⟩;obtain⟨n,rfl,hn⟩:=hx;refine⟨A1h.getD n [],c',?_,?_,hc⟩
 ·rw[dT h0];show((bif true&&decide ((n:Int)<(A1h.length:Int)) then _ else _):Option (List Int×Den M7)).bind _=_;rw[hl'];simp only[D0,A4,C6];rw[W3 n];rfl
 ·rw[B3,D1 hn];exact C2 _
open Go Go.Proofs.YtkmhopbmpeiofaaGreat.Nx Go.RowKit
set_option linter.unusedVariables false
set_option linter.unusedSimpArgs false
theorem y5{N:Nat}(hN:Big N):1099511627776≤N:=hN
theorem B0D(n:Int):∀ (l:List (Den A0)) (i j:Nat),B8 n i l=((i+j:Nat):Int)->∃ h:j<l.length,(l[j]).1=n∧(l[j]).2.1=true
 |[],i,j,h=>by unfold B8 at h;omega
 |p :: ps,i,j,h=>by
  unfold B8 at h;cases hp:(p.2.1&&decide (p.1=n)) with
  |true =>
   rw[hp,A4] at h;have:j=0:=by omega
   subst this;simp only[A6,D7] at hp;exact⟨by simp,hp.2,hp.1⟩
  |false =>
   rw[hp,A9] at h;cases j with
   |zero=>rcases j4 n ps (i+1) with h'|⟨j',h1,h2,h3⟩<;>omega
   |succ j =>
    obtain⟨q,r⟩:=B0D n ps (i+1) j (by rw[h];congr 1;omega);exact⟨by simp only[B5];omega,by simpa using r⟩
theorem S4{L:List (Den A0)}{n:Int}(h:0≤B8 n 0 L):∃ j,∃ hj:j<L.length,B8 n 0 L=(j:Int)∧(L[j]).1=n∧(L[j]).2.1=true:=by
 rcases j4 n L 0 with e|⟨j,h1,h2,h3⟩
 ·omega
 ·obtain⟨q,r⟩:=B0D n L 0 j (by rw[h3,E1]);exact⟨j,q,h3,r⟩
def fSt(L:List (Den A0))(id key:Int):Int->List Int->Int
 |b,[]=>b
 |b,x :: xs=>fSt L id key (bif !decide (x=key)&&(decide (0≤B8 x 0 L)&&(c8 id x key&&decide (K6 id b<K6 id x))) then x else b) xs
def fSi(L:List (Den A0))(id key:Int):Int->Int->List Int->Int
 |b,_,[]=>b
 |b,f,x :: xs=>bif decide (0≤B8 x 0 L)&&(c8 id x key&&(!decide (K6 x key=0)&&decide (f<K6 id x))) then fSi L id key x (K6 id x) xs else fSi L id key b f xs
def U4(L:List (Den A0))(id key:Int):Int×Bool :=
 bif decide (B8 id 0 L<0) then(-1,false) else bif decide (F7 L id<0) then(-1,false) else bif decide (key % 256=id) then(id,true) else
  bif c8 id (key % 256) (F7 L id) then(F7 L id,true) else
   (fSt L id (key % 256) (F7 L id) ((L.getD (B8 id 0 L).toNat (dft A0)).2.2.2.1++(L.getD (B8 id 0 L).toNat (dft A0)).2.2.2.2.1),false)
theorem C0L{N:Nat}(hN:Big N)(L:List (Den A0))(hL:okz C4 L)(id key:Int)(l:List Int)(hl:l.length≤2097152)(b:Int) :
  D4 (A04 N (fun x9=>some (x9,false)) (fun ρ10=>some (ρ10))) N (id,key,L,b,l,(0:Int))=some (fSt L id key b l,false):=by
 have hN':=y5 hN;have key:=A6i (B:=A04 N (fun x9=>some (x9,false)) (fun ρ10=>some (ρ10))) (A:=Int) l (fun i a=>(id,key,L,a,l,(i:Int))) (fun i a r=>some (fSt L id key a r,false))
  (fun i hi a rec_ h=>by
   show(bif _ then _ else _)=_;rw[E3 _ hi,E2 i,F2 _ hi,I5 (B9 i) (by omega),Q8 hN L hL,A3,A9r,A3,k9,A3,k9,A3];simp only[D0,A4];unfold fSt;cases decide (l[i]=key)
   ·cases decide (0≤B8 l[i] 0 L)
    ·exact h a
    ·cases c8 id l[i] key
     ·exact h a
     ·cases decide (K6 id a<K6 id l[i])
      ·exact h a
      ·exact h l[i]
   ·exact h a)
  (fun a rec_=>by
   show(bif _ then _ else _)=_;rw[Y5];rfl)
  (N:=N) (by omega) b
 exact key
theorem C2A{N:Nat}(hN:Big N)(L:List (Den A0))(hL:okz C4 L)(id key:Int)(l:List Int)(hl:l.length≤2097152)(b f:Int) :
  D4 (A4d N (fun x9=>some (x9,false)) (fun ρ10=>some (ρ10))) N (id,key,L,b,f,l,(l.length:Int),(0:Int))=some (fSi L id key b f l,false):=by
 have hN':=y5 hN;have key:=A6i (B:=A4d N (fun x9=>some (x9,false)) (fun ρ10=>some (ρ10))) (A:=Int×Int) l (fun i a=>(id,key,L,a.1,a.2,l,(l.length:Int),(i:Int))) (fun i a r=>some (fSi L id key a.1 a.2 r,false))
  (fun i hi a rec_ h=>by
   show(bif _ then _ else _)=_;rw[E3 _ hi,E2 i,F2 _ hi,I5 (B9 i) (by omega),W6 hN L hL,A3,B37,A3,A1l,A3,A1l,A3,A3];simp only[D0,A4];unfold fSi;cases decide (0≤B8 l[i] 0 L)
   ·exact h a
   ·cases c8 id l[i] key
    ·exact h a
    ·cases decide (K6 l[i] key=0)
     ·cases decide (a.2<K6 id l[i])
      ·exact h a
      ·exact h (l[i],K6 id l[i])
     ·exact h a)
  (fun a rec_=>by
   show(bif _ then _ else _)=_;rw[Y5];rfl)
  (N:=N) (by omega) (b,f)
 exact key
theorem B0P{N:Nat}(hN:Big N)(L:List (Den A0))(hL:okz C4 L)(id key:Int):B46 N L id key=some (U4 L id key):=by
 have hl:=hL.1;unfold B46 U4;rw[Q8 hN L hL,A3,A2P hN L hL,A3,A1b,A3];rcases j4 id L 0 with h|⟨j,h1,h2,h3⟩
 ·rw[h];rfl
 ·have hj:j<L.length:=by omega
  have hp:okz A0 L[j]:=hL.2 _ (C2 hj);have hb:(L[j]).2.2.2.1.length≤1048576:=hp.2.2.2.1.1;have hf:(L[j]).2.2.2.2.1.length≤1048576:=hp.2.2.2.2.1.1;rw[h3,dF (p:=(j:Int)<0) (by omega)];cases decide (F7 L id<0)
  ·cases decide (key % 256=id)
   ·rw[A9r,A3];cases c8 id (key % 256) (F7 L id)
    ·simp only[A9];rw[E3 _ hj,E2 j,F2 _ hj];simp only[D0,A4,I2,C8];rw[dT (p:=(0+(L[j]).2.2.2.1.length)*8≤140737488355328) (by omega),dT (p:=((L[j]).2.2.2.1.length+(L[j]).2.2.2.2.1.length)*8≤140737488355328) (by omega)];simp only[D0,A4,Y7];rw[C0L hN L hL _ _ _ (by rw[A5];omega)]
    ·rfl
   ·rfl
  ·rfl
def V4(L:List (Den A0)):Prop:=okz C4 L∧∀ p∈L,0≤p.1∧p.1≤255∧∀ x∈p.2.2.2.1,x≠p.1
theorem A0O{L:List (Den A0)}(hI:V4 L){n:Int}(h:0≤B8 n 0 L):0≤n∧n≤255:=by
 obtain⟨j,hj,_,e,_⟩:=S4 h;have:=hI.2 _ (C2 hj);rw[e] at this;exact⟨this.1,this.2.1⟩
theorem A66{L:List (Den A0)}(hI:V4 L)(id key:Int)(hk:0≤key∧key≤255):∀ (l:List Int) (b:Int),fSi L id key b (K6 id b) l=fSt L id key b l
 |[],b=>rfl
 |x :: xs,b=>by
  unfold fSi fSt;by_cases hx:0≤B8 x 0 L
  ·have hr:=A0O hI hx;have e:decide (K6 x key=0)=decide (x=key):=by
    by_cases h:x=key
    ·rw[dT h,dT (by unfold K6;omega)]
    ·rw[dF h,dF (by unfold K6;omega)]
   rw[dT hx,e];cases decide (x=key)
   ·cases c8 id x key
    ·exact A66 hI id key hk xs b
    ·cases decide (K6 id b<K6 id x)
     ·exact A66 hI id key hk xs b
     ·exact A66 hI id key hk xs x
   ·cases c8 id x key<;>exact A66 hI id key hk xs b
  ·rw[dF hx];cases decide (x=key)<;>exact A66 hI id key hk xs b
theorem B6A{L:List (Den A0)}(hI:V4 L)(id key n:Int)(hk:0≤key∧key≤255)(h0:0≤n)(hb:c8 id n key=true)(hn:K6 n key≠0)(h1:0<K6 id n)(F:List Int) :
  ∀ l:List Int,m5 L l=n->fSi L id key n 0 (l++F)=fSt L id key n (l++F)
 |[],h=>by unfold m5 at h;omega
 |x :: xs,h=>by
  unfold m5 at h;rw[Y9];unfold fSi fSt;by_cases hx:0≤B8 x 0 L
  ·rw[dT hx,A4] at h;subst h;rw[dT hx,hb,dF hn,dT h1,dF (p:=K6 id x<K6 id x) (by omega)];simp only[N3,D0,A4,S5,A9];exact A66 hI id key hk _ x
  ·rw[dF hx,A9] at h;rw[dF hx];cases decide (x=key)<;>exact B6A hI id key n hk h0 hb hn h1 F xs h
theorem B4J{L:List (Den A0)}:∀ l:List Int,0≤m5 L l->m5 L l∈l∧0≤B8 (m5 L l) 0 L
 |[],h=>by unfold m5 at h;omega
 |x :: xs,h=>by
  unfold m5 at h ⊢;by_cases hx:0≤B8 x 0 L
  ·rw[dT hx] at h ⊢;exact⟨by simp,hx⟩
  ·rw[dF hx] at h ⊢;obtain⟨a,b⟩:=B4J xs h;exact⟨I7 _ a,b⟩
theorem A3z{L:List (Den A0)}(hI:V4 L){id:Int}(h:0≤F7 L id):0≤B8 id 0 L∧0≤B8 (F7 L id) 0 L∧F7 L id≠id∧F7 L id=m5 L (L.getD (B8 id 0 L).toNat (dft A0)).2.2.2.1:=by
 unfold F7 at h ⊢;by_cases hp:B8 id 0 L<0
 ·rw[dT hp,A4] at h;omega
 ·rw[dF hp,A9] at h ⊢;obtain⟨j,hj,e1,e2,_⟩:=S4 (L:=L) (n:=id) (by omega);have:=B4J _ h;rw[e1,F2 _ hj] at this h ⊢;have hq:=(hI.2 _ (C2 hj)).2.2 _ this.1;rw[e2] at hq;exact⟨by omega,this.2,hq,rfl⟩
theorem B8i{N:Nat}(hN:Big N)(L:List (Den A0))(hI:V4 L)(id key:Int):B5a N L id (key % 256)=some (U4 L id key):=by
 have hL:=hI.1;have hl:=hL.1;unfold B5a U4;rw[B0B hN L hL,A3];by_cases hn:F7 L id<0
 ·rw[dT hn];cases decide (B8 id 0 L<0)<;>rfl
 ·obtain⟨n1,n2,n3,n4⟩:=A3z hI (id:=id) (by omega);obtain⟨j,hj,e1,e2,_⟩:=S4 n1;have hr:=A0O hI n1;have hr2:=A0O hI n2;have hp:okz A0 L[j]:=hL.2 _ (C2 hj);have hb:(L[j]).2.2.2.1.length≤1048576:=hp.2.2.2.1.1;have hf:(L[j]).2.2.2.2.1.length≤1048576:=hp.2.2.2.2.1.1;rw[dF hn,dF (p:=B8 id 0 L<0) (by omega),A1l,A3];by_cases hk:key % 256=id
  ·rw[dT hk,dT (by unfold K6;omega)];rfl
  ·rw[dF hk,dF (p:=K6 id (key % 256)=0) (by unfold K6;omega),B37,A3];cases hc:c8 id (key % 256) (F7 L id) with
   |true=>rfl
   |false =>
    simp only[A9,Y7];rw[W6 hN L hL,A3];have hnx:0<K6 id (F7 L id):=by unfold K6;omega
    have hkk:0<K6 id (key % 256):=by unfold K6;omega
    have hlt:K6 id (F7 L id)<K6 id (key % 256):=by
     unfold c8 at hc;rw[dT hkk,P4,A0k] at hc;have:=X6 hc.1;omega
    have hbt:c8 id (F7 L id) (key % 256)=true:=by
     unfold c8;rw[dT hnx,dT (p:=K6 id (F7 L id)≤K6 id (key % 256)) (by omega)];rfl
    have hne:K6 (F7 L id) (key % 256)≠0:=by unfold K6 at hlt ⊢; omega
    rw[e1,F2 _ hj] at n4;rw[e1,E2 j,E3 _ hj,F2 _ hj];simp only[D0,A4];rw[A88 N _ hb,A3,dT (p:=((L[j]).2.2.2.1.length+(L[j]).2.2.2.2.1.length)*8≤140737488355328) (by omega)];simp only[A4];rw[C2A hN L hL _ _ _ (by rw[A5];omega),B6A hI id (key % 256) _ (by omega) (by omega) hbt hne hnx _ _ n4.symm]
def M5(L:List (Den A0))(key:Int):Nat->Int->Int->(Int×Int)×Bool
 |0,_,_=>((-1,0),false)
 |n+1,at_,h=>bif decide ((U4 L at_ key).1<0) then((-1,0),false) else
   bif (U4 L at_ key).2 then(((U4 L at_ key).1,bif decide ((U4 L at_ key).1=at_) then h else h+1),true) else
   M5 L key n (U4 L at_ key).1 (bif decide ((U4 L at_ key).1=at_) then h else h+1)
theorem B8Q{L:List (Den A0)}(hI:V4 L){id key:Int}(h0:0≤(U4 L id key).1)(hf:(U4 L id key).2=false):(U4 L id key).1≠id∧(U4 L id key).1≠key % 256:=by
 unfold U4 at h0 hf ⊢;by_cases hp:B8 id 0 L<0
 ·rw[dT hp] at h0;have h0:(0:Int) ≤ -1:=h0;omega
 ·rw[dF hp] at h0 hf ⊢;by_cases hn:F7 L id<0
  ·rw[dT hn] at h0;have h0:(0:Int) ≤ -1:=h0;omega
  ·rw[dF hn] at h0 hf ⊢;obtain⟨n1,n2,n3,n4⟩:=A3z hI (id:=id) (by omega);have hr:=A0O hI n1;have hr2:=A0O hI n2;by_cases hk:key % 256=id
   ·rw[dT hk] at hf;cases hf
   ·rw[dF hk] at h0 hf ⊢;cases hc:c8 id (key % 256) (F7 L id) with
    |true=>rw[hc] at hf;cases hf
    |false =>
     simp only[A9];have hkk:0<K6 id (key % 256):=by unfold K6;omega
     have hnk:F7 L id≠key % 256:=fun e=>by
      unfold c8 at hc;rw[e,dT hkk,P4,A0k] at hc;have:=X6 hc.1;omega
     have gen:∀ (l:List Int) (b:Int),b≠id∧b≠key % 256->fSt L id (key % 256) b l≠id∧fSt L id (key % 256) b l≠key % 256:=by
      intro l;induction l with
      |nil=>exact fun b h=>h
      |cons x xs ih =>
       intro b h;unfold fSt;refine ih _ ?_;cases hx:(!decide (x=key % 256)&&(decide (0≤B8 x 0 L)&&(c8 id x (key % 256)&&decide (K6 id b<K6 id x)))) with
       |false=>exact h
       |true =>
        simp only[A6,M6,U8,D7] at hx;obtain⟨h1,h2,h3,h4⟩:=hx;refine⟨fun e => ?_,h1⟩;have e:x=id:=e;subst e;unfold c8 at h3;simp only[A6,D7] at h3;have:=h3.1;unfold K6 at this;omega
     exact gen _ _ ⟨n3,hnk⟩
theorem A9J{N:Nat}(hN:Big N)(L:List (Den A0))(hI:V4 L)(by_ key:Int):B3x N L by_ key=some (M5 L key 65 by_ 0):=by
 have hN':=y5 hN;unfold B3x;obtain⟨n,hn⟩:∃ n:Nat,n=65:=⟨65,rfl⟩;have key:=S3 (B:=B0k N (fun x3=>some (((-1:Int),(0:Int)),false)) (fun ρ4=>some (ρ4))) (A:=Int×Int) (fun i a=>(key,L,((0:Int),(0:Int)),a.1,a.2,(i:Int))) (fun i a r=>0≤a.2->a.2≤i->r=some (M5 L key (n-i) a.1 a.2)) n
  (fun i a rec_ hi h h0 h1=>by
   show(bif _ then _ else _)=_;have e8:n-i=(n-(i+1))+1:=by omega
   rw[dT (p:=(i:Int)<65) (by omega),A2t,A3,B8i hN L hI,A3,I5 (B9 i) (by omega),w64 (x:=a.2+1) (by omega) (by omega),e8];unfold M5;simp only[A4];cases decide ((U4 L a.1 key).1<0)
   ·cases decide ((U4 L a.1 key).1=a.1)
    ·cases (U4 L a.1 key).2
     ·exact h ((U4 L a.1 key).1,a.2+1) (by omega) (by omega)
     ·rfl
    ·cases (U4 L a.1 key).2
     ·exact h ((U4 L a.1 key).1,a.2) (by omega) (by omega)
     ·rfl
   ·rfl)
  (fun a rec_ h0 h1=>by
   show(bif _ then _ else _)=_;rw[dF (p:=(n:Int)<65) (by omega),R7];rfl)
  N (by omega) (by_,0)
 have:=key (by simp) (by simp);subst hn;exact this
theorem A1q{N:Nat}(hN:Big N)(L:List (Den A0))(hI:V4 L)(by_ key:Int):A4z N L by_ key=some (M5 L key 65 by_ 0):=by
 have hN':=y5 hN;unfold A4z;have last:∀ rec_:D3 (.pr (.d 2 I) (.pr (.ip 3 C4) (.pr (.bx 6 A08) (.pr (.d 8 I) (.d 9 I)))))->Option ((Den A08)×Bool),∀ a:Int,A38 N (fun x2=>some (((-1:Int),(0:Int)),false)) (fun ρ3=>some (ρ3)) rec_ (key,L,((0:Int),(0:Int)),a,(66:Int))=some (((-1:Int),(0:Int)),false):=fun rec_ a=>rfl
 have main:∀ (n:Nat) (M:Nat),n+2≤M->n≤65->∀ (a:Int) (h:Int),h=65-(n:Int)->(h=0∨a≠key % 256) ->
   D4 (A38 N (fun x2=>some (((-1:Int),(0:Int)),false)) (fun ρ3=>some (ρ3))) M (key,L,((0:Int),(0:Int)),a,h)=some (M5 L key n a h):=by
  intro n;induction n with
  |zero =>
   intro M hM _ a h hh ha;obtain⟨M,rfl⟩:∃ M',M=M'+2:=⟨M-2,by omega⟩;have hh:h=65:=by omega
   show(bif _ then _ else _)=_;rw[dT (p:=h≤65) (by omega),B0P hN L hI.1,A3];simp only[A4];have e66:wrap64 (h+1)=66:=by rw[w64 (by omega) (by omega)];omega
   rw[e66];by_cases h0:(U4 L a key).1<0
   ·rw[dT h0];rfl
   ·rw[dF h0];cases h2:(U4 L a key).2 with
    |false =>
     have:=(B8Q hI (by omega) h2).1;rw[dF this];exact last (D4 (A38 N (fun x2=>some (((-1:Int),(0:Int)),false)) (fun ρ3=>some (ρ3))) M) (U4 L a key).1
    |true =>
     have hne:(U4 L a key).1≠a:=fun e=>by
      have ha':a≠key % 256:=by rcases ha with h|h;omega;exact h
      unfold U4 at h0 h2 e;by_cases hp:B8 a 0 L<0
      ·rw[dT hp] at h2;cases h2
      ·rw[dF hp] at h2 e h0;by_cases hn:F7 L a<0
       ·rw[dT hn] at h2;cases h2
       ·rw[dF hn,dF (p:=key % 256=a) (fun e=>ha' e.symm)] at h2 e;obtain⟨n1,n2,n3,n4⟩:=A3z hI (id:=a) (by omega);cases hc:c8 a (key % 256) (F7 L a) with
        |true=>rw[hc] at e;exact n3 e
        |false=>rw[hc] at h2;cases h2
     rw[dF hne];rfl
  |succ n ih =>
   intro M hM hn a h hh ha;obtain⟨M,rfl⟩:∃ M',M=M'+1:=⟨M-1,by omega⟩;show(bif _ then _ else _)=_;rw[dT (p:=h≤65) (by omega),B0P hN L hI.1,A3,w64 (x:=h+1) (by omega) (by omega)];simp only[A4];unfold M5;by_cases h0:(U4 L a key).1<0
   ·rw[dT h0];rfl
   ·rw[dF h0,dF (p:=(65:Int)<h+1) (by omega),dF (p:=(65:Int)<h) (by omega)];cases h2:(U4 L a key).2 with
    |false =>
     obtain⟨g1,g2⟩:=B8Q hI (id:=a) (key:=key) (by omega) h2;rw[dF g1];simp only[N3,A4,A9];exact ih M (by omega) (by omega) _ _ (by omega) (.inr g2)
    |true=>cases decide ((U4 L a key).1=a)<;>rfl
 exact main 65 N (by omega) (by omega) by_ 0 (by omega) (.inl rfl)
open Go Go.Proofs.YtkmhopbmpeiofaaGreat.Nx Go.RowKit
set_option linter.unusedVariables false
set_option linter.unusedSimpArgs false
open Go Go.Proofs.YtkmhopbmpeiofaaGreat.Nx Go.RowKit
set_option linter.unusedVariables false
set_option linter.unusedSimpArgs false
def okp(k:Nat)(p:Den A0):Prop:=(0≤p.1∧p.1≤255)∧(∀ x∈p.2.2.2.1,x≠p.1)∧(p.2.2.2.1.length≤3∧p.2.2.2.2.1.length≤8)∧(List.length (α:=Den A7) p.2.2.2.2.2≤k∧∀ s∈p.2.2.2.2.2,List.length (α:=Den A8) s.2≤k∧∀ t∈s.2,t.1.size≤1)
def Y2(k:Nat)(L:List (Den A0)):Prop:=(4≤L.length∧L.length≤8)∧(L.map fun p=>p.1).Nodup∧∀ p∈L,okp k p
theorem B13{k:Nat}(hk:k≤1048576){p:Den A0}(h:okp k p):okz A0 p:=by
 obtain⟨_,_,⟨h1,h2⟩,h3,h4⟩:=h;refine⟨trivial,trivial,trivial,⟨by omega,fun _ _=>trivial⟩,⟨by omega,fun _ _=>trivial⟩,⟨by omega,fun s hs=>⟨trivial,?_⟩⟩⟩;obtain⟨a,b⟩:=h4 s hs;exact⟨by omega,fun t ht=>⟨by have:=b t ht;omega,trivial⟩⟩
theorem Y2.f{k:Nat}(hk:k≤1048576){L:List (Den A0)}(h:Y2 k L):V4 L :=
 ⟨⟨by have:=h.1.2;omega,fun p hp=>B13 hk (h.2.2 p hp)⟩,fun p hp=>⟨(h.2.2 p hp).1.1,(h.2.2 p hp).1.2,(h.2.2 p hp).2.1⟩⟩
theorem Y2.set{k:Nat}{L:List (Den A0)}(h:Y2 k L){i:Nat}(hi:i<L.length){q:Den A0}(hq:okp k q)(he:q.1=(L[i]).1):Y2 k (L.set i q):=by
 refine⟨by rw[G1];exact h.1,?_,fun p hp => ?_⟩
 ·have e:(L.set i q).map (fun p=>p.1)=L.map fun p=>p.1:=by
   rw[A2o,he];have:(L[i]).1=(L.map fun p=>p.1)[i]'(by rw[C7];exact hi):=by simp
   rw[this,O4]
  rw[e];exact h.2.1
 ·rcases H5 hp with hp|rfl
  ·exact h.2.2 p hp
  ·exact hq
theorem A6I(L:List (Den A0))(n but:Int):∀ x∈X7 L n but,x≠but:=by
 intro x hx;unfold X7 at hx;have:=Q0 hx;rw[Y4] at this;simpa using this.2
theorem A4w(L:List (Den A0))(n but:Int):(X7 L n but).length≤3:=by unfold X7;rw[E7];omega
theorem B7S{N k:Nat}(hN:Big N)(hk:k≤1048576)(L:List (Den A0))(h:Y2 k L)(id by_:Int)(hid:0≤id∧id≤255):∃ q,A09 N L id by_=some q∧Y2 k q.1:=by
 have hN':=y5 hN;have hF:=h.f hk;have hL:=hF.1;have hl:=hL.1;unfold A09;rw[p7 hN L hL,A3]
 have fin:∀ i:Nat,∀ hi:i<L.length,(L[i]).1=id->∀ n:Int,∃ q:(Den C4)×Bool,D4 (A1v N (fun (x12,x13,x14,x15)=>(bif (decide (0≤x14)&&decide (x14<(List.length (α:=Den A0) x13:Int))) then some ((List.set (α:=Den A0) x13 x14.toNat x15),true) else none)) (fun ρ16=>some (ρ16))) N ([],L,(i:Int),(id,true,(-1:Int),X7 L n id,[],[]),(0:Int))=some q∧Y2 k q.1:=by
  intro i hi he n;obtain⟨m,hm⟩:∃ m:Nat,m=8:=⟨8,rfl⟩
  have key:=S3 (B:=A1v N (fun (x12,x13,x14,x15)=>(bif (decide (0≤x14)&&decide (x14<(List.length (α:=Den A0) x13:Int))) then some ((List.set (α:=Den A0) x13 x14.toNat x15),true) else none)) (fun ρ16=>some (ρ16))) (A:=List Int) (fun j a=>([],L,(i:Int),(id,true,(-1:Int),X7 L n id,a,[]),(j:Int))) (fun j a r=>a.length=j->∃ q:(Den C4)×Bool,r=some q∧Y2 k q.1) m
   (fun j a rec_ hj ih ha=>by
    show ∃ q:(Den C4)×Bool,(bif _ then _ else _)=_∧_;rw[dT (p:=(j:Int)<8) (by omega),I5 (B9 j) (by omega),dT (p:=(a.length+[(-1:Int)].length)*8≤140737488355328) (by simp only[B5,C8];omega)];exact ih (a++[-1]) (by simp[ha]))
   (fun a rec_ ha=>by
    show ∃ q:(Den C4)×Bool,(bif _ then _ else _)=_∧_;rw[dF (p:=(m:Int)<8) (by omega)];simp only[A9];rw[E2 i,E3 L hi,C6];exact⟨_,rfl,h.set hi ⟨hid,A6I L n id,⟨A4w L n id,by show a.length≤8;omega⟩,by simp,fun s hs=>by cases hs⟩ he.symm⟩)
   N (by omega) []
  exact key rfl
 have key:=S3 (B:=A5O N (fun (x2,x3,x4,x5,x6,x7)=>(A4z N x4 x3 x2).bind fun r8=>(bif (decide (x7<(0:Int))) then some (x6,false) else(bif (!r8.2) then some (x6,false) else(V3 N x4 x2).bind fun r9=>(bif (decide ((0:Int)≤r9)) then some (x6,false) else(V3 N x4 r8.1.1).bind fun r10=>(bif (decide (r10<(0:Int))) then some (x6,false) else(A1X N x4 r8.1.1 x2).bind fun r11=>D4 (A1v N (fun (x12,x13,x14,x15)=>(bif (decide (0≤x14)&&decide (x14<(List.length (α:=Den A0) x13:Int))) then some ((List.set (α:=Den A0) x13 x14.toNat x15),true) else none)) (fun ρ16=>some (ρ16))) N (x5,x6,x7,(x2,true,(-1:Int),r11,[],[]),(0:Int))))))) (fun ρ17=>some (ρ17))) (A:={a:Int // a = -1∨∃ i:Nat,∃ hi:i<L.length,a=(i:Int)∧(L[i]).1=id}) (fun j a=>(id,by_,L,[],L,a.1,(j:Int))) (fun j a r=>∃ q:(Den C4)×Bool,r=some q∧Y2 k q.1) L.length
  (fun j a rec_ hj ih=>by
   show ∃ q:(Den C4)×Bool,(bif _ then _ else _)=_∧_;rw[E3 L hj,E2 j,F2 L hj,I5 (B9 j) (by omega)];simp only[D0,A4];cases hd:decide ((L[j]).1=id) with
   |false=>exact ih a
   |true =>
    cases (L[j]).2.1 with
    |false=>exact ih ⟨(j:Int),.inr ⟨j,hj,rfl,I9 hd⟩⟩
    |true=>exact ih a)
  (fun a rec_=>by
   show ∃ q:(Den C4)×Bool,(bif _ then _ else _)=_∧_;rw[Y5 L];simp only[A9];rw[A1q hN L hF,A3];have self:∃ q:(Den C4)×Bool,some ((L,false):(Den C4)×Bool)=some q∧Y2 k q.1:=⟨_,rfl,h⟩;rcases a.2 with e|⟨i,hi,e,hid'⟩
   ·rw[e];exact self
   ·rw[e,dF (p:=(i:Int)<0) (by omega)];cases (M5 L id 65 by_ 0).2 with
    |false=>exact self
    |true =>
     simp only[N7,A9];rw[Q8 hN L hL,A3];cases decide (0≤B8 id 0 L) with
     |true=>exact self
     |false =>
      simp only[A9];rw[Q8 hN L hL,A3];by_cases ho:B8 (M5 L id 65 by_ 0).1.1 0 L<0
      ·rw[dT ho];exact self
      ·rw[dF ho];simp only[A9];rw[A4D hN L hL _ _ (by omega),A3];exact fin i hi hid' _)
  N (by omega) ⟨-1,.inl rfl⟩
 exact key
theorem C1m{N k:Nat}(hN:Big N)(hk:k≤1048576)(L:List (Den A0))(h:Y2 k L)(id:Int):∃ q,A3J N L id=some q∧Y2 k q.1:=by
 have hN':=y5 hN;have hF:=h.f hk;have hL:=hF.1;have hl:=hL.1;unfold A3J;rw[p7 hN L hL,A3,Q8 hN L hL,A3];by_cases h4:B8 id 0 L<4
 ·rw[dT h4];exact⟨_,rfl,h⟩
 ·rw[dF h4];obtain⟨j,hj,e1,e2,_⟩:=S4 (L:=L) (n:=id) (by omega);rw[e1,E2 j,E3 L hj,C6];simp only[D0,A4,A9];have hid:=(h.2.2 _ (C2 hj)).1;rw[e2] at hid;have hg:Y2 k (L.set j (id,false,(0:Int),[],[],[])):=h.set hj ⟨hid,fun x hx=>(by cases hx),⟨by simp,by simp⟩,by simp,fun s hs=>by cases hs⟩ e2.symm;have hgL:=(hg.f hk).1
  generalize L.set j (id,false,(0:Int),[],[],[])=L2 at hg hgL;have hl2:=hgL.1;have key:=S3 (B:=A5T N (fun (x5,x6)=>some (x6,true)) (fun ρ7=>some (ρ7))) (A:=Unit) (fun i _=>(L,[],L2,(i:Int))) (fun i _ r=>∃ q:(Den C4)×Bool,r=some q∧Y2 k q.1) L2.length
   (fun i a rec_ hi ih=>by
    show ∃ q:(Den C4)×Bool,(bif _ then _ else _)=_∧_;rw[E3 L2 hi,E2 i,F2 L2 hi,I5 (B9 i) (by omega)];simp only[D0,A4];cases (L2[i]).2.1 with
    |false=>exact ih ()
    |true =>
     simp only[A4];rw[A2P hN L2 hgL,A3];cases decide (F7 L2 (L2[i]).1<0) with
     |true =>
      simp only[A4];rw[p7 hN L hL,A3];exact⟨_,rfl,h⟩
     |false=>exact ih ())
   (fun a rec_=>by
    show ∃ q:(Den C4)×Bool,(bif _ then _ else _)=_∧_;rw[Y5 L2];exact⟨_,rfl,hg⟩)
   N (by omega) ()
  exact key
def C3i(p:Den A0)(v:Int):Den A0:=(p.1,p.2.1,p.2.2.1,p.2.2.2.1,p.2.2.2.2.1++[v],p.2.2.2.2.2)
theorem B4P{N k:Nat}(hN:Big N)(hk:k≤1048576)(L:List (Den A0))(h:Y2 k L)(id:Int):∃ q,A4x N L id=some q∧Y2 k q.1:=by
 have hN':=y5 hN;have hF:=h.f hk;have hL:=hF.1;have hl:=hL.1;unfold A4x;rw[p7 hN L hL,A3,Q8 hN L hL,A3];by_cases h4:B8 id 0 L<0
 ·rw[dT h4];exact⟨_,rfl,h⟩
 ·rw[dF h4];obtain⟨j,hj,e1,e2,_⟩:=S4 (L:=L) (n:=id) (by omega);rw[e1,E2 j,E3 L hj];simp only[D0,A4,A9];rw[F2 L hj,C6];have hp:=h.2.2 _ (C2 hj);obtain⟨p1,p2,⟨p3,p4⟩,p5⟩:=hp;have hg:Y2 k (L.set j ((L[j]).1,(L[j]).2.1,(L[j]).2.2.1,(L[j]).2.2.2.1,[],(L[j]).2.2.2.2.2)):=h.set hj ⟨p1,p2,⟨p3,by simp⟩,p5⟩ rfl
  have hgl:(L.set j ((L[j]).1,(L[j]).2.1,(L[j]).2.2.1,(L[j]).2.2.2.1,[],(L[j]).2.2.2.2.2)).length=L.length:=G1;have hgf:((L.set j ((L[j]).1,(L[j]).2.1,(L[j]).2.2.1,(L[j]).2.2.2.1,[],(L[j]).2.2.2.2.2)).getD j (dft A0)).2.2.2.2.1.length=0:=by
   rw[B3,j2 hj];rfl
  generalize L.set j ((L[j]).1,(L[j]).2.1,(L[j]).2.2.1,(L[j]).2.2.2.1,[],(L[j]).2.2.2.2.2)=L2 at hg hgl hgf;obtain⟨m,hm⟩:∃ m:Nat,m=8:=⟨8,rfl⟩
  have key:=S3 (B:=A5L N (fun (x5,x6)=>some (x6,true)) (fun ρ7=>some (ρ7))) (A:=List (Den A0)) (fun i a=>(id,L,[],a,(j:Int),(i:Int))) (fun i a r=>Y2 k a->a.length=L.length->(a.getD j (dft A0)).2.2.2.2.1.length=i->∃ q:(Den C4)×Bool,r=some q∧Y2 k q.1) m
   (fun i a rec_ hi ih ha hal hai=>by
    have hja:j<a.length:=by omega
    have e:(i:Int) % 18446744073709551616=(i:Int):=by omega
    have hq:=ha.2.2 _ (C2 hja);have hgd:a.getD j (dft A0)=a[j]:=by rw[B3,D1 hja];rfl
    have nxt:∀ v:Int,∃ q:(Den C4)×Bool,rec_ (id,L,[],a.set j (C3i a[j] v),(j:Int),((i+1:Nat):Int))=some q∧Y2 k q.1:=fun v=>by
     refine ih (a.set j (C3i a[j] v)) (ha.set hja ⟨hq.1,hq.2.1,⟨hq.2.2.1.1,?_⟩,hq.2.2.2⟩ rfl) (by rw[G1];exact hal) ?_
     ·show((a[j]).2.2.2.2.1++[v]).length≤8;rw[hgd] at hai;simp only[A5,B5,C8];omega
     ·rw[B3,j2 hja];show((a[j]).2.2.2.2.1++[v]).length=i+1;rw[hgd] at hai;simp only[A5,B5,C8];omega
    show ∃ q:(Den C4)×Bool,(bif _ then _ else _)=_∧_;rw[dT (p:=(i:Int)<8) (by omega),e,E2 i,A1q hN L hF,A3,E2 j,E3 a hja,F2 a hja,C6,W3,I5 (B9 i) (by omega)];rw[hgd] at hai;simp only[D0,A4,Y7]
    rw[dT (p:=((a[j]).2.2.2.2.1.length+[(-1:Int)].length)*8≤140737488355328) (by simp only[B5,C8];omega),dT (p:=((a[j]).2.2.2.2.1.length+[(M5 L (wrap64 (id+A4k .i64 (1:Int) (i:Int))) 65 id 0).1.1].length)*8≤140737488355328) (by simp only[B5,C8];omega)];simp only[A4]
    cases (M5 L (wrap64 (id+A4k .i64 (1:Int) (i:Int))) 65 id 0).2 with
    |false=>exact nxt _
    |true=>exact nxt _)
   (fun a rec_ ha hal hai=>by
    show ∃ q:(Den C4)×Bool,(bif _ then _ else _)=_∧_;rw[dF (p:=(m:Int)<8) (by omega)];exact⟨_,rfl,ha⟩)
   N (by omega) L2
  exact key hg hgl hgf
theorem B7R{N k:Nat}(hN:Big N)(hk:k≤1048576)(L:List (Den A0))(h:Y2 k L)(id:Int):∃ q,A5h N L id=some q∧Y2 k q.1:=by
 have hF:=h.f hk;rw[A6Q hN L hF.1];refine⟨_,rfl,?_⟩;unfold A5p;by_cases h0:B8 id 0 L<0
 ·rw[dT h0];exact h
 ·rw[dF h0];by_cases h1:F7 L id<0
  ·rw[dT h1];exact h
  ·rw[dF h1];simp only[A9];obtain⟨j,hj,e1,e2,_⟩:=S4 (L:=L) (n:=id) (by omega);rw[e1,C6]
   generalize (bif decide (0≤B8 (List.getD L (B8 (F7 L id) 0 L).toNat (dft A0)).2.2.1 0 L)&&(!decide ((List.getD L (B8 (F7 L id) 0 L).toNat (dft A0)).2.2.1=F7 L id)&&(!decide ((List.getD L (B8 (F7 L id) 0 L).toNat (dft A0)).2.2.1=id)&&c8 id (List.getD L (B8 (F7 L id) 0 L).toNat (dft A0)).2.2.1 (F7 L id))) then(List.getD L (B8 (F7 L id) 0 L).toNat (dft A0)).2.2.1 else F7 L id)=n'
   have hgd:L.getD j (dft A0)=L[j]:=by rw[B3,D1 hj];rfl
   have hq:=h.2.2 _ (C2 hj);have h1:Y2 k (L.set j (setB (L.getD j (dft A0)) (X7 L n' id))):=by
    rw[hgd];refine h.set hj ⟨hq.1,?_,⟨A4w L n' id,hq.2.2.1.2⟩,hq.2.2.2⟩ rfl;intro x hx;have:=A6I L n' id x hx;rw[← e2] at this;exact this
   generalize L.set j (setB (L.getD j (dft A0)) (X7 L n' id))=L1 at h1;cases (decide (B8 (List.getD L (B8 n' 0 L).toNat (dft A0)).2.2.1 0 L<0)||c8 (List.getD L (B8 n' 0 L).toNat (dft A0)).2.2.1 id n') with
   |false=>exact h1
   |true =>
    simp only[A4];by_cases hi:(B8 n' 0 L).toNat<L1.length
    ·have hgd:L1.getD (B8 n' 0 L).toNat (dft A0)=L1[(B8 n' 0 L).toNat]:=by rw[B3,D1 hi];rfl
     rw[hgd];have hq:=h1.2.2 _ (C2 hi);exact h1.set hi ⟨hq.1,hq.2.1,hq.2.2.1,hq.2.2.2⟩ rfl
    ·rw[Q6 (by omega)];exact h1
open Go Go.Proofs.YtkmhopbmpeiofaaGreat.Nx Go.RowKit
set_option linter.unusedVariables false
set_option linter.unusedSimpArgs false
def oki(k:Nat)(l:List (Den A8)):Prop:=l.length≤k∧∀ t∈l,t.1.size≤1
theorem B7N{N k:Nat}(hN:Big N)(hk:k≤1048576)(p:Den A0)(h:okp k p)(key:Int):∃ l,A6t N p key=some l∧oki k l:=by
 have hN':=y5 hN;unfold A6t;obtain⟨S,hS⟩:∃ S:List (Den A7),S=p.2.2.2.2.2:=⟨_,rfl⟩;have h4:=h.2.2.2;rw[← hS] at h4;have hl:S.length≤k:=h4.1;have key:=S3 (B:=A8d N (fun _=>some []) (fun ρ1=>some (ρ1))) (A:=Unit) (fun i _=>(key,p,(i:Int))) (fun i _ r=>∃ l,r=some l∧oki k l) S.length
  (fun i a rec_ hi ih=>by
   have hs:=h4.2 _ (C2 hi);show ∃ l,(bif _ then _ else _)=_∧_;rw[← hS,E3 S hi,E2 i,F2 S hi,I5 (B9 i) (by omega)];simp only[D0,A4];cases decide ((S[i]).1=key) with
   |false=>exact ih ()
   |true =>
    have hlen:List.length (α:=Den A8) (S[i]).2≤k:=hs.1;simp only[A4,C8,I2];rw[dT (p:=(0+List.length (α:=Den A8) (S[i]).2)*24≤140737488355328) (by omega)];exact⟨_,rfl,hs.1,hs.2⟩)
  (fun a rec_=>by
   show ∃ l,(bif _ then _ else _)=_∧_;rw[← hS,Y5 S];exact⟨[],rfl,by simp,fun t ht=>by cases ht⟩)
  N (by omega) ()
 exact key
theorem A5I{k:Nat}:∀ (l acc:List (Den A8)),(∀ t∈l,t.1.size≤1)->(∀ t∈acc,t.1.size≤1)->∀ t∈l.foldl (fun acc x=>U5 x acc) acc,t.1.size≤1
 |[],acc,_,h=>h
 |x :: xs,acc,h1,h2=>A5I (k:=k) xs (U5 x acc) (fun t ht=>h1 t (I7 _ ht)) (fun t ht=>by
  rcases B00 x acc t ht with e|⟨y,hy,e⟩
  ·rw[e];exact h1 x (by simp)
  ·rw[e];exact h2 y hy)
theorem B9i{k:Nat}{a b:List (Den A8)}(ha:oki k a)(hb:oki 1 b):oki (k+1) (K7 a b):=by
 refine⟨?_,?_⟩
 ·have:=A1H (a++b) [];have h1:=ha.1;have h2:=hb.1;unfold K7;simp only[C8,A5] at this;omega
 ·unfold K7;exact A5I (k:=k) (a++b) [] (fun t ht=>by
   rcases C9.1 ht with h|h
   ·exact ha.2 t h
   ·exact hb.2 t h) (fun t ht=>by cases ht)
theorem C4l{k:Nat}{p:Den A0}(h:okp k p):okp (k+1) p:=by
 obtain⟨h1,h2,h3,h4,h5⟩:=h;exact⟨h1,h2,h3,by omega,fun s hs=>⟨by have:=(h5 s hs).1;omega,(h5 s hs).2⟩⟩
theorem C2W{N k:Nat}(hN:Big N)(hk:k≤1000000){kx kr}(R:Option ((Den A0)×Bool)->Prop)(p e0:Den A0)(key:Int)(M:List (Den A8))(hM:oki (k+1) M)(S:List (Den A7))(hS:S=p.2.2.2.2.2)(hl:S.length≤k)(hs:∀ s∈S,oki (k+1) s.2)
  (hx:∀ (T:List (Den A7)) (b:Bool),T.length≤k+(bif b then 1 else 0)->(∀ s∈T,oki (k+1) s.2)->R (kx (p,e0,(p.1,p.2.1,p.2.2.1,p.2.2.2.1,p.2.2.2.2.1,T),(key,M),b))) :
  R (D4 (A4r (Ω:=(Den A0)×Bool) N kx kr) N (key,p,e0,(p.1,p.2.1,p.2.2.1,p.2.2.2.1,p.2.2.2.2.1,[]),(key,M),false,(0:Int))):=by
 have hN':=y5 hN;have key:=S3 (B:=A4r (Ω:=(Den A0)×Bool) N kx kr) (A:=List (Den A7)×Bool) (fun i a=>(key,p,e0,(p.1,p.2.1,p.2.2.1,p.2.2.2.1,p.2.2.2.2.1,a.1),(key,M),a.2,(i:Int))) (fun i a r=>a.1.length≤i+(bif a.2 then 1 else 0)->(∀ s∈a.1,oki (k+1) s.2)->R r) S.length
  (fun i a rec_ hi ih h1 h2=>by
   obtain⟨T,b⟩:=a;simp only at h1 h2;have hsi:=hs _ (C2 hi);have happ:∀ (U:List (Den A7)) (x:Den A7),(∀ s∈U,oki (k+1) s.2)->oki (k+1) x.2->∀ s∈U++[x],oki (k+1) s.2:=fun U x h3 h4 s hs'=>by
    rcases C9.1 hs' with h|h
    ·exact h3 s h
    ·rw[C1.1 h];exact h4
   show R (bif _ then _ else _);rw[← hS,E3 S hi,E2 i,F2 S hi,I5 (B9 i) (by omega)];simp only[D0,A4,A5,B5,C8];cases b with
   |true =>
    simp only[A4] at h1;simp only[N7,A9];rw[dT (p:=(T.length+(0+1))*32≤140737488355328) (by omega)];exact ih (T++[S[i]],true) (by simp only[A5,B5,C8,A4];omega) (happ T _ h2 hsi)
   |false =>
    simp only[A9] at h1;simp only[N3,A4];rw[dT (p:=(T.length+(0+1))*32≤140737488355328) (by omega),dT (p:=(T.length+(0+1)+(0+1))*32≤140737488355328) (by omega)];simp only[A4];cases decide (key≤(S[i]).1) with
    |false=>exact ih (T++[S[i]],false) (by simp only[A5,B5,C8,A9];omega) (happ T _ h2 hsi)
    |true =>
     simp only[A4];cases decide ((S[i]).1=key) with
     |true=>exact ih (T++[(key,M)],true) (by simp only[A5,B5,C8,A4];omega) (happ T _ h2 hM)
     |false=>exact ih (T++[(key,M)]++[S[i]],true) (by simp only[A5,B5,C8,A4];omega) (happ _ _ (happ T _ h2 hM) hsi))
  (fun a rec_ h1 h2=>by
   obtain⟨T,b⟩:=a;show R (bif _ then _ else _);rw[← hS,Y5 S];exact hx T b (by simp only at h1;cases b<;>simp only[A4,A9] at h1 ⊢ <;> omega) h2)
  N (by omega) ([],false)
 exact key (by simp) (fun s hs=>by cases hs)
theorem C29{N k:Nat}(hN:Big N)(hk:k≤1000000)(p:Den A0)(h:okp k p)(key:Int)(list:List (Den A8))(hl:oki 1 list):∃ q,A1Q N p key list=some q∧okp (k+1) q.1∧q.1.1=p.1∧q.1.2.1=p.2.1∧q.1.2.2.2.1=p.2.2.2.1∧(q.1=p∨R4 q.1=true):=by
 have hN':=y5 hN;have hp:=B13 (by omega) h;unfold A1Q;rw[n9 hN p hp,A3];obtain⟨l,e,hlk⟩:=B7N hN (by omega) p h key;rw[e,A3,A4F hN l list (by have:=hlk.1;omega) (by have:=hl.1;omega),A3];have hm:=B9i hlk hl;generalize K7 l list=M at hm;obtain⟨S,hS⟩:∃ S:List (Den A7),S=p.2.2.2.2.2:=⟨_,rfl⟩;have h4:=h.2.2.2
 rw[← hS] at h4;have hSl:S.length≤k:=h4.1;have okS:∀ T:List (Den A7),T.length≤k+1->(∀ s∈T,oki (k+1) s.2)->okp (k+1) (p.1,p.2.1,p.2.2.1,p.2.2.2.1,p.2.2.2.2.1,T):=fun T h1 h2=>⟨h.1,h.2.1,h.2.2.1,h1,fun s hs=>h2 s hs⟩
 have endd:∀ T:List (Den A7),T.length≤k+1->(∀ s∈T,oki (k+1) s.2)->∃ q:(Den A0)×Bool,((A6m N (p.1,p.2.1,p.2.2.1,p.2.2.2.1,p.2.2.2.2.1,T)).bind fun r9=>(bif (!r9) then(A0U N p).bind fun r10=>some (r10,false) else(A0U N (p.1,p.2.1,p.2.2.1,p.2.2.2.1,p.2.2.2.2.1,T)).bind fun r11=>some (r11,true)))=some q∧okp (k+1) q.1∧q.1.1=p.1∧q.1.2.1=p.2.1∧q.1.2.2.2.1=p.2.2.2.1∧(q.1=p∨R4 q.1=true):=fun T h1 h2=>by
  have ho:=okS T h1 h2;have hz:=B13 (by omega) ho;rw[B7V hN _ hz,A3,n9 hN p hp,n9 hN _ hz];cases hpk:R4 (p.1,p.2.1,p.2.2.1,p.2.2.2.1,p.2.2.2.2.1,T) with
  |false=>exact⟨_,rfl,C4l h,rfl,rfl,rfl,.inl rfl⟩
  |true=>exact⟨_,rfl,ho,rfl,rfl,rfl,.inr hpk⟩
 refine C2W hN hk (fun r=>∃ q:(Den A0)×Bool,r=some q∧okp (k+1) q.1∧q.1.1=p.1∧q.1.2.1=p.2.1∧q.1.2.2.2.1=p.2.2.2.1∧(q.1=p∨R4 q.1=true)) p _ key M hm S hS hSl (fun s hs=>⟨by have:=(h4.2 s hs).1;omega,(h4.2 s hs).2⟩) (fun T b h1 h2 => ?_);cases b with
 |true =>
  simp only[A4] at h1;exact endd T h1 h2
 |false =>
  simp only[A9] at h1;simp only[N3,A4,B5,C8];rw[dT (p:=(T.length+(0+1))*32≤140737488355328) (by omega)];exact endd (T++[(key,M)]) (by simp only[A5,B5,C8];omega) (fun s hs=>by
   rcases C9.1 hs with h|h
   ·exact h2 s h
   ·rw[C1.1 h];exact hm)
theorem A2T(n:Int):∀ (L:List (Den A0)) (i j:Nat) (q:Den A0),(∀ hj:j<L.length,q.1=(L[j]).1∧q.2.1=(L[j]).2.1)->B8 n i (L.set j q)=B8 n i L
 |[],_,_,_,_=>rfl
 |p :: ps,i,0,q,h=>by
  have:=h (by simp);simp only[A2Y] at this;rw[A2k];unfold B8;rw[this.1,this.2]
 |p :: ps,i,j+1,q,h=>by
  rw[A4Z];unfold B8;rw[A2T n ps (i+1) j q (fun hj=>by have:=h (by simpa using hj);simpa using this)]
theorem A8k(L:List (Den A0)):∀ (xs out:List Int),(∀ x∈out,0≤B8 x 0 L)->∀ x∈z8 L out xs,0≤B8 x 0 L
 |[],out,h=>h
 |y :: ys,out,h=>by
  unfold z8;cases hb:(decide (0≤B8 y 0 L)&&(!(out.any fun z=>decide (z=y))&&decide ((out.length:Int)<3))) with
  |false=>exact A8k L ys out h
  |true =>
   simp only[A6,D7] at hb;refine A8k L ys _ fun x hx => ?_;rcases C9.1 hx with hx|hx
   ·exact h x hx
   ·rw[C1.1 hx];exact hb.1
theorem z9(L:List (Den A0))(n:Int):∀ x∈S8 L n,0≤B8 x 0 L:=by
 intro x hx;unfold S8 at hx;by_cases h:B8 n 0 L<0
 ·rw[dT h] at hx;cases hx
 ·rw[dF h] at hx;exact A8k L _ [n] (fun y hy=>by rw[C1.1 hy];omega) x hx
theorem B4N{k:Nat}{L:List (Den A0)}(h:Y2 k L)(n:Int):(S8 L n).length≤4:=by
 unfold S8;by_cases h0:B8 n 0 L<0
 ·rw[dT h0];simp
 ·rw[dF h0];obtain⟨j,hj,e1,_,_⟩:=S4 (L:=L) (n:=n) (by omega);have:=A9k L (L.getD (B8 n 0 L).toNat (dft A0)).2.2.2.1 [n];rw[e1,F2 L hj] at this ⊢;have h3:=(h.2.2 _ (C2 hj)).2.2.1.1;simp only[B5,C8] at this;simp only[A9];omega
theorem Y2.more{k k':Nat}(hk:k≤k'){L:List (Den A0)}(h:Y2 k L):Y2 k' L :=
 ⟨h.1,h.2.1,fun p hp=>by
  obtain⟨h1,h2,h3,h4,h5⟩:=h.2.2 p hp;exact⟨h1,h2,h3,by omega,fun s hs=>⟨by have:=(h5 s hs).1;omega,(h5 s hs).2⟩⟩⟩
theorem B63{N k:Nat}(hN:Big N)(hk:k≤1000)(L:List (Den A0))(h:Y2 k L)(by_ key:Int)(list:List (Den A8))(hl:oki 1 list)
  (W:List (Den A0)->Prop) (hW:∀ (a:List (Den A0)) (j:Nat) (hj:j<a.length) (q:Den A0),W a->q.1=(a[j]).1->q.2.1=(a[j]).2.1->q.2.2.2.1=(a[j]).2.2.2.1->(q=a[j]∨R4 q=true)->W (a.set j q)) (hw:W L):∃ q,a9 N L by_ key list=some q∧Y2 (k+4) q.1∧W q.1:=by
 have hN':=y5 hN;have hF:=h.f (by omega);have hL:=hF.1;unfold a9 A9l;rw[p7 hN L hL,A3,A1q hN L hF,A3];cases (M5 L key 65 by_ 0).2 with
 |false=>exact⟨_,rfl,h.more (by omega),hw⟩
 |true =>
  simp only[N7,A9];rw[A1k hN L hL,A3];have hh:=z9 L (M5 L key 65 by_ 0).1.1;have h4:=B4N h (M5 L key 65 by_ 0).1.1;generalize S8 L (M5 L key 65 by_ 0).1.1=H at hh h4
  have kk:=S3 (B:=A10 N (fun (x6,x7,x8)=>some ((x7,x8),x6,(),(),())) (fun ρ9=>some (ρ9))) (A:=List (Den A0)×Int) (fun i a=>(a.1,key,list,a.2,H,(i:Int))) (fun i a r=>Y2 (k+i) a.1->(∀ n,B8 n 0 a.1=B8 n 0 L)->W a.1->∃ q,r=some q∧Y2 (k+4) q.2.1∧W q.2.1) H.length
   (fun i a rec_ hi ih h1 h2 h3=>by
    obtain⟨a,c⟩:=a;simp only at h1 h2 h3;have hx:=hh _ (C2 hi);rw[← h2] at hx;obtain⟨j,hj,e1,e2,e3⟩:=S4 hx;have hp:=h1.2.2 _ (C2 hj);obtain⟨q,eq,q1,q2,q3,q4,q5⟩:=C29 hN (by omega) (a[j]) hp key list hl;show ∃ q,(bif _ then _ else _)=_∧_
    rw[E3 H hi,E2 i,F2 H hi,I5 (B9 i) (by omega),Q8 hN a (h1.f (by omega)).1,A3,e1,E2 j,E3 a hj,F2 a hj,C6,W3];have hself:(a.set j ((a[j]).1,(a[j]).2.1,(a[j]).2.2.1,(a[j]).2.2.2.1,(a[j]).2.2.2.2.1,(a[j]).2.2.2.2.2))=a:=O4 hj;simp only[D0,A4];rw[hself,E3 a hj]
    have eq':A1Q N ((a[j]).1,(a[j]).2.1,(a[j]).2.2.1,(a[j]).2.2.2.1,(a[j]).2.2.2.2.1,(a[j]).2.2.2.2.2) key list=some q:=eq;rw[eq',A3];simp only[D0,A4];cases q.2 with
    |false=>exact ih (a,c) (h1.more (by omega)) h2 h3
    |true=>exact ih (a.set j q.1,_) (by
      have:=(h1.more (k':=k+i+1) (by omega)).set hj q1 q2;exact this) (fun n=>by rw[A2T n a 0 j q.1 (fun _=>⟨q2,q3⟩)];exact h2 n) (hW a j hj q.1 h3 q2 q3 q4 q5))
   (fun a rec_ h1 h2 h3=>by
    show ∃ q,(bif _ then _ else _)=_∧_;rw[Y5 H];exact⟨_,rfl,h1.more (by omega),h3⟩)
   N (by omega) (L,0)
  obtain⟨q,e,hq⟩:=kk h (fun _=>rfl) hw;have e':D4 (A10 N (fun (x6,x7,x8)=>some ((x7,x8),x6,(),(),())) (fun ρ9=>some (ρ9))) N (L,key,list,(0:Int),H,(0:Int))=some q:=e;rw[e'];exact⟨_,rfl,hq⟩
open Go Go.Proofs.YtkmhopbmpeiofaaGreat.Nx Go.RowKit
set_option linter.unusedVariables false
set_option linter.unusedSimpArgs false
theorem C1r{L:List (Den A0)}(hI:V4 L){id key:Int}(h:(U4 L id key).2=true):0≤B8 (U4 L id key).1 0 L:=by
 unfold U4 at h ⊢;by_cases hp:B8 id 0 L<0
 ·rw[dT hp] at h;cases h
 ·rw[dF hp] at h ⊢;by_cases hn:F7 L id<0
  ·rw[dT hn] at h;cases h
  ·rw[dF hn] at h ⊢;obtain⟨n1,n2,_,_⟩:=A3z hI (id:=id) (by omega);cases hk:decide (key % 256=id) with
   |true=>exact n1
   |false =>
    rw[hk] at h;cases hc:c8 id (key % 256) (F7 L id) with
    |true=>exact n2
    |false=>rw[hc] at h;cases h
theorem A6A{L:List (Den A0)}(hI:V4 L)(key:Int):∀ (n:Nat) (a h:Int),(M5 L key n a h).2=true->0≤B8 (M5 L key n a h).1.1 0 L∧(M5 L key n a h).1.2≤h+(n:Int)
 |0,a,h,e=>by cases e
 |n+1,a,h,e=>by
  unfold M5 at e ⊢;cases h0:decide ((U4 L a key).1<0) with
  |true=>rw[h0] at e;cases e
  |false =>
   rw[h0] at e;simp only[A9] at e ⊢;cases h2:(U4 L a key).2 with
   |true =>
    refine⟨C1r hI h2,?_⟩;show(bif _ then h else h+1)≤_;cases decide ((U4 L a key).1=a)<;>simp only[A4,A9]<;>omega
   |false =>
    rw[h2] at e;simp only[A9] at e ⊢;have:=A6A hI key n _ _ e;refine⟨this.1,?_⟩;have h3:=this.2;revert h3;cases decide ((U4 L a key).1=a)<;>simp only[A4,A9]<;>intro h3<;>omega
open Go Go.Proofs.YtkmhopbmpeiofaaGreat.Nx Go.RowKit
set_option linter.unusedVariables false
set_option linter.unusedSimpArgs false
theorem A89{L:List (Den A0)}(h:(L.map fun p=>p.1).Nodup){i j:Nat}(hi:i<L.length)(hj:j<L.length)(e:(L[i]).1=(L[j]).1):i=j:=by
 rw[A0d,O9] at h;rcases Nat.lt_trichotomy i j with hlt|he|hlt
 ·exact(h i j (by simpa using hi) (by simpa using hj) hlt (by simpa using e)).elim
 ·exact he
 ·exact(h j i (by simpa using hj) (by simpa using hi) hlt (by simpa using e.symm)).elim
def A0t(id:Int):Nat->List (Den A0)->Int
 |_,[] => -1
 |j,p :: ps=>bif !p.2.1&&decide (p.1=id) then(j:Int) else A0t id (j+1) ps
def A8l(id:Int):Nat->Int->List (Den A0)->Int
 |_,a,[]=>a
 |j,a,p :: ps=>A8l id (j+1) (bif decide (p.1=id) then(bif p.2.1 then a else(j:Int)) else a) ps
theorem B26(id:Int):∀ (L:List (Den A0)) (j:Nat) (a:Int),(∀ p∈L,p.1≠id)->A8l id j a L=a
 |[],_,_,_=>rfl
 |p :: ps,j,a,h=>by
  unfold A8l;rw[dF (h p (by simp))];exact B26 id ps (j+1) a fun q hq=>h q (by simp[hq])
theorem B2Q(id:Int):∀ (L:List (Den A0)) (j:Nat),(∀ p∈L,p.1≠id)->A0t id j L = -1
 |[],_,_=>rfl
 |p :: ps,j,h=>by
  unfold A0t;rw[dF (h p (by simp)),S5];exact B2Q id ps (j+1) fun q hq=>h q (by simp[hq])
theorem B66(id:Int):∀ (L:List (Den A0)) (j:Nat),(L.map fun p=>p.1).Nodup->A8l id j (-1) L=A0t id j L
 |[],_,_=>rfl
 |p :: ps,j,h=>by
  rw[F6,H9] at h;unfold A8l A0t;by_cases he:p.1=id
  ·have hn:∀ q∈ps,q.1≠id:=fun q hq e=>h.1 (by rw[he,← e];exact C5.2 ⟨q,hq,rfl⟩);rw[dT he,U6,A4,B26 id ps _ _ hn,B2Q id ps _ hn];cases p.2.1<;>rfl
  ·rw[dF he,S5];exact B66 id ps (j+1) h.2
theorem B1S(id:Int):∀ (L:List (Den A0)) (j:Nat),A0t id j L = -1∨∃ i:Nat,∃ hi:i<L.length,A0t id j L=((j+i:Nat):Int)∧(L[i]).1=id∧(L[i]).2.1=false
 |[],_=>.inl rfl
 |p :: ps,j=>by
  unfold A0t;cases hp:(!p.2.1&&decide (p.1=id)) with
  |true =>
   simp only[A6,M6,D7] at hp;exact .inr ⟨0,by simp,rfl,hp.2,hp.1⟩
  |false =>
   rcases B1S id ps (j+1) with h|⟨i,hi,h1,h2,h3⟩
   ·exact .inl h
   ·exact .inr ⟨i+1,by simpa using hi,by rw[A9,h1];congr 1;omega,by simpa using h2,by simpa using h3⟩
theorem B39{L:List (Den A0)}(h:(L.map fun p=>p.1).Nodup){id:Int}{i:Nat}(hi:i<L.length)(h1:(L[i]).1=id)(h2:(L[i]).2.1=false):B8 id 0 L<0:=by
 rcases Int.lt_or_le (B8 id 0 L) 0 with h0|h0
 ·exact h0
 ·obtain⟨j,hj,e1,e2,e3⟩:=S4 h0;have:=A89 h hi hj (by rw[h1,e2]);subst this;rw[h2] at e3;cases e3
def A5r(L:List (Den A0))(id by_:Int):List (Den A0)×Bool :=
 bif decide (A0t id 0 L<0) || !(M5 L id 65 by_ 0).2 then(L,false) else
  (L.set (A0t id 0 L).toNat (id,true,(-1:Int),X7 L (M5 L id 65 by_ 0).1.1 id,List.replicate 8 (-1),[]),true)
theorem B0K{N:Nat}(hN:Big N)(L:List (Den A0))(hF:V4 L)(hn:(L.map fun p=>p.1).Nodup)(id by_:Int):A09 N L id by_=some (A5r L id by_):=by
 have hN':=y5 hN;have hL:=hF.1;have hl:=hL.1;unfold A09;rw[p7 hN L hL,A3]
 have fin:∀ i:Nat,∀ hi:i<L.length,∀ F:List Int,D4 (A1v N (fun (x12,x13,x14,x15)=>(bif (decide (0≤x14)&&decide (x14<(List.length (α:=Den A0) x13:Int))) then some ((List.set (α:=Den A0) x13 x14.toNat x15),true) else none)) (fun ρ16=>some (ρ16))) N ([],L,(i:Int),(id,true,(-1:Int),F,[],[]),(0:Int))=some (L.set i (id,true,(-1:Int),F,List.replicate 8 (-1),[]),true):=by
  intro i hi F;obtain⟨m,hm⟩:∃ m:Nat,m=8:=⟨8,rfl⟩
  have key:=S3 (B:=A1v N (fun (x12,x13,x14,x15)=>(bif (decide (0≤x14)&&decide (x14<(List.length (α:=Den A0) x13:Int))) then some ((List.set (α:=Den A0) x13 x14.toNat x15),true) else none)) (fun ρ16=>some (ρ16))) (A:=List Int) (fun j a=>([],L,(i:Int),(id,true,(-1:Int),F,a,[]),(j:Int))) (fun j a r=>a=List.replicate j (-1)->r=some (L.set i (id,true,(-1:Int),F,List.replicate m (-1),[]),true)) m
   (fun j a rec_ hj ih ha=>by
    have hal:a.length=j:=by rw[ha];simp
    show(bif _ then _ else _)=_;rw[dT (p:=(j:Int)<8) (by omega),I5 (B9 j) (by omega),dT (p:=(a.length+[(-1:Int)].length)*8≤140737488355328) (by simp only[B5,C8];omega)];exact ih (a++[-1]) (by rw[ha,List.replicate_succ']))
   (fun a rec_ ha=>by
    show(bif _ then _ else _)=_;rw[dF (p:=(m:Int)<8) (by omega)];simp only[A9];rw[E2 i,E3 L hi,C6,ha];rfl)
   N (by omega) []
  have:=key rfl;rw[hm] at this;exact this
 have key:=S3 (B:=A5O N (fun (x2,x3,x4,x5,x6,x7)=>(A4z N x4 x3 x2).bind fun r8=>(bif (decide (x7<(0:Int))) then some (x6,false) else(bif (!r8.2) then some (x6,false) else(V3 N x4 x2).bind fun r9=>(bif (decide ((0:Int)≤r9)) then some (x6,false) else(V3 N x4 r8.1.1).bind fun r10=>(bif (decide (r10<(0:Int))) then some (x6,false) else(A1X N x4 r8.1.1 x2).bind fun r11=>D4 (A1v N (fun (x12,x13,x14,x15)=>(bif (decide (0≤x14)&&decide (x14<(List.length (α:=Den A0) x13:Int))) then some ((List.set (α:=Den A0) x13 x14.toNat x15),true) else none)) (fun ρ16=>some (ρ16))) N (x5,x6,x7,(x2,true,(-1:Int),r11,[],[]),(0:Int))))))) (fun ρ17=>some (ρ17))) (A:=Int) (fun j a=>(id,by_,L,[],L,a,(j:Int))) (fun j a r=>A8l id j a (L.drop j)=A0t id 0 L->r=some (A5r L id by_)) L.length
  (fun j a rec_ hj ih ha=>by
   show(bif _ then _ else _)=_;rw[E3 L hj,E2 j,F2 L hj,I5 (B9 j) (by omega)];rw[X3 hj] at ha;unfold A8l at ha;simp only[D0,A4];cases hd:decide ((L[j]).1=id) with
   |false=>rw[hd] at ha;exact ih a ha
   |true =>
    rw[hd] at ha;cases hh:(L[j]).2.1 with
    |false=>rw[hh] at ha;exact ih (j:Int) ha
    |true=>rw[hh] at ha;exact ih a ha)
  (fun a rec_ ha=>by
   show(bif _ then _ else _)=_;rw[Y5 L];rw[Q9] at ha;replace ha:a=A0t id 0 L:=ha;simp only[A9];rw[A1q hN L hF,A3];unfold A5r;rw[← ha];rcases B1S id L 0 with e|⟨i,hi,e,h1,h2⟩
   ·rw[ha,e];rfl
   ·rw[E1] at e;rw[ha,e,dF (p:=(i:Int)<0) (by omega)];cases hm:(M5 L id 65 by_ 0).2 with
    |false=>rfl
    |true =>
     simp only[N7,A9,Bool.or_self];rw[Q8 hN L hL,A3];have h3:=B39 hn hi h1 h2;rw[dF (p:=0≤B8 id 0 L) (by omega)];simp only[A9];obtain⟨h4,_⟩:=A6A hF id 65 by_ 0 hm;rw[Q8 hN L hL,A3,dF (p:=B8 (M5 L id 65 by_ 0).1.1 0 L<0) (by omega)];simp only[A9];rw[A4D hN L hL _ _ h4,A3]
     exact fin i hi _)
  N (by omega) (-1)
 exact key (by rw[N8];exact B66 id L 0 hn)
open Go Go.Proofs.YtkmhopbmpeiofaaGreat.Nx Go.RowKit
set_option linter.unusedVariables false
set_option linter.unusedSimpArgs false
def A1L(L:List (Den A0))(p:Den A0):Bool:=p.2.1 && !A0i L p.2.2.2.1
def Y3(L:List (Den A0))(id:Int):List (Den A0)×Bool :=
 bif decide (B8 id 0 L<4) then(L,false) else
  bif (L.set (B8 id 0 L).toNat (id,false,(0:Int),[],[],[])).any (A1L (L.set (B8 id 0 L).toNat (id,false,(0:Int),[],[],[]))) then(L,false) else
   (L.set (B8 id 0 L).toNat (id,false,(0:Int),[],[],[]),true)
theorem B3c{L:List (Den A0)}(hI:V4 L):∀ F:List Int,decide (m5 L F<0) = !A0i L F
 |[]=>rfl
 |x :: xs=>by
  unfold m5 A0i;rw[P6];have ih:=B3c hI xs;unfold A0i at ih;by_cases hx:0≤B8 x 0 L
  ·rw[dT hx,A4,A3Z];have:=A0O hI hx;exact dF (by omega)
  ·rw[dF hx,A9,ih,p9]
theorem C1n{L:List (Den A0)}(h:(L.map fun p=>p.1).Nodup){i:Nat}(hi:i<L.length):B2v L i L[i]=false:=by
 unfold B2v;rw[A0g];intro q hq;obtain⟨j,hj,rfl⟩:=A5m.1 hq;intro e;have hj2:j<L.length:=by omega
 have:=A89 h hj2 hi (I9 e);omega
theorem B4w{L:List (Den A0)}(h:(L.map fun p=>p.1).Nodup){i:Nat}(hi:i<L.length){q:Den A0}(he:q.1=(L[i]).1):((L.set i q).map fun p=>p.1).Nodup:=by
 have e:(L.set i q).map (fun p=>p.1)=L.map fun p=>p.1:=by
  rw[A2o,he];have:(L[i]).1=(L.map fun p=>p.1)[i]'(by rw[C7];exact hi):=by simp
  rw[this,O4]
 rw[e];exact h
theorem V4.set{L:List (Den A0)}(h:V4 L){i:Nat}(hi:i<L.length){q:Den A0}(hq:okz A0 q)(he:q.1=(L[i]).1)(hb:∀ x∈q.2.2.2.1,x≠(L[i]).1):V4 (L.set i q):=by
 have hL:=h.1;have h2:=h.2 _ (C2 hi);refine⟨⟨by rw[G1];exact hL.1,fun p hp => ?_⟩,fun p hp => ?_⟩
 ·rcases H5 hp with hp|rfl
  ·exact hL.2 p hp
  ·exact hq
 ·rcases H5 hp with hp|rfl
  ·exact h.2 p hp
  ·rw[he];exact⟨h2.1,h2.2.1,hb⟩
theorem B1b{L:List (Den A0)}(hF:V4 L){i:Nat}(hi:i<L.length){id:Int}(e:(L[i]).1=id):V4 (L.set i (id,false,(0:Int),[],[],[])) :=
 hF.set hi ⟨trivial,trivial,trivial,⟨by simp,fun _ h=>by cases h⟩,⟨by simp,fun _ h=>by cases h⟩,⟨by simp,fun _ h=>by cases h⟩⟩ e.symm (fun x hx=>by cases hx)
theorem A9i{N:Nat}(hN:Big N)(L:List (Den A0))(hF:V4 L)(hn:(L.map fun p=>p.1).Nodup)(id:Int):A3J N L id=some (Y3 L id):=by
 have hN':=y5 hN;have hL:=hF.1;have hl:=hL.1;unfold A3J Y3;rw[p7 hN L hL,A3,Q8 hN L hL,A3];by_cases h4:B8 id 0 L<4
 ·rw[dT h4];rfl
 ·rw[dF h4];obtain⟨j,hj,e1,e2,_⟩:=S4 (L:=L) (n:=id) (by omega);rw[e1,E2 j,E3 L hj,C6];simp only[D0,A4,A9];have hg:=B1b hF hj e2;have hgn:=B4w hn hj (q:=(id,false,(0:Int),[],[],[])) e2.symm;generalize L.set j (id,false,(0:Int),[],[],[])=L2 at hg hgn;have hgL:=hg.1;have hl2:=hgL.1
  have key:=S3 (B:=A5T N (fun (x5,x6)=>some (x6,true)) (fun ρ7=>some (ρ7))) (A:=Unit) (fun i _=>(L,[],L2,(i:Int))) (fun i _ r=>r=some (bif (L2.drop i).any (A1L L2) then(L,false) else(L2,true))) L2.length
   (fun i a rec_ hi ih=>by
    show(bif _ then _ else _)=_;rw[E3 L2 hi,E2 i,F2 L2 hi,I5 (B9 i) (by omega),X3 hi,P6];simp only[D0,A4];unfold A1L at ih ⊢;cases hh:(L2[i]).2.1 with
    |false=>exact ih ()
    |true =>
     have hnx:decide (F7 L2 (L2[i]).1<0) = !A0i L2 (L2[i]).2.2.2.1:=by
      unfold F7;rw[C0f L2 hi hh (C1n hgn hi),dF (p:=(i:Int)<0) (by omega),A9,F2 L2 hi,B3c hg]
     simp only[A4];rw[A2P hN L2 hgL,A3,hnx];cases A0i L2 (L2[i]).2.2.2.1 with
     |false =>
      simp only[N3,A4,P4,A3Z];rw[p7 hN L hL,A3]
     |true=>exact ih ())
   (fun a rec_=>by
    show(bif _ then _ else _)=_;rw[Y5 L2,Q9];rfl)
   N (by omega) ()
  rw[N8] at key;exact key
theorem B4d{N:Nat}(hN:Big N)(L:List (Den A0))(hF:V4 L)(id:Int):B1J N L id=some (Y3 L id):=by
 have hL:=hF.1;unfold B1J Y3;rw[W6 hN L hL,A3];by_cases h4:B8 id 0 L<4
 ·rw[dT h4];simp only[A4];rw[A0r hN L hL];rfl
 ·rw[dF h4];obtain⟨j,hj,e1,e2,_⟩:=S4 (L:=L) (n:=id) (by omega);simp only[A9];rw[A0r hN L hL,A3,e1,E2 j,E3 L hj,C6];simp only[D0,A4];have hg:=B1b hF hj e2;generalize L.set j (id,false,(0:Int),[],[],[])=L2 at hg;have hgL:=hg.1;have hl2:=hgL.1;have hc:B5i N L2 L2=some (L2.any (A1L L2)):=by
   unfold B5i B92;have:=A3R (d:=dft A0) (L:=L2) (by omega) L2 (f:=fun x=>B6N N x L2) (A1L L2)
    (fun x hx=>by
     show B6N N x L2=_;unfold B6N A1L;rw[C2Z hN L2 hgL x (hgL.2 x hx)];cases x.2.1<;>rfl) hN (B:=A8D N (fun _=>some (-1:Int)) (fun ρ2=>some (ρ2))) (fun _ _ _ _=>rfl)
   rw[this,A3,A3r]
  rw[hc,A3];cases L2.any (A1L L2) with
  |true=>rfl
  |false=>rfl
open Go Go.Proofs.YtkmhopbmpeiofaaGreat.Nx Go.RowKit
set_option linter.unusedVariables false
set_option linter.unusedSimpArgs false
def fFv(L:List (Den A0))(id:Int)(k:Nat):Int:=(M5 L (wrap64 (id+A4k .i64 (1:Int) (k:Int))) 65 id 0).1.1
def A87(p:Den A0)(l:List Int):Den A0:=(p.1,p.2.1,p.2.2.1,p.2.2.2.1,l,p.2.2.2.2.2)
def A4H(L:List (Den A0))(id:Int):List (Den A0)×Bool :=
 bif decide (B8 id 0 L<0) then(L,false) else
  (L.set (B8 id 0 L).toNat (A87 (L.getD (B8 id 0 L).toNat (dft A0)) ((List.range 8).map (fFv L id))),true)
theorem B0T(L:List (Den A0))(key:Int):∀ (n:Nat) (a h:Int),(M5 L key n a h).2=false->(M5 L key n a h).1.1 = -1
 |0,_,_,_=>rfl
 |n+1,a,h,e=>by
  unfold M5 at e ⊢;cases h0:decide ((U4 L a key).1<0) with
  |true=>rfl
  |false =>
   rw[h0] at e;simp only[A9] at e ⊢;cases h2:(U4 L a key).2 with
   |true=>rw[h2] at e;cases e
   |false =>
    rw[h2] at e;simp only[A9] at e ⊢;exact B0T L key n _ _ e
theorem B9n(f:Nat->Int)(i:Nat):(List.range i).map f++[f i]=(List.range (i+1)).map f:=by
 rw[List.range_succ,G0];rfl
theorem A8I{N:Nat}(hN:Big N)(L:List (Den A0))(hF:V4 L)(id:Int):A4x N L id=some (A4H L id):=by
 have hN':=y5 hN;have hL:=hF.1;have hl:=hL.1;unfold A4x A4H;rw[p7 hN L hL,A3,Q8 hN L hL,A3];by_cases h4:B8 id 0 L<0
 ·rw[dT h4];rfl
 ·rw[dF h4];obtain⟨j,hj,e1,e2,_⟩:=S4 (L:=L) (n:=id) (by omega);rw[e1,E2 j,E3 L hj];simp only[D0,A4,A9];rw[F2 L hj,C6];have hgd:L.getD j (dft A0)=L[j]:=by rw[B3,D1 hj];rfl
  obtain⟨m,hm⟩:∃ m:Nat,m=8:=⟨8,rfl⟩;have key:=S3 (B:=A5L N (fun (x5,x6)=>some (x6,true)) (fun ρ7=>some (ρ7))) (A:=List (Den A0)) (fun i a=>(id,L,[],a,(j:Int),(i:Int))) (fun i a r=>a=L.set j (A87 (L[j]) ((List.range i).map (fFv L id)))->r=some (L.set j (A87 (L[j]) ((List.range m).map (fFv L id))),true)) m
   (fun i a rec_ hi ih ha=>by
    have hja:j<a.length:=by rw[ha,G1];exact hj
    have e:(i:Int) % 18446744073709551616=(i:Int):=by omega
    have haj:a[j]=A87 (L[j]) ((List.range i).map (fFv L id)):=by subst ha;exact A3A _
    have hfl:(a[j]).2.2.2.2.1.length=i:=by rw[haj];show((List.range i).map (fFv L id)).length=i;simp
    have nxt:rec_ (id,L,[],a.set j (C3i a[j] (fFv L id i)),(j:Int),((i+1:Nat):Int))=some (L.set j (A87 (L[j]) ((List.range m).map (fFv L id))),true):=by
     refine ih _ ?_;rw[haj,ha,Z0];show L.set j (A87 (L[j]) ((List.range i).map (fFv L id)++[fFv L id i]))=_;rw[B9n]
    show(bif _ then _ else _)=_;rw[dT (p:=(i:Int)<8) (by omega),e,E2 i,A1q hN L hF,A3,E2 j,E3 a hja,F2 a hja,C6,W3,I5 (B9 i) (by omega)];simp only[D0,A4,Y7]
    rw[dT (p:=((a[j]).2.2.2.2.1.length+[(-1:Int)].length)*8≤140737488355328) (by simp only[B5,C8];omega),dT (p:=((a[j]).2.2.2.2.1.length+[(M5 L (wrap64 (id+A4k .i64 (1:Int) (i:Int))) 65 id 0).1.1].length)*8≤140737488355328) (by simp only[B5,C8];omega)];simp only[A4]
    cases hm:(M5 L (wrap64 (id+A4k .i64 (1:Int) (i:Int))) 65 id 0).2 with
    |false =>
     have hv:fFv L id i = -1:=B0T L _ 65 id 0 hm;rw[hv] at nxt;exact nxt
    |true=>exact nxt)
   (fun a rec_ ha=>by
    show(bif _ then _ else _)=_;rw[dF (p:=(m:Int)<8) (by omega),ha];rfl)
   N (by omega) (L.set j (A87 (L[j]) []))
  have:=key rfl;rw[hm] at this;exact this
open Go Go.Proofs.YtkmhopbmpeiofaaGreat.Nx Go.RowKit
set_option linter.unusedVariables false
set_option linter.unusedSimpArgs false
open Go Go.Proofs.YtkmhopbmpeiofaaGreat.Nx Go.RowKit
set_option linter.unusedVariables false
set_option linter.unusedSimpArgs false
set_option maxRecDepth 100000
theorem B5G(x:Int):∀ (L:List (Den A0)) (j:Nat),0≤B8 x j L↔∃ p∈L,p.2.1=true∧p.1=x
 |[],j=>by
  unfold B8;constructor
  ·intro h;omega
  ·rintro ⟨p,h,_⟩;cases h
 |p :: ps,j=>by
  unfold B8;cases hp:(p.2.1&&decide (p.1=x)) with
  |true =>
   simp only[A6,D7] at hp;rw[A4];exact⟨fun _=>⟨p,by simp,hp⟩,fun _=>by omega⟩
  |false =>
   rw[A9,B5G x ps (j+1)];constructor
   ·rintro ⟨q,h1,h2⟩;exact⟨q,by simp[h1],h2⟩
   ·rintro ⟨q,h1,h2,h3⟩;rcases D8.1 h1 with rfl|h1
    ·rw[h2,dT h3] at hp;cases hp
    ·exact⟨q,h1,h2,h3⟩
theorem B2j{L L':List (Den A0)}(h:∀ x,0≤B8 x 0 L->0≤B8 x 0 L'){F:List Int}(hk:A0i L F=true):A0i L' F=true:=by
 unfold A0i at hk ⊢;rw[w8] at hk ⊢;obtain⟨x,h1,h2⟩:=hk;exact⟨x,h1,O5 (h x (I9 h2))⟩
theorem C43{L:List (Den A0)}{i:Nat}(hi:i<L.length){q:Den A0}(he:q.1=(L[i]).1)(hh:(L[i]).2.1=true->q.2.1=true)(x:Int)(h:0≤B8 x 0 L):0≤B8 x 0 (L.set i q):=by
 rw[B5G] at h ⊢;obtain⟨p,h1,h2,h3⟩:=h;obtain⟨j,hj,rfl⟩:=u6 h1;by_cases hij:i=j
 ·subst hij;exact⟨q,List.mem_set hi q,hh h2,by rw[he];exact h3⟩
 ·exact⟨L[j],List.mem_iff_getElem.2 ⟨j,by rw[G1];exact hj,by rw[A0G hij]⟩,h2,h3⟩
def okH(p:Den A0):Prop:=(0≤p.1∧p.1≤255)∧(-1≤p.2.2.1∧p.2.2.1≤255)∧p.2.2.2.1.length≤3∧p.2.2.2.2.1.length=8∧List.length (α:=Den A7) p.2.2.2.2.2≤80 ∧
 (∀ x∈p.2.2.2.1,(0≤x∧x≤255)∧x≠p.1)∧(∀ x∈p.2.2.2.2.1,-1≤x∧x≤255)∧i6 (Y6 p.2.2.2.2.2) 0 p.2.2.2.2.2=true
theorem B84{x a b:Int}:inR x a b=true↔a≤x∧x≤b:=by
 unfold inR;rw[A6,D7,D7]
theorem A0l{p:Den A0}(hh:p.2.1=true):R4 p=true↔okH p:=by
 unfold R4 okH;rw[hh,A7u,A7u];simp only[A6,A4,B84,D6,M6,D7,U8];constructor
 ·rintro ⟨h1,h2,h3,h4,h5,h6,h7,h8⟩;exact⟨h1,h2,by omega,by omega,by omega,h6,h7,h8⟩
 ·rintro ⟨h1,h2,h3,h4,h5,h6,h7,h8⟩;exact⟨h1,h2,by omega,by omega,by omega,h6,h7,h8⟩
structure A27 (L:List (Den A0)):Prop where
 ok:∀ p∈L,R4 p=true
 base:∀ i (hi:i<L.length),i<4->(L[i]).2.1=true
 kn:∀ p∈L,p.2.1=true->A0i L p.2.2.2.1=true
theorem A93{α:Type}(p:Nat->α->Bool):∀ (l:List α) (j:Nat),i6 p j l=true↔∀ i (hi:i<l.length),p (j+i) l[i]=true
 |[],j=>by unfold i6;exact⟨fun _ i hi=>absurd hi (by simp),fun _=>rfl⟩
 |x :: xs,j=>by
  unfold i6;rw[A6,A93 p xs (j+1)];constructor
  ·rintro ⟨h1,h2⟩ i hi;cases i with
   |zero=>exact h1
   |succ i =>
    have:=h2 i (by simpa using hi);rw[show j+(i+1)=j+1+i from by omega];simpa using this
  ·intro h;refine⟨h 0 (by simp),fun i hi => ?_⟩;have:=h (i+1) (by simpa using hi);rw[show j+(i+1)=j+1+i from by omega] at this;simpa using this
theorem C77{L:List (Den A0)}(h:B5N L=true):A27 L:=by
 unfold B5N at h;rw[A6] at h;have h2:=(A93 _ _ _).1 h.2;have g:∀ i (hi:i<L.length),R4 L[i]=true∧(i<4->(L[i]).2.1=true)∧((L[i]).2.1=true->A0i L (L[i]).2.2.2.1=true):=fun i hi=>by
  have:=h2 i hi;unfold C0J at this;rw[E1] at this;simp only[A6,b7,M6,U8] at this;obtain⟨g1,g2,g3,_⟩:=this;refine⟨g1,fun h4 => ?_,fun hh => ?_⟩
  ·rcases g2 with g2|g2
   ·omega
   ·exact g2
  ·rcases g3 with g3|g3
   ·rw[hh] at g3;cases g3
   ·exact g3
 refine⟨fun p hp => ?_,fun i hi h4=>(g i hi).2.1 h4,fun p hp hh => ?_⟩
 ·obtain⟨i,hi,rfl⟩:=u6 hp;exact(g i hi).1
 ·obtain⟨i,hi,rfl⟩:=u6 hp;exact(g i hi).2.2 hh
theorem B3b{L:List (Den A0)}(hK:A27 L){i:Nat}(hi:i<L.length){q:Den A0}(hq:R4 q=true)(he:q.1=(L[i]).1)(hh:(L[i]).2.1=true->q.2.1=true)
  (hk:q.2.1=true->A0i L q.2.2.2.1=true):A27 (L.set i q):=by
 have hm:=C43 hi he hh;refine⟨fun p hp => ?_,fun j hj h4 => ?_,fun p hp h1 => ?_⟩
 ·rcases H5 hp with hp|rfl
  ·exact hK.ok p hp
  ·exact hq
 ·rw[G1] at hj;rw[A3j];split
  ·rename_i e;subst e;exact hh (hK.base i hj h4)
  ·exact hK.base j hj h4
 ·rcases H5 hp with hp|rfl
  ·exact B2j hm (hK.kn p hp h1)
  ·exact B2j hm (hk h1)
theorem B4G{L:List (Den A0)}(hF:V4 L)(hK:A27 L){n but:Int}(hn:0≤B8 n 0 L):∀ x∈X7 L n but,(0≤x∧x≤255)∧x≠but:=by
 intro x hx;refine⟨?_,A6I L n but x hx⟩;obtain⟨j,hj,e1,e2,e3⟩:=S4 hn;unfold X7 at hx;have hx:=(Y4.1 (Q0 hx)).1;rcases D8.1 hx with rfl|hx
 ·exact A0O hF hn
 ·rw[e1,F2 L hj] at hx;have:=(A0l e3).1 (hK.ok _ (C2 hj));exact(this.2.2.2.2.2.1 x hx).1
theorem A9E{L:List (Den A0)}{n but:Int}(hn:0≤B8 n 0 L)(hne:n≠but):A0i L (X7 L n but)=true:=by
 unfold A0i X7;rw[w8];refine⟨n,?_,O5 hn⟩;rw[A3l,dF hne];simp
theorem C3d{k:Nat}(hk:k≤1048576){L:List (Den A0)}(h:Y2 k L)(hK:A27 L)(id by_:Int):A27 (A5r L id by_).1:=by
 have hF:=h.f hk;unfold A5r;rcases B1S id L 0 with e|⟨i,hi,e,h1,h2⟩
 ·rw[e];exact hK
 ·rw[E1] at e;rw[e,dF (p:=(i:Int)<0) (by omega),C6];cases hm:(M5 L id 65 by_ 0).2 with
  |false=>exact hK
  |true =>
   obtain⟨h4,_⟩:=A6A hF id 65 by_ 0 hm;have hne:(M5 L id 65 by_ 0).1.1≠id:=fun e=>by
    have:=B39 h.2.1 hi h1 h2;rw[e] at h4;omega
   have hid:=(h.2.2 _ (C2 hi)).1;rw[h1] at hid;refine B3b hK hi ?_ h1.symm (fun e=>by simp[h2] at e) (fun _=>A9E h4 hne);refine(A0l (p:=(id,true,(-1:Int),X7 L (M5 L id 65 by_ 0).1.1 id,List.replicate 8 (-1),[])) rfl).2 ⟨hid,⟨A1K (-1),by show(-1:Int)≤255;omega⟩,A4w L _ id,rfl,P1 _,B4G hF hK h4,fun x hx => ?_,rfl⟩
   rw[A2l hx];exact⟨A1K (-1),(by decide:(-1:Int)≤255)⟩
theorem C8y{k:Nat}(hk:k≤1048576){L:List (Den A0)}(h:Y2 k L)(hK:A27 L)(id:Int):A27 (Y3 L id).1:=by
 unfold Y3;by_cases h4:B8 id 0 L<4
 ·rw[dT h4];exact hK
 ·rw[dF h4];obtain⟨j,hj,e1,e2,e3⟩:=S4 (L:=L) (n:=id) (by omega);rw[e1,C6];have hj4:4≤j:=by omega
  have hid:=(h.2.2 _ (C2 hj)).1;rw[e2] at hid;simp only[A9];cases hl:(L.set j (id,false,(0:Int),[],[],[])).any (A1L (L.set j (id,false,(0:Int),[],[],[]))) with
  |true=>exact hK
  |false =>
   simp only[A9];refine⟨fun p hp => ?_,fun i hi i4 => ?_,fun p hp hh => ?_⟩
   ·rcases H5 hp with hp|rfl
    ·exact hK.ok p hp
    ·unfold R4;rw[B84.2 hid];rfl
   ·rw[G1] at hi;rw[A0G (by omega)];exact hK.base i hi i4
   ·rw[A0g] at hl;have:=hl p hp;unfold A1L at this;rw[hh] at this;simpa using this
theorem B9h{k:Nat}(hk:k≤1048576){L:List (Den A0)}(h:Y2 k L)(hK:A27 L)(id:Int):A27 (A4H L id).1:=by
 have hF:=h.f hk;unfold A4H;by_cases h4:B8 id 0 L<0
 ·rw[dT h4];exact hK
 ·rw[dF h4];obtain⟨j,hj,e1,e2,e3⟩:=S4 (L:=L) (n:=id) (by omega);rw[e1,F2 L hj,C6];obtain⟨g1,g2,g3,g4,g5,g6,g7,g8⟩:=(A0l e3).1 (hK.ok _ (C2 hj));refine B3b hK hj ?_ rfl (fun e=>e) (fun e=>hK.kn L[j] (C2 hj) e3)
  refine(A0l (p:=A87 L[j] ((List.range 8).map (fFv L id))) e3).2 ⟨g1,g2,g3,by show((List.range 8).map (fFv L id)).length=8;simp,g5,g6,fun x hx => ?_,g8⟩;obtain⟨m,_,rfl⟩:=C5.1 hx;unfold fFv;cases hm:(M5 L (wrap64 (id+A4k .i64 (1:Int) (m:Int))) 65 id 0).2 with
  |false=>rw[B0T L _ 65 id 0 hm];exact⟨A1K (-1),(by decide:(-1:Int)≤255)⟩
  |true =>
   have h5:=A0O hF (A6A hF _ 65 id 0 hm).1;exact⟨A3Y (by decide:(-1:Int)≤0) h5.1,h5.2⟩
theorem C3V{k:Nat}(hk:k≤1048576){L:List (Den A0)}(h:Y2 k L)(hK:A27 L)(id:Int):A27 (A5p L id).1:=by
 have hF:=h.f hk;unfold A5p;by_cases h0:B8 id 0 L<0
 ·rw[dT h0];exact hK
 ·rw[dF h0];by_cases h1:F7 L id<0
  ·rw[dT h1];exact hK
  ·rw[dF h1];simp only[A9];obtain⟨j,hj,e1,e2,e3⟩:=S4 (L:=L) (n:=id) (by omega);obtain⟨_,n1,n2,_⟩:=A3z hF (id:=id) (by omega);rw[e1,C6]
   have hn':0≤B8 (bif decide (0≤B8 (List.getD L (B8 (F7 L id) 0 L).toNat (dft A0)).2.2.1 0 L)&&(!decide ((List.getD L (B8 (F7 L id) 0 L).toNat (dft A0)).2.2.1=F7 L id)&&(!decide ((List.getD L (B8 (F7 L id) 0 L).toNat (dft A0)).2.2.1=id)&&c8 id (List.getD L (B8 (F7 L id) 0 L).toNat (dft A0)).2.2.1 (F7 L id))) then(List.getD L (B8 (F7 L id) 0 L).toNat (dft A0)).2.2.1 else F7 L id) 0 L∧(bif decide (0≤B8 (List.getD L (B8 (F7 L id) 0 L).toNat (dft A0)).2.2.1 0 L)&&(!decide ((List.getD L (B8 (F7 L id) 0 L).toNat (dft A0)).2.2.1=F7 L id)&&(!decide ((List.getD L (B8 (F7 L id) 0 L).toNat (dft A0)).2.2.1=id)&&c8 id (List.getD L (B8 (F7 L id) 0 L).toNat (dft A0)).2.2.1 (F7 L id))) then(List.getD L (B8 (F7 L id) 0 L).toNat (dft A0)).2.2.1 else F7 L id)≠id:=by
    generalize (List.getD L (B8 (F7 L id) 0 L).toNat (dft A0)).2.2.1=p;cases hc:(decide (0≤B8 p 0 L)&&(!decide (p=F7 L id)&&(!decide (p=id)&&c8 id p (F7 L id)))) with
    |false=>exact⟨n1,n2⟩
    |true =>
     simp only[A6,D7,M6,U8] at hc;exact⟨hc.1,hc.2.2.1⟩
   generalize (bif decide (0≤B8 (List.getD L (B8 (F7 L id) 0 L).toNat (dft A0)).2.2.1 0 L)&&(!decide ((List.getD L (B8 (F7 L id) 0 L).toNat (dft A0)).2.2.1=F7 L id)&&(!decide ((List.getD L (B8 (F7 L id) 0 L).toNat (dft A0)).2.2.1=id)&&c8 id (List.getD L (B8 (F7 L id) 0 L).toNat (dft A0)).2.2.1 (F7 L id))) then(List.getD L (B8 (F7 L id) 0 L).toNat (dft A0)).2.2.1 else F7 L id)=n' at hn'
   obtain⟨m1,m2⟩:=hn';have hgd:L.getD j (dft A0)=L[j]:=by rw[B3,D1 hj];rfl
   have hid:=A0O hF (n:=id) (by omega);have h1:A27 (L.set j (setB (L.getD j (dft A0)) (X7 L n' id))):=by
    rw[hgd];obtain⟨g1,g2,g3,g4,g5,g6,g7,g8⟩:=(A0l e3).1 (hK.ok _ (C2 hj));refine B3b hK hj ?_ rfl (fun e=>e) (fun _=>A9E m1 m2);refine(A0l (p:=setB L[j] (X7 L n' id)) e3).2 ⟨g1,g2,A4w L n' id,g4,g5,fun x hx => ?_,g7,g8⟩;have:=B4G hF hK m1 x hx;refine⟨this.1,?_⟩;show x≠(L[j]).1;rw[e2];exact this.2
   obtain⟨k',hk',f1,f2,f3⟩:=S4 m1;have hfl:∀ hi:k'<(L.set j (setB (L.getD j (dft A0)) (X7 L n' id))).length,((L.set j (setB (L.getD j (dft A0)) (X7 L n' id)))[k']).2.1=true:=by
    intro hi;rw[A3j];split
    ·show(L.getD j (dft A0)).2.1=true;rw[hgd];exact e3
    ·exact f3
   have hlen:k'<(L.set j (setB (L.getD j (dft A0)) (X7 L n' id))).length:=by rw[G1];exact hk'
   rw[f1,C6];generalize L.set j (setB (L.getD j (dft A0)) (X7 L n' id))=L1 at h1 hfl hlen;cases (decide (B8 (List.getD L k' (dft A0)).2.2.1 0 L<0)||c8 (List.getD L k' (dft A0)).2.2.1 id n') with
   |false=>exact h1
   |true =>
    simp only[A4];have hgd:L1.getD k' (dft A0)=L1[k']:=by rw[B3,D1 hlen];rfl
    rw[hgd];have hfl:=hfl hlen;obtain⟨g1,g2,g3,g4,g5,g6,g7,g8⟩:=(A0l hfl).1 (h1.ok _ (C2 hlen));refine B3b h1 hlen ?_ rfl (fun e=>e) (fun e=>h1.kn L1[k'] (C2 hlen) hfl);exact(A0l (p:=C4Z L1[k'] id) hfl).2 ⟨g1,⟨by show -1≤id;omega,by show id≤255;omega⟩,g3,g4,g5,g6,g7,g8⟩
end Go.Proofs.YtkmhopbmpeiofaaGreat.C
