/- Call results and blocks anew: sound, with no condition beyond those each lemma names. -/
import Derived.Test.YtkmhopbmpeiofaaGreatNxl
set_option linter.unusedVariables false
set_option linter.unusedSimpArgs false
namespace Go.Proofs.YtkmhopbmpeiofaaGreat.Nx
open Go Go.RowKit
def A6s(p:PK)(a:d9 p):List AV:=(A28 p a).map (av [])
def A9b(R:RK)(r:G8 R):THP:=(I3 0 R r).2.map some
def A5z(R:RK)(r:G8 R):AV:=av (A9b R r) (A00 (I3 0 R r).1)
def A3K(R:RK)(r:G8 R):HP:=F1 (A9b R r)
def J9(P:Program)(ct:CT):Prop:=∀ a r,ct.F a=some r→AC P ct.f (A6s ct.p a) [] (Is (A5z ct.R r) (A3K ct.R r))
mutual
def shf(b:Nat):TV→TV
 |.own j=>.own (j+b)
 |.sub j o l=>.sub (j+b) o l
 |.ptr j r o=>.ptr (j+b) r o
 |.ag cs=>.ag (Z7 b cs)
 |.tp cs=>.tp (Z7 b cs)
 |.ipt cs=>.ipt (Z7 b cs)
 |.fn f cs=>.fn f (Z7 b cs)
 |.any=>.any
 |.v T x=>.v T x
 |.c v=>.c v
 |.nil=>.nil
 |.emp=>.emp
 |.ipv T x o=>.ipv T x o
def Z7(b:Nat):List TV→List TV
 |[]=>[]
 |x :: xs=>shf b x :: Z7 b xs
end
theorem A22(b:Nat):∀ xs,Z7 b xs=xs.map (shf b)
 |[]=>rfl
 |x :: xs=>by rw[Z7,A22 b xs];rfl
mutual
theorem C69(a b:Nat):∀ x,shf a (shf b x)=shf (b+a) x
 |.own j=>by simp only[shf,G4]
 |.sub j o l=>by simp only[shf,G4]
 |.ptr j r o=>by simp only[shf,G4]
 |.ag cs=>by simp only[shf,A0n a b cs]
 |.tp cs=>by simp only[shf,A0n a b cs]
 |.ipt cs=>by simp only[shf,A0n a b cs]
 |.fn f cs=>by simp only[shf,A0n a b cs]
 |.any=>rfl
 |.v _ _=>rfl
 |.c _=>rfl
 |.nil=>rfl
 |.emp=>rfl
 |.ipv _ _ _=>rfl
theorem A0n(a b:Nat):∀ xs,Z7 a (Z7 b xs)=Z7 (b+a) xs
 |[]=>rfl
 |x :: xs=>by simp only[Z7,C69 a b x,A0n a b xs]
end
theorem A6U(b:Nat)(xs ys:List TV):Z7 b (xs++ys)=Z7 b xs++Z7 b ys:=by simp[A22]
theorem o9:∀ (T:Ty) (x:Den T) (b:Nat),(rsC b T x).1=Z7 b (rsC 0 T x).1∧(rsC b T x).2=(rsC 0 T x).2:=by
 intro T;induction T with
 |i|bl|tx|sv=>intro x b;exact⟨rfl,rfl⟩
 |ar n k =>
  intro x b;refine⟨?_,rfl⟩;simp only[rsC,W8,A22,H7];exact E4 fun i _=>rfl
 |sl t _=>intro x b;simp[rsC,Z7,shf]
 |st t ih=>intro x b;exact ih x b
 |pr a c iha ihc =>
  intro x b;simp only[rsC,E1];rw[(iha x.1 b).1,(iha x.1 b).2];refine⟨?_,?_⟩
  ·rw[(ihc x.2 (b+(rsC 0 a x.1).2.length)).1,(ihc x.2 ((rsC 0 a x.1).2.length)).1,A6U,A0n,Z1]
  ·rw[(ihc x.2 (b+(rsC 0 a x.1).2.length)).2,(ihc x.2 ((rsC 0 a x.1).2.length)).2]
theorem B5A(hp:THP)(T:Ty)(x:Den T):av hp (C4f T x)=enc false T x:=by cases T<;>rfl
theorem B2V(T:Ty)(x:Den T)(b:Nat):(A0x b T x).1=shf b (A0x 0 T x).1∧(A0x b T x).2=(A0x 0 T x).2:=by
 have h:=o9 T x b;unfold A0x;cases T.flat with
 |true=>exact⟨by cases T<;>rfl,rfl⟩
 |false =>
  simp only[A9];cases T.ag with
  |true=>simp only[A4,h.1,h.2,shf];exact⟨trivial,trivial⟩
  |false =>
   simp only[A9,h.1,h.2];refine⟨?_,trivial⟩;cases (rsC 0 T x).1<;>rfl
theorem A7W:∀ (R:RK) (r:G8 R) (b:Nat),(I3 b R r).1=Z7 b (I3 0 R r).1∧(I3 b R r).2=(I3 0 R r).2:=by
 intro R;induction R with
 |un=>intro r b;exact⟨rfl,rfl⟩
 |t T=>intro r b;simp only[I3,(B2V T r b).1,(B2V T r b).2,Z7];exact⟨trivial,trivial⟩
 |pv T=>intro r b;simp[I3,Z7,shf]
 |pr a c iha ihc =>
  intro r b;simp only[I3,E1];rw[(iha r.1 b).1,(iha r.1 b).2];refine⟨?_,?_⟩
  ·rw[(ihc r.2 (b+(I3 0 a r.1).2.length)).1,(ihc r.2 ((I3 0 a r.1).2.length)).1,A6U,A0n,Z1]
  ·rw[(ihc r.2 (b+(I3 0 a r.1).2.length)).2,(ihc r.2 ((I3 0 a r.1).2.length)).2]
theorem B1v(b:Nat)(xs:List TV):A00 (Z7 b xs)=shf b (A00 xs):=by
 match xs with
 |[]=>rfl
 |[x]=>rfl
 |x :: y :: xs=>rfl
def A2a:TB→Bool
 |.arr _ o _=>o
 |_=>false
theorem B81:∀ (T:Ty) (x:Den T) (b:Nat),∀ k∈(rsC b T x).2,A2a k=true:=by
 intro T;induction T with
 |i|bl|tx|sv|ar=>intro x b k hk;cases hk
 |sl t _=>intro x b k hk;simp only[rsC,C1] at hk;subst hk;rfl
 |st t ih=>intro x b;exact ih x b
 |pr a c iha ihc =>
  intro x b k hk;rcases C9.1 hk with h|h
  ·exact iha _ _ k h
  ·exact ihc _ _ k h
theorem B6s(T:Ty)(x:Den T)(b:Nat):∀ k∈(A0x b T x).2,A2a k=true:=by
 intro k hk;unfold A0x at hk;cases hf:T.flat with
 |true=>rw[hf] at hk;cases hk
 |false =>
  rw[hf,A9] at hk;cases ha:T.ag<;>rw[ha] at hk<;>exact B81 T x b k hk
theorem A61:∀ {R:RK},A23 R=true→A9x R=true
 |.un,_=>rfl
 |.t _,_=>rfl
 |.pv _,h=>by cases h
 |.pr a b,h=>by
  simp only[A23,A9x,A6] at h ⊢;exact⟨A61 h.1,A61 h.2⟩
theorem B0U:∀ (R:RK),A9x R=true→∀ (r:G8 R) (b:Nat),∀ k∈(I3 b R r).2,A2a k=true:=by
 intro R;induction R with
 |un=>intro _ r b k hk;cases hk
 |t T=>intro _ r b;exact B6s T r b
 |pv T=>intro h;cases h
 |pr a c iha ihc =>
  intro h x b k hk;simp only[A9x,A6] at h;rcases C9.1 hk with hk|hk
  ·exact iha h.1 _ _ k hk
  ·exact ihc h.2 _ _ k hk
def TB.novB:TB→Bool
 |.arr T _ _=>T.nov
 |_=>true
theorem B8N:∀ (T:Ty),T.nov=true→∀ (x:Den T) (b:Nat),∀ k∈(rsC b T x).2,k.novB=true:=by
 intro T;induction T with
 |i|bl|tx|sv|ar=>intro _ x b k hk;cases hk
 |sl t _=>intro h x b k hk;simp only[rsC,C1] at hk;subst hk;exact h
 |st t ih=>intro h x b;exact ih h x b
 |pr a c iha ihc =>
  intro h x b k hk;simp only[Ty.nov,A6] at h;rcases C9.1 hk with hk|hk
  ·exact iha h.1 _ _ k hk
  ·exact ihc h.2 _ _ k hk
theorem C3Z(T:Ty)(h:T.nov=true)(x:Den T)(b:Nat):∀ k∈(A0x b T x).2,k.novB=true:=by
 intro k hk;unfold A0x at hk;cases hf:T.flat with
 |true=>rw[hf] at hk;cases hk
 |false =>
  rw[hf,A9] at hk;cases ha:T.ag<;>rw[ha] at hk<;>exact B8N T h x b k hk
theorem B6Z:∀ (R:RK),A23 R=true→∀ (r:G8 R) (b:Nat),∀ k∈(I3 b R r).2,k.novB=true:=by
 intro R;induction R with
 |un=>intro _ r b k hk;cases hk
 |t T=>intro h r b;exact C3Z T h r b
 |pv T=>intro h;cases h
 |pr a c iha ihc =>
  intro h x b k hk;simp only[A23,A6] at h;rcases C9.1 hk with hk|hk
  ·exact iha h.1 _ _ k hk
  ·exact ihc h.2 _ _ k hk
def A6c:TB→Bool
 |.arr _ o _=>o
 |.box cs=>cs.all fun c=>match c with
  |.v A _ => !A.ag
  |_=>false
 |_=>false
theorem B69:∀ (T:Ty) (x:Den T),(W8 T x).all (fun c=>match c with
  |.v A _ => !A.ag
  |_=>false)=true:=by
 intro T;induction T with
 |i|bl|tx|sl|sv=>intro x;rfl
 |ar n k =>
  intro x;rw[D6];intro c hc;simp only[W8,C5] at hc;obtain⟨i,_,rfl⟩:=hc;rfl
 |st t ih=>intro x;exact ih x
 |pr a b iha ihb=>intro x;simp only[W8,List.all_append,iha,ihb];rfl
theorem B53:∀ (R:RK) (r:G8 R) (b:Nat),∀ k∈(I3 b R r).2,A6c k=true:=by
 intro R;induction R with
 |un=>intro r b k hk;cases hk
 |t T =>
  intro r b k hk;have:=B6s T r b k hk;cases k<;>first|exact this|cases this
 |pv T=>intro r b k hk;simp only[I3,C1] at hk;subst hk;exact B69 T r
 |pr a c iha ihc =>
  intro x b k hk;rcases C9.1 hk with h|h
  ·exact iha _ _ k h
  ·exact ihc _ _ k h
mutual
theorem B27{hp hp':THP}{b:Nat}(h:∀ j,hpk hp' (j+b)=hpk hp j):∀ x:TV,av hp' (shf b x)=ren (· + b) (av hp x)
 |.any=>rfl
 |.v T x=>by simp only[shf,av];rw[B7C _ _ (A4T T x)]
 |.c _=>rfl
 |.nil=>rfl
 |.emp=>rfl
 |.ag cs=>by simp only[shf,av,ren];rw[A4e h cs]
 |.tp cs=>by simp only[shf,av,ren];rw[A4e h cs]
 |.own j=>by
  simp only[shf,av,h];generalize hpk hp j=q;cases q with
  |none=>rfl
  |some q=>cases q<;>rfl
 |.sub j o l=>by
  simp only[shf,av,h];generalize hpk hp j=q;cases q with
  |none=>rfl
  |some q=>cases q<;>rfl
 |.ptr j r o=>by
  simp only[shf,av,h];generalize hpk hp j=q;cases q with
  |none=>rfl
  |some q=>cases q<;>rfl
 |.ipv T x o=>by
  simp only[shf,av];rw[B7C _ _ (by
   simp only[ci,A1e];have:=A2y T x;rw[A1e] at this;rw[D6] at this ⊢;exact fun c hc=>this c (R3 hc))]
 |.ipt cs=>by simp only[shf,av,ren];rw[A4e h cs]
 |.fn f cs=>by simp only[shf,av,ren];rw[A4e h cs]
theorem A4e{hp hp':THP}{b:Nat}(h:∀ j,hpk hp' (j+b)=hpk hp j):∀ xs:List TV,avL hp' (Z7 b xs)=m8 (· + b) (avL hp xs)
 |[]=>rfl
 |x :: xs=>by simp only[Z7,avL,m8];rw[B27 h x,A4e h xs]
end
theorem B8X(f:Nat→Nat)(ag:Bool)(l:List AV):ren f (mkr ag l)=mkr ag (m8 f l):=by
 unfold mkr;split
 ·rfl
 ·cases l<;>rfl
theorem C6W(f:Nat→Nat)(o:Bool):∀ (T:Ty) (x:Den T),m8 f (cls o T x)=cls o T x:=by
 intro T;induction T with
 |i|bl|tx=>intro x;rfl
 |sl t ih =>
  intro x;simp only[cls,m8,ren];rw[v6,H7];congr 2;refine E4 fun y _ => ?_;simp only[Function.comp,B8X,ih y]
 |sv t _=>intro x;exact A3x f _ (A2y (.sv t) x)
 |ar n k=>intro x;exact A3x f _ (A2y (.ar n k) x)
 |pr a b iha ihb=>intro x;simp only[cls];rw[v6,G0,← v6,← v6,iha,ihb]
 |st t ih=>intro x;exact ih x
theorem C4P(f:Nat→Nat)(o:Bool)(T:Ty)(L:List (Den T)):m8 f (L.map (enc o T))=L.map (enc o T):=by
 rw[v6,H7];refine E4 fun y _ => ?_;simp only[Function.comp,enc,B8X,C6W]
theorem C1o:∀ (T:Ty),T.nov=true→∀ (x:Den T),i7 (cls true T x)=true:=by
 intro T;induction T with
 |i|bl|tx=>intro _ x;rfl
 |sv=>intro h;cases h
 |ar n k =>
  intro _ x;rw[d4,D6];intro c hc;simp only[cls,arC,C5] at hc;obtain⟨i,_,rfl⟩:=hc;rfl
 |sl t ih =>
  intro h x;simp only[cls,i7,m9,A3Z,P4,U6];rw[d4,D6];intro c hc;obtain⟨y,_,rfl⟩:=C5.1 hc;have:=ih h y;unfold mkr;split
  ·exact this
  ·generalize cls true t y=l at this;cases l with
   |nil=>rfl
   |cons c l=>simp only[i7,A6] at this;exact this.1
 |pr a b iha ihb =>
  intro h x;simp only[Ty.nov,A6] at h;simp only[cls];rw[d4,List.all_append,← d4,← d4,iha h.1,ihb h.2];rfl
 |st t ih=>intro h x;exact ih h x
theorem A8V(T:Ty)(hv:T.nov=true)(x:Den T):m9 (enc true T x)=true:=by
 have:=C1o T hv x;unfold enc mkr;split
 ·exact this
 ·generalize cls true T x=l at this;cases l with
  |nil=>rfl
  |cons c l=>simp only[i7,A6] at this;exact this.1
theorem B9Z{T:Ty}(h:T.flat=true)(hv:T.nov=true)(x:Den T):m9 (enc false T x)=true:=by
 have:=A8V T hv x;unfold enc at this ⊢;rw[← A5w h];exact this
section
variable {hp:THP}
theorem B4v:∀ (T:Ty),T.nov=true→∀ (x:Den T) (b:Nat),∀ c∈(rsC b T x).1,m9 (av hp c)=true:=by
 intro T;induction T with
 |i|bl|tx=>intro _ x b c hc;simp only[rsC,C1] at hc;subst hc;rfl
 |ar n k =>
  intro _ x b c hc;simp only[rsC,W8,C5] at hc;obtain⟨i,_,rfl⟩:=hc;rfl
 |sv=>intro h;cases h
 |sl t _ =>
  intro _ x b c hc;simp only[rsC,C1] at hc;subst hc;simp only[av];split<;>rfl
 |st t ih=>intro h x b;exact ih h x b
 |pr a d iha ihd =>
  intro h x b c hc;simp only[Ty.nov,A6] at h;rcases C9.1 hc with hc|hc
  ·exact iha h.1 _ _ c hc
  ·exact ihd h.2 _ _ c hc
theorem B4q{cs:List TV}(h:∀ c∈cs,m9 (av hp c)=true):i7 (avL hp cs)=true:=by
 rw[d4,O8,X5,D6];exact fun c hc=>h c hc
theorem B9c(T:Ty)(hv:T.nov=true)(x:Den T)(b:Nat):m9 (av hp (A0x b T x).1)=true:=by
 have h:=B4v (hp:=hp) T hv x b;unfold A0x;cases hf:T.flat with
 |true=>show m9 (av hp (C4f T x))=true;rw[B5A];exact B9Z hf hv x
 |false =>
  simp only[A9];cases T.ag with
  |true=>exact B4q h
  |false =>
   simp only[A9];generalize (rsC b T x).1=l at h;cases l with
   |nil=>rfl
   |cons c l=>exact h c (by simp)
theorem B2y:∀ (R:RK),A23 R=true→∀ (r:G8 R) (b:Nat),∀ c∈(I3 b R r).1,m9 (av hp c)=true:=by
 intro R;induction R with
 |un=>intro _ r b c hc;cases hc
 |t T=>intro h r b c hc;simp only[I3,C1] at hc;subst hc;exact B9c T h r b
 |pv T=>intro h;cases h
 |pr a d iha ihd =>
  intro h x b c hc;simp only[A23,A6] at h;rcases C9.1 hc with hc|hc
  ·exact iha h.1 _ _ c hc
  ·exact ihd h.2 _ _ c hc
theorem B4F{xs:List TV}(h:∀ c∈xs,m9 (av hp c)=true):m9 (av hp (A00 xs))=true:=by
 match xs,h with
 |[],_=>rfl
 |[x],h=>exact h x (by simp)
 |x :: y :: xs,h=>exact B4q h
end
theorem C0v(R:RK)(hp:A23 R=true)(r:G8 R):m9 (A5z R r)=true:=B4F (B2y R hp r 0)
theorem B9d(R:RK)(hp:A23 R=true)(r:G8 R):A7d (A3K R r)=true:=by
 unfold A7d A3K F1 A9b;rw[H7,X5,D6];intro b hb;have:=B0U R (A61 hp) r 0 b hb;have hv:=B6Z R hp r 0 b hb;cases b with
 |arr T o L =>
  simp only[A2a] at this;subst this;show i7 (L.map (enc true T))=true;rw[d4,X5,D6];exact fun y _=>A8V T hv y
 |_=>cases this
section
variable {n:Nat} {t:TS}
theorem L7.newL{bs:List TB}(hb:∀ b∈bs,A2a b=true):L7 { D2 n t with hp:=F1 t.hp++impA t.hp.length (F1 (bs.map some)) } (D2 n (t.new bs)):=by
 have hl:∀ j,Nat.blt j t.hp.length=true→hpk (t.new bs).hp j=hpk t.hp j:=fun j hj=>by
  rw[Q5] at hj;rw[← A4h (fun i=>Nat.blt i t.hp.length) t.hp j];unfold hpk TS.new;rw[B7 (by rw[P8];exact hj)]
 refine⟨by rw[T5,T5],fun i => ?_,?_,fun i x hx => ?_⟩
 ·show Im ((D2 n t).sl.getD i .any) _;rw[R5,R5,TS.new,A2u n t _ _ (fun i=>Nat.blt i t.hp.length) rfl];exact A1Y hl _
 ·show(F1 (t.new bs).hp).length=(F1 t.hp++impA t.hp.length (F1 (bs.map some))).length;simp[F3,TS.new,P8,A6W]
 ·show ∃ y,(F1 (t.new bs).hp)[i]? = some y∧_;replace hx:(F1 t.hp++impA t.hp.length (F1 (bs.map some)))[i]? = some x:=hx;rw[I1];rcases D9 i t.hp.length with hi|hi
  ·rw[B7 (by rw[F3];exact hi),I1] at hx;have e:(t.new bs).hp[i]? = (t.hp[i]?).map (Option.map (TB.flt fun i=>Nat.blt i t.hp.length)):=by
    unfold TS.new;rw[B7 (by rw[P8];exact hi),A0y]
   rw[e];cases hb:t.hp[i]? with
   |none=>rw[hb] at hx;cases hx
   |some c =>
    rw[hb] at hx;simp only[F8,C3] at hx;subst hx;refine⟨_,rfl,?_⟩;cases c with
    |none=>trivial
    |some c=>exact A2R hl c
  ·rw[B6 (by rw[F3];exact hi),F3] at hx;have e:(t.new bs).hp[i]? = (bs.map some)[i-t.hp.length]? := by
    unfold TS.new;rw[B6 (by rw[P8];exact hi),P8]
   rw[e];unfold impA at hx;rw[H3,I1] at hx;rw[H3] at hx ⊢;cases hb':bs[i-t.hp.length]? with
   |none=>rw[hb'] at hx;cases hx
   |some b =>
    rw[hb'] at hx;simp only[F8,C3] at hx;subst hx;refine⟨_,rfl,?_⟩;have:=hb b (I8 hb');cases b with
    |arr T o L =>
     show R0 { tb (bs.map some) (.arr T o L) with rows:=m8 _ (L.map (enc o T)),fz:=0 } (tb _ (.arr T o L));rw[C4P];exact R0.refl _
    |_=>cases this
theorem C6T{bs:List TB}(j:Nat):hpk (t.new bs).hp (j+t.hp.length)=hpk (bs.map some) j:=by
 unfold hpk TS.new;rw[B6 (by rw[P8];omega),P8,V8]
theorem AC.args{P:Program}{f:FuncId}{args args':List AV}{hp0:HP}{Post:AV→HP→Prop}(h:AC P f args' hp0 Post)(hi:O6 Im args args'):AC P f args hp0 Post :=
 ⟨h.1,fun w N M L vs he hr=>h.2 w N M L vs he (Im.all2 hi hr)⟩
end
end Go.Proofs.YtkmhopbmpeiofaaGreat.Nx
namespace Go.Proofs.YtkmhopbmpeiofaaGreat.Nx
open Go Go.RowKit
inductive SR (hp:THP):Nat→List TV→List TV→List (Option Nat)→List TB→Prop
 |nil (base:Nat):SR hp base [] [] [] []
 |leaf {base:Nat} {c:TV} {cs cs':List TV} {l:List (Option Nat)} {B:List TB}:(∃ A y,c=.v A y∧A.ag=false)→SR hp base cs cs' l B→SR hp base (c :: cs) (c :: cs') l B
 |own {base j:Nat} {A:Ty} {o:Bool} {L:List (Den A)} {cs cs':List TV} {l:List (Option Nat)} {B:List TB}:hp[j]? = some (some (.arr A o L))→(o||A.flat)=true→SR hp (base+1) cs cs' l B →
   SR hp base (.own j :: cs) (.own base :: cs') (some j :: l) (.arr A true L :: B)
 |none {base:Nat} {A:Ty} {cs cs':List TV} {l:List (Option Nat)} {B:List TB}:SR hp (base+1) cs cs' l B→SR hp base (.nil :: cs) (.own base :: cs') (none :: l) (.arr A true [] :: B)
theorem SR.len{hp:THP}{base:Nat}{cs cs':List TV}{l:List (Option Nat)}{B:List TB}(h:SR hp base cs cs' l B):B.length=l.length∧cs'.length=cs.length:=by
 induction h with
 |nil=>exact⟨rfl,rfl⟩
 |leaf _ _ ih=>exact⟨ih.1,by simp[ih.2]⟩
 |own _ _ _ ih=>exact⟨by simp[ih.1],by simp[ih.2]⟩
 |none _ ih=>exact⟨by simp[ih.1],by simp[ih.2]⟩
theorem SR.append{hp:THP}{base:Nat}{cs cs':List TV}{l:List (Option Nat)}{B:List TB}(h:SR hp base cs cs' l B){ds ds':List TV}{m:List (Option Nat)}{D:List TB}:SR hp (base+B.length) ds ds' m D →
  SR hp base (cs++ds) (cs'++ds') (l++m) (B++D):=by
 induction h with
 |nil=>intro k;simpa using k
 |leaf h1 _ ih=>intro k;exact .leaf h1 (ih k)
 |own h1 h2 _ ih=>intro k;exact .own h1 h2 (ih (by simpa[G4,Z1 1] using k))
 |none _ ih=>intro k;exact .none (ih (by simpa[G4,Z1 1] using k))
theorem j8(hp:THP):∀ (T:Ty) (cs:List TV) (x:Den T) (l:List (Option Nat)) (r:List TV),A2J hp T cs=some (x,l,r)→∃ c1,cs=c1++r∧∀ base,SR hp base c1 (rsC base T x).1 l (rsC base T x).2:=by
 intro T;induction T with
 |ar n k =>
  intro cs y l r h;cases cs with
  |nil=>cases h
  |cons c cs=>cases h
 |i k =>
  intro cs y l r h;cases cs with
  |nil=>cases h
  |cons c cs =>
   simp only[A2J] at h;split at h
   ·split at h
    ·rename_i hz;cases h;obtain⟨rfl,hz⟩:=N5 hz;cases hz;exact⟨[_],rfl,fun base=>.leaf ⟨_,_,rfl,rfl⟩ (.nil _)⟩
    ·cases h
   ·cases h
 |bl =>
  intro cs y l r h;cases cs with
  |nil=>cases h
  |cons c cs =>
   simp only[A2J] at h;split at h
   ·split at h
    ·rename_i hz;cases h;obtain⟨rfl,hz⟩:=N5 hz;cases hz;exact⟨[_],rfl,fun base=>.leaf ⟨_,_,rfl,rfl⟩ (.nil _)⟩
    ·cases h
   ·cases h
 |tx =>
  intro cs y l r h;cases cs with
  |nil=>cases h
  |cons c cs =>
   simp only[A2J] at h;split at h
   ·split at h
    ·rename_i hz;cases h;obtain⟨rfl,hz⟩:=N5 hz;cases hz;exact⟨[_],rfl,fun base=>.leaf ⟨_,_,rfl,rfl⟩ (.nil _)⟩
    ·cases h
   ·cases h
 |sv t _ =>
  intro cs y l r h;cases cs with
  |nil=>cases h
  |cons c cs =>
   simp only[A2J] at h;split at h
   ·split at h
    ·rename_i hz;cases h;obtain⟨rfl,hz⟩:=N5 hz;cases hz;exact⟨[_],rfl,fun base=>.leaf ⟨_,_,rfl,rfl⟩ (.nil _)⟩
    ·cases h
   ·cases h
 |sl t _ =>
  intro cs y l r h;cases cs with
  |nil=>cases h
  |cons c cs =>
   simp only[A2J] at h;split at h
   ·split at h
    ·rename_i A o Lx e;cases ho:(o||A.flat) with
     |false=>rw[ho] at h;cases h
     |true =>
      rw[ho,A4] at h;split at h
      ·rename_i hz;cases h;obtain⟨e1,hz⟩:=N5 hz;cases e1;cases hz;exact⟨[_],rfl,fun base=>.own e ho (.nil _)⟩
      ·cases h
    ·cases h
   ·cases h;exact⟨[_],rfl,fun base=>.none (.nil _)⟩
   ·cases h
 |pr a b iha ihb =>
  intro cs y l r h;simp only[A2J] at h;split at h
  ·rename_i h1;split at h
   ·rename_i h2;cases h;obtain⟨c1,rfl,k1⟩:=iha _ _ _ _ h1;obtain⟨c2,rfl,k2⟩:=ihb _ _ _ _ h2;exact⟨c1++c2,by simp,fun base=>(k1 base).append (k2 _)⟩
   ·cases h
  ·cases h
 |st t ih =>
  intro cs y l r h;exact ih cs y l r h
def vcn(sz:Nat):Cn:={ b:=0,o:=0,sz:=sz,len:=0,fr:=0,virt:=true }
theorem SR.at_{hp:THP}{base:Nat}{cs cs':List TV}{l:List (Option Nat)}{B:List TB}(h:SR hp base cs cs' l B):∀ i,i<l.length→∃ (A:Ty) (X:List (Den A)),B[i]? = some (.arr A true X)∧∀ j,l[i]? = some (some j)→∃ (o:Bool) (Z:List (Den A)),hp[j]? = some (some (.arr A o Z))∧Z.length=X.length:=by
 induction h with
 |nil=>intro i hi;simp at hi
 |leaf _ _ ih=>exact ih
 |own h1 h2 _ ih =>
  intro i hi;cases i with
  |zero=>exact⟨_,_,rfl,fun j e=>by simp only[E8,C3] at e;subst e;exact⟨_,_,h1,rfl⟩⟩
  |succ i =>
   obtain⟨A,X,k1,k2⟩:=ih i (by simpa using hi);exact⟨A,X,by simpa using k1,fun j e=>k2 j (by simpa using e)⟩
 |none _ ih =>
  intro i hi;cases i with
  |zero=>exact⟨_,_,rfl,fun j e=>by simp at e⟩
  |succ i =>
   obtain⟨A,X,k1,k2⟩:=ih i (by simpa using hi);exact⟨A,X,by simpa using k1,fun j e=>k2 j (by simpa using e)⟩
theorem z7:∀ (T:Ty) (x:Den T) (base:Nat),(rsC base T x).2.length=T.nsl
 |.i _,_,_=>rfl
 |.bl,_,_=>rfl
 |.tx,_,_=>rfl
 |.sv _,_,_=>rfl
 |.ar _ _,_,_=>rfl
 |.sl _,_,_=>rfl
 |.st t,x,base=>z7 t x base
 |.pr a b,x,base=>by simp[rsC,Ty.nsl,z7 a,z7 b]
theorem A3b:∀ (T:Ty) (y:A3P T),(A0h T y).length=T.nsl
 |.i _,_=>rfl
 |.bl,_=>rfl
 |.tx,_=>rfl
 |.sv _,_=>rfl
 |.ar _ _,_=>rfl
 |.sl _,_=>rfl
 |.st t,y=>A3b t y
 |.pr a b,y=>by simp[A0h,Ty.nsl,A3b a,A3b b]
theorem C67:∀ (T:Ty) (x:Den T) (y:A3P T) (base:Nat),A80 T x y=true→∀ (i:Nat) (A:Ty) (X:List (Den A)),(rsC base T x).2[i]? = some (.arr A true X)→∃ Y:List (Den A),(A0h T y)[i]? = some (.arr A true Y)∧Y.length=X.length:=by
 intro T;induction T with
 |i|bl|tx|sv|ar=>intro x y base _ i A X h;simp[rsC] at h
 |sl t _ =>
  intro x y base hl i A X h;cases i with
  |zero =>
   simp only[rsC,E8,C3] at h;cases h;exact⟨y,rfl,by simp only[A80,F4] at hl;exact hl.symm⟩
  |succ i=>simp[rsC] at h
 |st t ih=>exact fun x y base hl i A X h=>ih x y base hl i A X h
 |pr a b iha ihb =>
  intro x y base hl i A X h;simp only[A80,A6] at hl;simp only[rsC] at h;simp only[A0h];have e1:=z7 a x.1 base;have e2:=A3b a y.1;rcases D9 i a.nsl with hi|hi
  ·rw[B7 (by omega)] at h ⊢;exact iha x.1 y.1 base hl.1 i A X h
  ·rw[B6 (by omega)] at h ⊢;rw[e1] at h;rw[e2];exact ihb x.2 y.2 _ hl.2 _ A X h
structure At (M M':MT) (ℓ ℓ':Nat→List (Nat×Nat)) (hpT:THP) (base:Nat) (l:List (Option Nat)) (B:List TB):Prop where
 hp:∀ i b,B[i]? = some b→hpT[base+i]? = some (some b)
 so:∀ i j,l[i]? = some (some j)→M' (base+i)=M j∧ℓ' (base+i)=ℓ j
 no:∀ i b,l[i]? = some none→B[i]? = some b→M' (base+i)=some (some (vcn (tb hpT b).sz))∧ℓ' (base+i)=[]
theorem At.left{M M':MT}{ℓ ℓ':Nat→List (Nat×Nat)}{hpT:THP}{base:Nat}{l m:List (Option Nat)}{B D:List TB}(h:At M M' ℓ ℓ' hpT base (l++m) (B++D))(hl:B.length=l.length):At M M' ℓ ℓ' hpT base l B:=by
 refine⟨fun i b e=>h.hp i b ?_,fun i j e=>h.so i j ?_,fun i b e e'=>h.no i b ?_ ?_⟩
 ·rw[B7 (B4.1 e).1];exact e
 ·rw[B7 (B4.1 e).1];exact e
 ·rw[B7 (B4.1 e).1];exact e
 ·rw[B7 (B4.1 e').1];exact e'
theorem At.right{M M':MT}{ℓ ℓ':Nat→List (Nat×Nat)}{hpT:THP}{base:Nat}{l m:List (Option Nat)}{B D:List TB}(h:At M M' ℓ ℓ' hpT base (l++m) (B++D))(hl:B.length=l.length):At M M' ℓ ℓ' hpT (base+B.length) m D:=by
 refine⟨fun i b e => ?_,fun i j e => ?_,fun i b e e' => ?_⟩
 ·rw[G4];exact h.hp (B.length+i) b (by rw[B6 (by omega),J8];exact e)
 ·rw[G4];exact h.so (B.length+i) j (by rw[hl,B6 (by omega),J8];exact e)
 ·rw[G4];exact h.no (B.length+i) b (by rw[hl,B6 (by omega),J8];exact e) (by rw[B6 (by omega),J8];exact e')
theorem A4n{n:Nat}{ag:Bool}{l:List AV}(h:q9 n l=true):(mkr ag l).low n=true:=by
 unfold mkr;split
 ·exact h
 ·cases l with
  |nil=>rfl
  |cons c l=>simp only[q9,A6] at h;exact h.1
theorem C3U(n:Nat):∀ (T:Ty) (o:Bool) (x:Den T),q9 n (cls o T x)=true:=by
 intro T;induction T with
 |i|bl|tx=>intro o x;rfl
 |ar m k =>
  intro o x;rw[A0Z,D6];intro c hc;simp only[cls,arC,C5] at hc;obtain⟨i,_,rfl⟩:=hc;rfl
 |sl t ih|sv t ih =>
  intro o x;simp only[cls,q9,AV.low,U6];rw[A0Z,D6];intro c hc;obtain⟨y,_,rfl⟩:=C5.1 hc;exact A4n (ih _ y)
 |pr a b iha ihb=>intro o x;simp only[cls];rw[B0H,iha,ihb];rfl
 |st t ih=>intro o x;exact ih o x
theorem A4f(n:Nat)(o:Bool)(T:Ty)(x:Den T):q9 n (cls o T x)=true:=C3U n T o x
theorem A3c(n:Nat)(o:Bool)(T:Ty)(L:List (Den T)):q9 n ((L.map (enc o T)).flatMap AV.cells)=true:=by
 rw[A9N,A0Z,X5,D6];exact fun y _=>A4n (A4f n o T y)
section
variable {w:World} {N N':NT} {M M':MT} {ℓ ℓ':Nat→List (Nat×Nat)} {hp hpT:THP}
theorem I0.data(hN:∀ b o,N b o→N' b o){xs:List AV}{b o:Nat}{K:List Nat}(hl:q9 0 xs=true)(r:I0 w N M b o xs K):I0 w N' M' b o xs K:=by
 have r1:=r.lowM (M':=M') (n:=0) (fun j hj=>by omega) hl;exact r1.gr ⟨fun _ c _ _ h=>⟨c,h,rfl⟩,fun _ _ _=>rfl,hN,fun _ x h=>⟨x,h,fun m hm=>⟨m,hm,.inl rfl⟩⟩⟩ (fun _ _=>rfl) (fun _ _ _=>rfl)
theorem Rep.dataV(hN:∀ b o,N b o→N' b o){x:AV}{v:Value}{K:List Nat}(hl:x.low 0=true)(r:Rep w N M x v K):Rep w N' M' x v K:=by
 have r1:=r.lowM (M':=M') (n:=0) (fun j hj=>by omega) hl;exact r1.gr ⟨fun _ c _ _ h=>⟨c,h,rfl⟩,fun _ _ _=>rfl,hN,fun _ x h=>⟨x,h,fun m hm=>⟨m,hm,.inl rfl⟩⟩⟩ (fun _ _ _=>rfl)
theorem B33{j i:Nat}{A:Ty}{o:Bool}{L:List (Den A)}(h1:hp[j]? = some (some (.arr A o L)))(h2:hpT[i]? = some (some (.arr A true L)))(hM:M' i=M j){v:Value}
  (r:Rep w N M (av hp (.own j)) v []):Rep w N' M' (av hpT (.own i)) v []:=by
 rw[t9 (T8 h1)] at r;rw[t9 (T8 h2)];cases r with
 |ref mm h3 h4=>exact .ref mm (by rw[hM];exact h3) h4
theorem B1a{i:Nat}{A:Ty}{sz:Nat}(h2:hpT[i]? = some (some (.arr A true [])))(hM:M' i=some (some (vcn sz))){v:Value}(r:Rep w N M (av hp .nil) v []):Rep w N' M' (av hpT (.own i)) v []:=by
 rw[t9 (T8 h2)];cases r;exact .ref _ hM fun m hm=>by
  cases hm;exact⟨B9 _,fun _=>⟨B9 _,.inl ⟨rfl,rfl⟩⟩⟩
theorem SR.cells(hN:∀ b o,N b o→N' b o){base:Nat}{cs cs':List TV}{l:List (Option Nat)}{B:List TB}(h:SR hp base cs cs' l B):At M M' ℓ ℓ' hpT base l B→∀ {vs:List Value},F5 w N M (cs.map (av hp)) vs []→F5 w N' M' (cs'.map (av hpT)) vs []:=by
 induction h with
 |nil=>intro _ vs r;cases r;exact .nil
 |leaf h1 _ ih =>
  intro hA vs r;generalize hK:([]:List Nat)=K at r;cases r with
  |cons hx ht =>
   obtain⟨rfl,rfl⟩:=G9.1 hK.symm;refine .cons (L1:=[]) (L2:=[]) ?_ (ih hA ht);obtain⟨A,y,rfl,hag⟩:=h1;exact Rep.dataV hN (x:=enc false A y) (A4n (A4f 0 false A y)) hx
 |own h1 h2 _ ih =>
  intro hA vs r;generalize hK:([]:List Nat)=K at r;cases r with
  |cons hx ht =>
   obtain⟨rfl,rfl⟩:=G9.1 hK.symm;have hA':=At.right (l:=[_]) (B:=[_]) hA rfl;refine .cons (L1:=[]) (L2:=[]) ?_ (ih hA' ht);have e1:=hA.hp 0 _ rfl;have e2:=(hA.so 0 _ rfl).1;exact B33 h1 (by simpa using e1) (by simpa using e2) hx
 |none _ ih =>
  intro hA vs r;generalize hK:([]:List Nat)=K at r;cases r with
  |cons hx ht =>
   obtain⟨rfl,rfl⟩:=G9.1 hK.symm;have hA':=At.right (l:=[_]) (B:=[_]) hA rfl;refine .cons (L1:=[]) (L2:=[]) ?_ (ih hA' ht);have e1:=hA.hp 0 _ rfl;have e2:=(hA.no 0 _ rfl rfl).1;exact B1a (by simpa using e1) (by simpa using e2) hx
theorem SR.c1{base:Nat}{cs cs':List TV}{l:List (Option Nat)}{B:List TB}(h:SR hp base cs cs' l B):At M M' ℓ ℓ' hpT base l B→(∀ c∈cs,c.c1 hp=true)∧∀ c∈cs',c.c1 hpT=true:=by
 induction h with
 |nil=>intro _;exact⟨fun _ h=>(by cases h),fun _ h=>by cases h⟩
 |leaf h1 _ ih =>
  intro hA;obtain⟨A,y,rfl,hag⟩:=h1;have hl:∀ hp,(TV.v A y).c1 hp=true:=fun hp=>by cases A<;>first|rfl|cases hag
  obtain⟨k1,k2⟩:=ih hA;refine⟨fun c hc => ?_,fun c hc => ?_⟩<;>rcases D8.1 hc with rfl|hc
  ·exact hl _
  ·exact k1 c hc
  ·exact hl _
  ·exact k2 c hc
 |own h1 h2 _ ih =>
  intro hA;obtain⟨k1,k2⟩:=ih (At.right (l:=[_]) (B:=[_]) hA rfl);have e1:=hA.hp 0 _ rfl;rw[H2] at e1;refine⟨fun c hc => ?_,fun c hc => ?_⟩<;>rcases D8.1 hc with rfl|hc
  ·simp[TV.c1,f8,T8 h1]
  ·exact k1 c hc
  ·simp[TV.c1,f8,T8 e1]
  ·exact k2 c hc
 |none _ ih =>
  intro hA;obtain⟨k1,k2⟩:=ih (At.right (l:=[_]) (B:=[_]) hA rfl);have e1:=hA.hp 0 _ rfl;rw[H2] at e1;refine⟨fun c hc => ?_,fun c hc => ?_⟩<;>rcases D8.1 hc with rfl|hc
  ·rfl
  ·exact k1 c hc
  ·simp[TV.c1,f8,T8 e1]
  ·exact k2 c hc
theorem A9n(hN:∀ b o,N b o→N' b o)(hH:∀ (i:Nat) (x:Option Blk),(F1 hp)[i]? = some x→HB w N M i x (ℓ i)){j i:Nat}{A:Ty}{o:Bool}{L:List (Den A)}(h1:hp[j]? = some (some (.arr A o L)))(h2:(o||A.flat)=true)
  (hM:M' i=M j) (hl:ℓ' i=ℓ j):HB w N' M' i (some (tb hpT (.arr A true L))) (ℓ' i):=by
 obtain⟨m,L1,q1,q2,q3⟩:=hH j _ (by rw[I1,h1];rfl);have e:tb hp (.arr A o L)=tb hpT (.arr A true L):=by
  simp only[tb];congr 1;refine E4 fun y _ => ?_;unfold enc;cases o with
  |true=>rfl
  |false=>rw[A5w (by simpa using h2)]
 rw[e] at q2;refine⟨m,L1,by rw[hM];exact q1,⟨q2.len,q2.sz,q2.fr,q2.cl,q2.rep.data hN (A3c 0 true A L),q2.vt,q2.rm,q2.lo,fun i hi=>hN _ _ (q2.fz i hi),q2.f0⟩,by rw[hl];exact q3⟩
theorem A7h{i:Nat}{A:Ty}(hM:M' i=some (some (vcn (tb hpT (.arr A true [])).sz)))(hl:ℓ' i=[]):HB w N' M' i (some (tb hpT (.arr A true []))) (ℓ' i):=by
 refine⟨_,[],hM,⟨rfl,rfl,P1 _,fun y hy=>(by cases hy),.nil _ _,fun _=>rfl,(fun e=>by cases e),B9 _,fun i hi=>by simp[tb] at hi,fun _=>rfl⟩,?_⟩;rw[hl];rfl
theorem C3t{j i l:Nat}(h1:hpk hp j=some (some l))(h2:hpk hpT i=some (some l))(hM:M' i=M j){v:Value}
  (r:Rep w N M (av hp (.own j)) v []):Rep w N' M' (av hpT (.own i)) v []:=by
 rw[t9 h1] at r;rw[t9 h2];cases r with
 |ref mm h3 h4=>exact .ref mm (by rw[hM];exact h3) h4
theorem C1s{i:Nat}{sz:Nat}(h2:hpk hpT i=some (some 0))(hM:M' i=some (some (vcn sz))){v:Value}(r:Rep w N M (av hp .nil) v []):Rep w N' M' (av hpT (.own i)) v []:=by
 rw[t9 h2];cases r;exact .ref _ hM fun m hm=>by
  cases hm;exact⟨B9 _,fun _=>⟨B9 _,.inl ⟨rfl,rfl⟩⟩⟩
theorem C7F(hN:∀ b o,N b o→N' b o)(hH:∀ (i:Nat) (x:Option Blk),(F1 hp)[i]? = some x→HB w N M i x (ℓ i)){j i:Nat}{A:Ty}{L:List (Den A)}{k:TB}(h1:hp[j]? = some (some k))(e:tb hp k=tb hpT (.log A L))
  (hM:M' i=M j) (hl:ℓ' i=ℓ j):HB w N' M' i (some (tb hpT (.log A L))) (ℓ' i):=by
 obtain⟨m,L1,q1,q2,q3⟩:=hH j _ (by rw[I1,h1];rfl);rw[e] at q2;exact⟨m,L1,by rw[hM];exact q1,⟨q2.len,q2.sz,q2.fr,q2.cl,q2.rep.data hN (A3c 0 false A L),q2.vt,q2.rm,q2.lo,fun i hi=>hN _ _ (q2.fz i hi),q2.f0⟩,by rw[hl];exact q3⟩
theorem SR.blocks(hN:∀ b o,N b o→N' b o)(hH:∀ (i:Nat) (x:Option Blk),(F1 hp)[i]? = some x→HB w N M i x (ℓ i)){base:Nat}{cs cs':List TV}{l:List (Option Nat)}{B:List TB}(h:SR hp base cs cs' l B) :
  At M M' ℓ ℓ' hpT base l B→∀ i b,B[i]? = some b→HB w N' M' (base+i) (some (tb hpT b)) (ℓ' (base+i)):=by
 induction h with
 |nil=>intro _ i b h;simp at h
 |leaf _ _ ih=>exact ih
 |own h1 h2 _ ih =>
  intro hA i b hb;cases i with
  |zero =>
   simp only[E8,C3] at hb;subst hb;obtain⟨e1,e2⟩:=hA.so 0 _ rfl;exact A9n hN hH h1 h2 e1 e2
  |succ i =>
   have:=ih (At.right (l:=[_]) (B:=[_]) hA rfl) i b (by simpa using hb);rw[G4,Z1 1 i] at this;exact this
 |none _ ih =>
  intro hA i b hb;cases i with
  |zero =>
   simp only[E8,C3] at hb;subst hb;obtain⟨e1,e2⟩:=hA.no 0 _ rfl rfl;exact A7h e1 e2
  |succ i =>
   have:=ih (At.right (l:=[_]) (B:=[_]) hA rfl) i b (by simpa using hb);rw[G4,Z1 1 i] at this;exact this
theorem B1u{cs:List TV}(h:∀ c∈cs,c.c1 hp=true):cs.map (cav hp)=cs.map (av hp) :=
 E4 fun c hc=>by unfold cav;rw[h c hc];rfl
theorem C1Z(hN:∀ b o,N b o→N' b o)(hH:∀ (i:Nat) (x:Option Blk),(F1 hp)[i]? = some x→HB w N M i x (ℓ i)){base:Nat}{cs cs':List TV}{l:List (Option Nat)}{B:List TB}(h:SR hp base cs cs' l B)(hA:At M M' ℓ ℓ' hpT base l B)
  {j i:Nat} (h1:hp[j]? = some (some (.box cs))) (hM:M' i=M j) (hl:ℓ' i=ℓ j):HB w N' M' i (some (tb hpT (.box cs'))) (ℓ' i):=by
 obtain⟨m,L1,q1,q2,q3⟩:=hH j _ (by rw[I1,h1];rfl);obtain⟨c1,c2⟩:=h.c1 hA;have hcl:=h.len.2;have r:=q2.rep;simp only[tb,F0,R6,D5,AV.cells,B1u c1] at r;have:L1=[]:=r.bare fun x hx=>by
  obtain⟨c,hc,rfl⟩:=C5.1 hx;exact A1I (c1 c hc)
 subst this;obtain⟨vs,v1,v2,v3⟩:=r.values;have r':=I0.of_values (o:=m.o) (b:=m.b) (h.cells (N':=N') hN hA v1) fun i hi=>by
  rw[v2] at hi;exact v3 i hi
 refine⟨m,[],by rw[hM];exact q1,⟨q2.len,by rw[q2.sz];simp[tb,hcl],by simp[tb,hcl];have:=q2.fr;simpa[tb] using this,?_,?_,fun e => ?_,?_,q2.lo,fun i hi=>by simp[tb] at hi,fun _=>q2.f0 rfl⟩,by rw[hl];exact q3⟩
 ·intro y hy;simp only[tb,C1] at hy;subst hy;simp[tb,AV.cells]
 ·simp only[tb,F0,R6,D5,AV.cells,B1u c2];exact r'
 ·have:=q2.vt e;simp[tb] at this
 ·exact q2.rm
theorem C4b(hp:THP):∀ (T:Ty) (cs:List TV) (y:Den T) (r:List TV),m6 T cs=some (y,r)→∃ c1,cs=c1++r∧∀ c∈c1,c.c1 hp=true:=by
 intro T;induction T with
 |ar n k =>
  intro cs y r h;cases cs with
  |nil=>cases h
  |cons c cs=>cases h
 |i k =>
  intro cs y r h;cases cs with
  |nil=>cases h
  |cons c cs =>
   simp only[m6] at h;split at h
   ·split at h
    ·rename_i z hz;cases h;obtain⟨rfl,hz⟩:=N5 hz;exact⟨[_],rfl,fun c hc=>by simp only[C1] at hc;subst hc;rfl⟩
    ·cases h
   ·cases h
 |bl =>
  intro cs y r h;cases cs with
  |nil=>cases h
  |cons c cs =>
   simp only[m6] at h;split at h
   ·split at h
    ·rename_i z hz;cases h;obtain⟨rfl,hz⟩:=N5 hz;exact⟨[_],rfl,fun c hc=>by simp only[C1] at hc;subst hc;rfl⟩
    ·cases h
   ·cases h
 |tx =>
  intro cs y r h;cases cs with
  |nil=>cases h
  |cons c cs =>
   simp only[m6] at h;split at h
   ·split at h
    ·rename_i z hz;cases h;obtain⟨rfl,hz⟩:=N5 hz;exact⟨[_],rfl,fun c hc=>by simp only[C1] at hc;subst hc;rfl⟩
    ·cases h
   ·cases h
 |sv t _ =>
  intro cs y r h;cases cs with
  |nil=>cases h
  |cons c cs =>
   simp only[m6] at h;split at h
   ·split at h
    ·rename_i z hz;cases h;obtain⟨rfl,hz⟩:=N5 hz;exact⟨[_],rfl,fun c hc=>by simp only[C1] at hc;subst hc;rfl⟩
    ·cases h
   ·cases h;exact⟨[_],rfl,fun c hc=>by simp only[C1] at hc;subst hc;rfl⟩
   ·cases h
 |sl t _ =>
  intro cs y r h;cases cs with
  |nil=>cases h
  |cons c cs =>
   simp only[m6] at h;split at h
   ·split at h
    ·rename_i z hz;cases h;obtain⟨rfl,hz⟩:=N5 hz;exact⟨[_],rfl,fun c hc=>by simp only[C1] at hc;subst hc;rfl⟩
    ·cases h
   ·cases h;exact⟨[_],rfl,fun c hc=>by simp only[C1] at hc;subst hc;rfl⟩
   ·cases h
 |st t ih=>intro cs y r h;exact ih cs y r h
 |pr a b iha ihb =>
  intro cs y r h;simp only[m6] at h;split at h
  ·rename_i h1;split at h
   ·rename_i h2;cases h;obtain⟨c1,rfl,k1⟩:=iha _ _ _ h1;obtain⟨c2,rfl,k2⟩:=ihb _ _ _ h2;refine⟨c1++c2,by simp,fun c hc => ?_⟩;rcases C9.1 hc with hc|hc
    ·exact k1 c hc
    ·exact k2 c hc
   ·cases h
  ·cases h
theorem C6x(hp:THP):∀ (T:Ty) (x:Den T),∀ c∈W8 T x,c.c1 hp=true:=by
 intro T;induction T with
 |i|bl|tx|sl|sv=>intro x c hc;simp only[W8,C1] at hc;subst hc;rfl
 |ar n k =>
  intro x c hc;simp only[W8,C5] at hc;obtain⟨i,_,rfl⟩:=hc;rfl
 |st t ih=>intro x;exact ih x
 |pr a b iha ihb =>
  intro x c hc;rcases C9.1 hc with hc|hc
  ·exact iha _ c hc
  ·exact ihb _ c hc
theorem C49(hp:THP)(T:Ty)(x:Den T):(W8 T x).map (cav hp)=cls false T x:=by
 rw[← A0u hp T x];exact E4 fun c hc=>by unfold cav;rw[C6x hp T x c hc];rfl
theorem C09(b:Nat):∀ (T:Ty) (x:Den T),Z7 b (W8 T x)=W8 T x:=by
 intro T;induction T with
 |i|bl|tx|sl|sv=>intro x;rfl
 |ar n k =>
  intro x;simp only[W8,A22,H7];exact E4 fun i _=>rfl
 |st t ih=>intro x;exact ih x
 |pr a c iha ihc=>intro x;simp only[W8,A6U,iha,ihc]
theorem C0w(hN:∀ b o,N b o→N' b o)(hH:∀ (i:Nat) (x:Option Blk),(F1 hp)[i]? = some x→HB w N M i x (ℓ i)){T:Ty}{x:Den T}{cs:List TV}(hz:m6 T cs=some (x,[]))
  {j i:Nat} (h1:hp[j]? = some (some (.box cs))) (hM:M' i=M j) (hl:ℓ' i=ℓ j):HB w N' M' i (some (tb hpT (.box (W8 T x)))) (ℓ' i):=by
 obtain⟨m,L1,q1,q2,q3⟩:=hH j _ (by rw[I1,h1];rfl);obtain⟨c1,ec,hc⟩:=C4b hp T cs x [] hz;obtain⟨c2,ec2,hi,_⟩:=B1Y hp T cs x [] hz;rw[D5] at ec ec2;subst ec;subst ec2;have r:=q2.rep;simp only[tb,F0,R6,D5,AV.cells,B1u hc] at r;have:L1=[]:=r.bare fun x hx=>by
  obtain⟨c,hcc,rfl⟩:=C5.1 hx;exact A1I (hc c hcc)
 subst this;have r':=(Im.cells hi r).data (N':=N') (M':=M') hN (A4f 0 false T x);have hlen:(W8 T x).length=cs.length:=by rw[A8t,← O0 false T x,← hi.length_eq,C7]
 refine⟨m,[],by rw[hM];exact q1,⟨q2.len,by rw[q2.sz];simp[tb,hlen],by simp[tb,hlen];have:=q2.fr;simpa[tb] using this,?_,?_,fun e => ?_,?_,q2.lo,fun i hi=>by simp[tb] at hi,fun _=>q2.f0 rfl⟩,by rw[hl];exact q3⟩
 ·intro y hy;simp only[tb,C1] at hy;subst hy;simp[tb,AV.cells]
 ·simp only[tb,F0,R6,D5,AV.cells,C49];exact r'
 ·have:=q2.vt e;simp[tb] at this
 ·exact q2.rm
theorem BR.dat{h h':THP}{k:TB}{m:Cn}{L:List Nat}{n:Nat}(hd:A6c k=true)(r:BR w N M (tb h k) m L):tb h k=tb h' k∧BR w N M' (tb h' k) m L:=by
 have e:tb h k=tb h' k:=by
  cases k with
  |arr T o L=>rfl
  |box cs =>
   simp only[tb];congr 3;refine E4 fun c hc => ?_;simp only[A6c,D6] at hd;have:=hd c hc;cases c with
   |v A x=>cases A<;>rfl
   |_=>cases this
  |rws=>cases hd
  |hol=>cases hd
  |tld=>cases hd
  |log=>cases hd
  |ara=>cases hd
 refine⟨e,?_⟩;rw[← e];refine⟨r.len,r.sz,r.fr,r.cl,?_,r.vt,r.rm,r.lo,r.fz,r.f0⟩;refine r.rep.lowM (n:=0) (fun j hj=>by omega) ?_;cases k with
 |arr T o L=>exact A3c 0 o T L
 |box cs =>
  simp only[tb,F0,R6,D5,AV.cells];rw[A0Z,X5,D6];intro c hc;simp only[A6c,D6] at hd;have:=hd c hc;cases c with
  |v A x =>
   simp only[Function.comp,cav];cases (TV.v A x).c1 h
   ·rfl
   ·exact A4n (A4f 0 false A x)
  |_=>cases this
 |rws=>cases hd
 |hol=>cases hd
 |tld=>cases hd
 |log=>cases hd
 |ara=>cases hd
end
end Go.Proofs.YtkmhopbmpeiofaaGreat.Nx
