/- What the evaluator keeps and lets go: sound, with no condition beyond those each lemma names. -/
import Derived.Test.YtkmhopbmpeiofaaGreatNxi
set_option linter.unusedVariables false
set_option linter.unusedSimpArgs false
namespace Go.Proofs.YtkmhopbmpeiofaaGreat.Nx
open Go Go.RowKit
inductive Ab (hp:HP):List AV→List AV→List Nat→Prop
 |nil:Ab hp [] [] []
 |im {x y:AV} {xs ys:List AV} {l:List Nat}:Im x y→x.bare1=true→Ab hp xs ys l→Ab hp (x :: xs) (y :: ys) l
 |same {x:AV} {xs ys:List AV} {l:List Nat}:Ab hp xs ys l→Ab hp (x :: xs) (x :: ys) l
 |ref {m:Nat} {b:Blk} {xs ys:List AV} {l:List Nat}:hp[m]? = some (some b)→b.lo=0→Ab hp xs ys l→Ab hp (.ref m b.rows.length 0 b.rows.length :: xs) (.sl true b.sz b.rows :: ys) (m :: l)
theorem Ab.len{hp:HP}{xs ys:List AV}{l:List Nat}(h:Ab hp xs ys l):ys.length=xs.length:=by
 induction h with
 |nil=>rfl
 |im _ _ _ ih=>simp[ih]
 |same _ ih=>simp[ih]
 |ref _ _ _ ih=>simp[ih]
theorem Ab.append{hp:HP}{xs ys:List AV}{l:List Nat}(h:Ab hp xs ys l){xs' ys':List AV}{l':List Nat}(k:Ab hp xs' ys' l'):Ab hp (xs++xs') (ys++ys') (l++l'):=by
 induction h with
 |nil=>exact k
 |im h1 h2 _ ih=>exact .im h1 h2 ih
 |same _ ih=>exact .same ih
 |ref h1 h2 _ ih=>exact .ref h1 h2 ih
theorem Ab.refl(hp:HP):∀ xs,Ab hp xs xs []
 |[]=>.nil
 |_ :: xs=>.same (Ab.refl hp xs)
theorem Ab.live{hp:HP}{xs ys:List AV}{l:List Nat}(h:Ab hp xs ys l):∀ m∈l,∃ b,hp[m]? = some (some b)∧b.lo=0:=by
 induction h with
 |nil=>intro m hm;cases hm
 |im _ _ _ ih=>exact ih
 |same _ ih=>exact ih
 |ref h1 h2 _ ih =>
  intro x hx;rcases D8.1 hx with rfl|hx
  ·exact⟨_,h1,h2⟩
  ·exact ih x hx
section
variable {C:Ctx} {s:AS} {a:Act} {w:World} {N:NT} {M:MT} {ℓ:Nat→List (Nat×Nat)}
def ow(ℓ:Nat→List (Nat×Nat))(m:Nat):List Nat:=(ℓ m).map Prod.fst
theorem I0.ab(hH:∀ (i:Nat) (x:Option Blk),s.hp[i]? = some x→HB w N M i x (ℓ i)){xs ys:List AV}{l:List Nat}(h:Ab s.hp xs ys l) :
  ∀ {b o:Nat} {K:List Nat},I0 w N M b o xs K→∃ K' rest,I0 w N M b o ys K'∧(K++l.flatMap (ow ℓ)).Perm (K'++rest):=by
 induction h with
 |nil=>intro b o K r;cases r;exact⟨[],[],.nil _ _,.refl _⟩
 |im h1 h2 _ ih =>
  intro b o K r;cases r with
  |cons hc hx ht =>
   have:=hx.bare1 h2;subst this;obtain⟨K',rest,r',p⟩:=ih ht;exact⟨K',rest,.cons (L1:=[]) hc (h1 _ _ _ _ hx) r',p⟩
 |same _ ih =>
  intro b o K r;cases r with
  |cons hc hx ht =>
   rename_i L1 L2;obtain⟨K',rest,r',p⟩:=ih ht;refine⟨L1++K',rest,.cons hc hx r',?_⟩;rw[F9,F9];exact p.append_left L1
 |ref h1 h2 _ ih =>
  rename_i m bm xs ys l _;intro b o K r;cases r with
  |cons hc hx ht =>
   obtain⟨K',rest,r',p⟩:=ih ht;obtain⟨cm,Km,q1,q2,q3⟩:=hH m _ h1;have how:ow ℓ m=(H0 cm Km).map Prod.fst:=by rw[ow,q3]
   cases hx with
   |ref mm hM hm =>
    rename_i ad cap;rw[q1] at hM;cases hM;obtain⟨_,h6⟩:=hm cm rfl;obtain⟨_,h8⟩:=h6 (by rw[q2.len]);rw[F0];rcases h8 with⟨e1,rfl⟩|⟨hv,rfl,h9,h10⟩
    ·have hr:bm.rows=[]:=A07 e1;refine⟨K',ow ℓ m++rest,.cons (L1:=[]) hc ?_ r',?_⟩
     ·rw[hr];exact .slO0 _ _
     ·rw[I2];refine(A1s _ _ _).trans ?_;refine(p.append_left (ow ℓ m)).trans ?_;exact A1s _ _ _
    ·refine⟨(cm.b :: Km)++K',rest,.cons hc ?_ r',?_⟩
     ·have:=Rep.slO (cap:=cap) q2.rep q2.cl h9 (by rw[← q2.sz];simpa using h10);simpa using this
     ·have:ow ℓ m=cm.b :: Km:=by
       rw[how,H0,G6 (by rw[hv];simp)];simp only[F6,H7];have:(Prod.fst ∘ fun b:Nat=>(b,0))=id:=rfl;rw[this,A0q]
      rw[this,I2,F9];refine(A1s _ _ _).trans ?_;exact p.append_left (cm.b :: Km)
def K8(hp:HP):List Nat→HP
 |[]=>hp
 |j :: l=>K8 (hp.set j none) l
theorem S9:∀ (l:List Nat) (hp:HP),(K8 hp l).length=hp.length
 |[],_=>rfl
 |j :: l,hp=>by rw[K8,S9 l];simp
theorem A0o:∀ (l:List Nat) (hp:HP) (i:Nat),(K8 hp l)[i]? = if i∈l then(if i<hp.length then some none else none) else hp[i]?
 |[],hp,i=>by simp[K8]
 |j :: l,hp,i=>by
  rw[K8,A0o l,G5];by_cases h1:i∈l
  ·simp[h1]
  ·by_cases h2:i=j
   ·subst h2;simp[h1]
   ·have:¬ j=i:=fun e=>h2 e.symm;simp[h1,h2,this]
theorem R9.kill2(h:R9 C s a w N M ℓ){l:List Nat}(hl:∀ m∈l,m<s.hp.length):∃ M' ℓ',R9 C { s with hp:=K8 s.hp l } a w N M' ℓ'∧(∀ i,∀ p∈ℓ' i,i ∉ l∧p∈ℓ i)∧∀ i,i ∉ l→M' i=M i:=by
 let M':MT:=fun i=>if i∈l then some none else M i
 let ℓ':Nat→List (Nat×Nat):=fun i=>if i∈l then [] else ℓ i
 have hM:∀ i,i ∉ l→M' i=M i:=fun i hi=>by simp[M',hi]
 have g:Gr w w N N M M':=⟨fun _ c _ _ h=>⟨c,h,rfl⟩,fun _ _ _=>rfl,fun _ _ hn=>hn,fun i x hx=>by
  by_cases hi:i∈l
  ·exact⟨none,by simp[M',hi],fun m' hm'=>by cases hm'⟩
  ·exact⟨x,by rw[hM i hi];exact hx,fun m' hm'=>⟨m',hm',.inl rfl⟩⟩⟩
 have hsub:∀ i,∀ p∈ℓ' i,p∈ℓ i:=fun i p hp=>by
  by_cases hi:i∈l
  ·simp[ℓ',hi] at hp
  ·simpa[ℓ',hi] using hp
 have hout:∀ i,∀ p∈ℓ' i,i ∉ l∧p∈ℓ i:=fun i p hp=>⟨fun hi=>by simp[ℓ',hi] at hp,hsub i p hp⟩;refine⟨M',ℓ',⟨h.df,h.sl.gr g (fun _ hb=>by cases hb),fun i x hx => ?_,fun i hi => ?_,fun i j hi hj hne p hp q hq => ?_,fun i hi p hp => ?_,h.nlt,h.nup,h.ndn,h.fr,fun k hk => ?_,fun k m m0 h1 h0 => ?_,fun k hk => ?_⟩,hout,hM⟩
 ·replace hx:(K8 s.hp l)[i]? = some x:=hx;rw[A0o] at hx;by_cases hi:i∈l
  ·rw[E9 hi,E9 (hl i hi)] at hx;cases hx;exact⟨by simp[M',hi],by simp[ℓ',hi]⟩
  ·rw[G6 hi] at hx;have:=h.hp i x hx;cases x with
   |none=>exact⟨by rw[hM i hi];exact this.1,by simp[ℓ',hi,this.2]⟩
   |some x =>
    obtain⟨m,L1,h1,h2,h3⟩:=this;exact⟨m,L1,by rw[hM i hi];exact h1,h2.gr g (fun _ _ _=>rfl),by simp[ℓ',hi,h3]⟩
 ·rw[S9] at hi;by_cases hi':i∈l
  ·simp[ℓ',hi']
  ·simpa[ℓ',hi'] using h.nd i hi
 ·rw[S9] at hi hj;exact h.dj i j hi hj hne p (hsub i p hp) q (hsub j q hq)
 ·rw[S9] at hi;exact h.own i hi p (hsub i p hp)
 ·rw[S9] at hk;rw[hM k (fun hm=>by have:=hl k hm;omega)];exact h.un k hk
 ·by_cases hi:k∈l
  ·simp only[M',hi,H1] at h1;cases h1
  ·rw[hM k hi] at h1;exact h.mv k m m0 h1 h0
 ·rw[S9] at hk;exact h.mz k hk
theorem R9.kill'(h:R9 C s a w N M ℓ){l:List Nat}(hl:∀ m∈l,m<s.hp.length):∃ M' ℓ',R9 C { s with hp:=K8 s.hp l } a w N M' ℓ'∧∀ i,∀ p∈ℓ' i,i ∉ l∧p∈ℓ i:=by
 obtain⟨M',ℓ',h1,h2,_⟩:=h.kill2 hl;exact⟨M',ℓ',h1,h2⟩
theorem R9.kill(h:R9 C s a w N M ℓ){l:List Nat}(hl:∀ m∈l,m<s.hp.length):M8 C { s with hp:=K8 s.hp l } a w:=by
 obtain⟨_,_,h',_⟩:=h.kill' hl;exact h'.c
theorem R9.absorb(h:R9 C s a w N M ℓ){j:Nat}{b:Blk}(hj:s.hp[j]? = some (some b)){rows':List AV}{l:List Nat}(hn:(j :: l).Nodup)(hlen:rows'.length=b.rows.length)
  (hcl:(∀ y∈b.rows,y.cells.length=b.sz)→∀ y∈rows',y.cells.length=b.sz) (hab:Ab s.hp (b.rows.flatMap AV.cells) (rows'.flatMap AV.cells) l):M8 C { s with hp:=K8 (s.hp.set j (some { b with rows:=rows' })) l } a w:=by
 have hjl:j<s.hp.length:=(B4.1 hj).1;have hll:∀ m∈l,m<s.hp.length:=fun m hm=>by
  obtain⟨bm,e,_⟩:=hab.live m hm;exact(B4.1 e).1
 have hjn:j ∉ l:=(H9.1 hn).1;obtain⟨mj,K,q1,q2,q3⟩:=h.hp j _ hj;obtain⟨K',rest,r',p⟩:=I0.ab h.hp hab q2.rep
 let M':MT:=fun i=>if i∈l then some none else M i
 let ℓ':Nat→List (Nat×Nat):=fun i=>if i=j then H0 mj K' else if i∈l then [] else ℓ i
 have hM:∀ i,i ∉ l→M' i=M i:=fun i hi=>by simp[M',hi]
 have g:Gr w w N N M M':=⟨fun _ c _ _ h=>⟨c,h,rfl⟩,fun _ _ _=>rfl,fun _ _ hn=>hn,fun i x hx=>by
  by_cases hi:i∈l
  ·exact⟨none,by simp[M',hi],fun m' hm'=>by cases hm'⟩
  ·exact⟨x,by rw[hM i hi];exact hx,fun m' hm'=>⟨m',hm',.inl rfl⟩⟩⟩
 have hfrom:∀ x∈K',x∈K∨∃ m∈l,x∈ow ℓ m:=fun x hx=>by
  have:x∈K++l.flatMap (ow ℓ):=p.mem_iff.2 (by simp[hx]);rcases C9.1 this with h|h
  ·exact .inl h
  ·obtain⟨m,hm,hx⟩:=J6.1 h;exact .inr ⟨m,hm,hx⟩
 have hK:mj.virt=false→∀ x∈K,(x,0)∈ℓ j:=fun hv x hx=>by rw[q3,H0,G6 (by rw[hv];simp)];simp[hx]
 have hB:mj.virt=false→(mj.b,mj.fr)∈ℓ j:=fun hv=>by rw[q3,H0,G6 (by rw[hv];simp)];simp
 have hzero:∀ m∈l,∀ x∈ow ℓ m,(x,0)∈ℓ m:=fun m hm x hx=>by
  obtain⟨bm,e,hlo⟩:=hab.live m hm;obtain⟨cm,Km,k1,k2,k3⟩:=h.hp m _ e;rw[ow] at hx;rw[k3] at hx ⊢;unfold H0 at hx ⊢;split at hx
  ·simp at hx
  ·rename_i hv;rw[G6 hv];have:=k2.f0 hlo;simp only[F6,H7,D8,C5] at hx ⊢;rcases hx with rfl|⟨y,hy,rfl⟩
   ·exact .inl (by rw[this])
   ·exact .inr ⟨y,hy,rfl⟩
 have hinj:∀ i,i<s.hp.length→∀ p∈ℓ' i,∃ q,q∈ℓ i∧q.1=p.1∨(i=j∧∃ m∈l,q∈ℓ m∧q.1=p.1):=fun i hi pr hpr=>by
  by_cases e:i=j
  ·subst e;simp only[ℓ',H1] at hpr;unfold H0 at hpr;split at hpr
   ·cases hpr
   ·rename_i hv;have hv:mj.virt=false:=by simpa using hv
    simp only[D8,C5] at hpr;rcases hpr with rfl|⟨x,hx,rfl⟩
    ·exact⟨_,.inl ⟨hB hv,rfl⟩⟩
    ·rcases hfrom x hx with h1|⟨m,hm,h1⟩
     ·exact⟨_,.inl ⟨hK hv x h1,rfl⟩⟩
     ·exact⟨_,.inr ⟨rfl,m,hm,hzero m hm x h1,rfl⟩⟩
  ·by_cases hi':i∈l
   ·simp[ℓ',e,hi'] at hpr
   ·simp only[ℓ',e,hi',E5] at hpr;exact⟨pr,.inl ⟨hpr,rfl⟩⟩
 have hnodup:((H0 mj K').map Prod.fst).Nodup:=by
  unfold H0;split
  ·simp
  ·rename_i hv;have hv:mj.virt=false:=by simpa using hv
   have hnd:=h.nd j hjl;rw[q3,H0,G6 (by rw[hv];simp)] at hnd;simp only[F6,H7] at hnd ⊢;have eid:∀ X:List Nat,X.map (Prod.fst ∘ fun b:Nat=>(b,0))=X:=fun X=>by
    have:(Prod.fst ∘ fun b:Nat=>(b,0))=id:=rfl;rw[this,A0q]
   rw[eid] at hnd ⊢;obtain⟨n1,n2⟩:=H9.1 hnd;have hF:(l.flatMap (ow ℓ)).Nodup:=by
    refine b8.2 ⟨fun m hm=>h.nd m (hll m hm),?_⟩;refine List.Pairwise.imp_of_mem ?_ (H9.1 hn).2;intro m m' hm hm' hne x hx y hy e;obtain⟨px,h1,rfl⟩:=C5.1 hx;obtain⟨py,h2,e2⟩:=C5.1 hy;exact h.dj m m' (hll m hm) (hll m' hm') hne px h1 py h2 (e.trans e2.symm)
   have hall:(K++l.flatMap (ow ℓ)).Nodup:=by
    refine J3.2 ⟨n2,hF,fun x hx y hy e => ?_⟩;obtain⟨m,hm,hy⟩:=J6.1 hy;obtain⟨py,h2,rfl⟩:=C5.1 hy;exact h.dj j m hjl (hll m hm) (fun e=>hjn (e▸hm)) (x,0) (hK hv x hx) py h2 e
   have hK'n:K'.Nodup:=(J3.1 ((p.nodup_iff).1 hall)).1;refine H9.2 ⟨fun hx => ?_,hK'n⟩;rcases hfrom _ hx with h1|⟨m,hm,h1⟩
   ·exact n1 h1
   ·obtain⟨py,h2,e⟩:=C5.1 h1;exact h.dj j m hjl (hll m hm) (fun e=>hjn (e▸hm)) (mj.b,mj.fr) (hB hv) py h2 e.symm
 have hlen':(K8 (s.hp.set j (some { b with rows:=rows' })) l).length=s.hp.length:=by rw[S9];simp
 refine R9.c (N:=N) (M:=M') (ℓ:=ℓ') ⟨h.df,h.sl.gr g (fun _ hb=>by cases hb),fun i x hx => ?_,fun i hi => ?_,fun i i' hi hi' hne pr hpr q hq => ?_,fun i hi pr hpr => ?_,h.nlt,h.nup,h.ndn,h.fr,fun k hk => ?_,fun k m m0 h1 h0 => ?_,fun k hk => ?_⟩
 ·replace hx:(K8 (s.hp.set j (some { b with rows:=rows' })) l)[i]? = some x:=hx;rw[A0o] at hx;by_cases hi:i∈l
  ·have hij:i≠j:=fun e=>hjn (e▸hi);rw[E9 hi,E9 (by simpa using hll i hi)] at hx;cases hx;exact⟨by simp[M',hi],by simp[ℓ',hij,hi]⟩
  ·rw[G6 hi,G5] at hx;by_cases hij:i=j
   ·subst hij;rw[E9 rfl,E9 hjl] at hx;cases hx;refine⟨mj,K',by rw[hM i hi];exact q1,?_,by simp[ℓ']⟩;refine⟨by rw[q2.len,hlen],q2.sz,q2.fr,hcl q2.cl,r'.gr g (fun _ _=>rfl) (fun _ _ _=>rfl),fun e => ?_,q2.rm,by rw[hlen];exact q2.lo,q2.fz,q2.f0⟩;exact A07 (by rw[hlen,q2.vt e];rfl)
   ·rw[G6 (fun e=>hij e.symm)] at hx;have:=h.hp i x hx;cases x with
    |none=>exact⟨by rw[hM i hi];exact this.1,by simp[ℓ',hij,hi,this.2]⟩
    |some x =>
     obtain⟨m,L1,h1,h2,h3⟩:=this;exact⟨m,L1,by rw[hM i hi];exact h1,h2.gr g (fun _ _ _=>rfl),by simp[ℓ',hij,hi,h3]⟩
 ·rw[hlen'] at hi;by_cases hij:i=j
  ·subst hij;simpa[ℓ'] using hnodup
  ·by_cases hi':i∈l
   ·simp[ℓ',hij,hi']
   ·simpa[ℓ',hij,hi'] using h.nd i hi
 ·rw[hlen'] at hi hi';obtain⟨u,hu⟩:=hinj i hi pr hpr;obtain⟨v,hv⟩:=hinj i' hi' q hq;have hq':∀ m,m∈l→i'≠m:=fun m hm e=>by
   subst e;have hij:i'≠j:=fun e=>hjn (e▸hm);simp[ℓ',hij,hm] at hq
  have hp':∀ m,m∈l→i≠m:=fun m hm e=>by
   subst e;have hij:i≠j:=fun e=>hjn (e▸hm);simp[ℓ',hij,hm] at hpr
  intro e;rcases hu with⟨h1,h2⟩|⟨rfl,m,hm,h1,h2⟩<;>rcases hv with⟨k1,k2⟩|⟨rfl,m',hm',k1,k2⟩
  ·exact h.dj i i' hi hi' hne u h1 v k1 (by rw[h2,k2,e])
  ·exact h.dj i m' hi (hll m' hm') (hp' m' hm') u h1 v k1 (by rw[h2,k2,e])
  ·exact h.dj m i' (hll m hm) hi' (fun e=>hq' m hm e.symm) u h1 v k1 (by rw[h2,k2,e])
  ·exact hne rfl
 ·rw[hlen'] at hi;by_cases hij:i=j
  ·subst hij;simp only[ℓ',H1] at hpr;unfold H0 at hpr;split at hpr
   ·cases hpr
   ·rename_i hv;have hv:mj.virt=false:=by simpa using hv
    simp only[D8,C5] at hpr;rcases hpr with rfl|⟨x,hx,rfl⟩
    ·exact h.own i hi _ (hB hv)
    ·rcases hfrom x hx with h1|⟨m,hm,h1⟩
     ·exact h.own i hi _ (hK hv x h1)
     ·exact h.own m (hll m hm) _ (hzero m hm x h1)
  ·by_cases hi':i∈l
   ·simp[ℓ',hij,hi'] at hpr
   ·simp only[ℓ',hij,hi',E5] at hpr;exact h.own i hi pr hpr
 ·rw[hlen'] at hk;rw[hM k (fun hm=>by have:=hll k hm;omega)];exact h.un k hk
 ·by_cases hi:k∈l
  ·simp only[M',hi,H1] at h1;cases h1
  ·rw[hM k hi] at h1;exact h.mv k m m0 h1 h0
 ·rw[hlen'] at hk;exact h.mz k hk
end
open Go Go.RowKit
def RI(o:Bool)(T:Ty)(cs:List AV)(y:Den T):Prop:=O6 Im cs (cls o T y)∧∀ c∈cs,c.bare1=true
theorem RI.self{o:Bool}{T:Ty}(h:(!o||T.flat)=true)(y:Den T):RI o T (cls o T y) y:=by
 refine⟨?_,?_⟩
 ·generalize cls o T y=l;induction l with
  |nil=>exact .nil
  |cons x l ih=>exact .cons (.refl _) ih
 ·rw[A7r h];exact A1z T y
theorem RI.o{o:Bool}{T:Ty}{cs:List AV}{y:Den T}(h:RI false T cs y)(ho:(!o||T.flat)=true):RI o T cs y:=by
 unfold RI at *
 rw[A7r ho];exact h
theorem O6.split{α β:Type}{R:α→β→Prop}:∀ {a b:List α} {l:List β},O6 R (a++b) l→∃ c d,l=c++d∧O6 R a c∧O6 R b d
 |[],b,l,h=>⟨[],l,rfl,.nil,h⟩
 |x :: a,b,_,.cons h1 h2=>by
  obtain⟨c,d,rfl,h3,h4⟩:=O6.split h2;exact⟨_ :: c,d,rfl,.cons h1 h3,h4⟩
theorem j9(o:Bool)(sz:Nat):Im (.val (.slice none 0 0)) (.sl o sz []):=fun w N M v r=>by
 cases r;cases o with
 |true=>exact .slO0 _ _
 |false=>exact .slI0 _ _ _
theorem C3f(hp:THP){k:IntKind}:∀ (cs:List TV) (l:List Int),arL k cs=some l→cs.map (av hp)=l.map (fun x=>AV.val (.int k x))∧l.length=cs.length:=by
 intro cs;induction cs with
 |nil=>intro l h;cases h;exact⟨rfl,rfl⟩
 |cons c cs ih =>
  intro l h;cases c with
  |v A x =>
   simp only[arL] at h;split at h
   ·rename_i y hy;split at h
    ·rename_i l2 h2;cases h;obtain⟨rfl,hz⟩:=N5 hy;cases hz;obtain⟨e1,e2⟩:=ih l2 h2;refine⟨?_,by simp[e2]⟩;simp only[F6,e1];rfl
    ·cases h
   ·cases h
  |_=>cases h
theorem C7j(hp:THP){n:Nat}{k:IntKind}{cs:List TV}{l:List Int}(h:B1f n k cs=some l):cs.all (TV.c1 hp)=true:=by
 unfold B1f at h;cases hn:Nat.beq cs.length n with
 |false=>rw[hn] at h;cases h
 |true =>
  rw[hn,A4] at h;clear hn;induction cs generalizing l with
  |nil=>rfl
  |cons c cs ih =>
   cases c with
   |v A x =>
    simp only[arL] at h;split at h
    ·rename_i y hy;split at h
     ·rename_i l2 h2;obtain⟨rfl,_⟩:=N5 hy;rw[d3,ih h2];rfl
     ·cases h
    ·cases h
   |_=>cases h
theorem C60{k:IntKind}(l:List Int):arC l.length k l=l.map (fun x=>AV.val (.int k x)):=by
 unfold arC;refine A1B (by simp) fun i h1 h2 => ?_;simp only[C7,List.length_range] at h1;simp[B3,h1]
theorem B1e(hp:THP){n:Nat}{k:IntKind}{cs:List TV}{l:List Int}(h:B1f n k cs=some l):cs.map (av hp)=cls false (.ar n k) l∧cs.length=n:=by
 unfold B1f at h;cases hn:Nat.beq cs.length n with
 |false=>rw[hn] at h;cases h
 |true =>
  rw[hn,A4] at h;obtain⟨e1,e2⟩:=C3f hp _ _ h;simp only[F4] at hn;subst hn;refine⟨?_,rfl⟩;show _=arC cs.length k l;rw[e1,← e2,C60]
theorem B1Y(hp:THP):∀ (T:Ty) (cs:List TV) (y:Den T) (r:List TV),m6 T cs=some (y,r)→∃ c1,cs=c1++r∧RI false T (c1.map (av hp)) y:=by
 intro T;induction T with
 |i k =>
  intro cs y r h;cases cs with
  |nil=>cases h
  |cons c cs =>
   simp only[m6] at h;split at h
   ·rename_i A x;split at h
    ·rename_i z hz;cases h;obtain⟨rfl,hz⟩:=N5 hz;cases hz;exact⟨[_],rfl,.cons (.refl _) .nil,by simp[av,enc,cls,mkr,Ty.ag,AV.bare1]⟩
    ·cases h
   ·cases h
 |bl =>
  intro cs y r h;cases cs with
  |nil=>cases h
  |cons c cs =>
   simp only[m6] at h;split at h
   ·rename_i A x;split at h
    ·rename_i z hz;cases h;obtain⟨rfl,hz⟩:=N5 hz;cases hz;exact⟨[_],rfl,.cons (.refl _) .nil,by simp[av,enc,cls,mkr,Ty.ag,AV.bare1]⟩
    ·cases h
   ·cases h
 |tx =>
  intro cs y r h;cases cs with
  |nil=>cases h
  |cons c cs =>
   simp only[m6] at h;split at h
   ·rename_i A x;split at h
    ·rename_i z hz;cases h;obtain⟨rfl,hz⟩:=N5 hz;cases hz;exact⟨[_],rfl,.cons (.refl _) .nil,by simp[av,enc,cls,mkr,Ty.ag,AV.bare1]⟩
    ·cases h
   ·cases h
 |sv t _ =>
  intro cs y r h;cases cs with
  |nil=>cases h
  |cons c cs =>
   simp only[m6] at h;split at h
   ·rename_i A x;split at h
    ·rename_i z hz;cases h;obtain⟨rfl,hz⟩:=N5 hz;cases hz;exact⟨[_],rfl,.cons (.refl _) .nil,by simp[av,enc,cls,mkr,Ty.ag,AV.bare1]⟩
    ·cases h
   ·cases h;exact⟨[_],rfl,.cons (j9 false t.sz) .nil,by simp[av,AV.bare1]⟩
   ·cases h
 |sl t _ =>
  intro cs y r h;cases cs with
  |nil=>cases h
  |cons c cs =>
   simp only[m6] at h;split at h
   ·rename_i A x;split at h
    ·rename_i z hz;cases h;obtain⟨rfl,hz⟩:=N5 hz;cases hz;exact⟨[_],rfl,.cons (.refl _) .nil,by simp[av,enc,cls,mkr,Ty.ag,AV.bare1]⟩
    ·cases h
   ·cases h;exact⟨[_],rfl,.cons (j9 false t.sz) .nil,by simp[av,AV.bare1]⟩
   ·cases h
 |pr a b iha ihb =>
  intro cs y r h;simp only[m6] at h;split at h
  ·rename_i x cs1 h1;split at h
   ·rename_i z cs2 h2;cases h;obtain⟨c1,rfl,k1,k2⟩:=iha _ _ _ h1;obtain⟨c2,rfl,k3,k4⟩:=ihb _ _ _ h2;refine⟨c1++c2,by simp,?_,?_⟩
    ·rw[G0];exact O6.append k1 k3
    ·intro c hc;rw[G0] at hc;rcases C9.1 hc with h|h
     ·exact k2 c h
     ·exact k4 c h
   ·cases h
  ·cases h
 |st t ih =>
  intro cs y r h;exact ih cs y r h
 |ar n k =>
  intro cs y r h;cases cs with
  |nil=>cases h
  |cons c cs=>cases h
theorem A7t(hp:THP){T:Ty}{x:TV}{y:Den T}(h:B2u T x=some y):RI false T (av hp x).cells y∧Im (av hp x) (enc false T y):=by
 unfold B2u at h;split at h
 ·rename_i t cs;split at h
  ·rename_i z hz;cases h;obtain⟨c1,e,k1,k2⟩:=B1Y hp t cs _ [] hz;rw[D5] at e;subst e;simp only[av,O8];exact⟨⟨k1,k2⟩,Im.agg k1⟩
  ·cases h
 ·rename_i n k cs;have e:=(B1e hp h).1;have e2:av hp (.ag cs)=enc false (.ar n k) y:=by
   simp only[av,O8,e];rfl
  rw[e2,N6];exact⟨RI.self rfl _,.refl _⟩
 ·rename_i t A z;have e1:=A14 h;have e:enc false (.sl t) y=enc false (.sv t) y:=rfl;simp only[av];rw[e1,e,N6];exact⟨RI.self rfl _,.refl _⟩
 ·have e1:=A14 h;have e2:=(B7D h).1;simp only[av];rw[N6,e1,e2];exact⟨RI.self rfl _,.refl _⟩
 ·cases h;exact⟨⟨.cons (j9 false _) .nil,by simp[av,AV.cells,AV.bare1]⟩,j9 false _⟩
 ·cases h;exact⟨⟨.cons (j9 false _) .nil,by simp[av,AV.cells,AV.bare1]⟩,j9 false _⟩
 ·cases h
theorem A6T(hp:THP):∀ (T:Ty) (cs:List TV) (y:Den T) (l:List Nat) (r:List TV),k7 hp T cs=some (y,l,r)→(∀ c∈cs,c.c1 hp=true)→∃ c1,cs=c1++r∧Ab (F1 hp) (c1.map (av hp)) (cls true T y) l:=by
 intro T;induction T with
 |i k =>
  intro cs y l r h _;cases cs with
  |nil=>cases h
  |cons c cs =>
   simp only[k7] at h;split at h
   ·rename_i A x;split at h
    ·rename_i z hz;cases h;obtain⟨rfl,hz⟩:=N5 hz;cases hz;exact⟨[_],rfl,.same .nil⟩
    ·cases h
   ·cases h
 |bl =>
  intro cs y l r h _;cases cs with
  |nil=>cases h
  |cons c cs =>
   simp only[k7] at h;split at h
   ·rename_i A x;split at h
    ·rename_i z hz;cases h;obtain⟨rfl,hz⟩:=N5 hz;cases hz;exact⟨[_],rfl,.same .nil⟩
    ·cases h
   ·cases h
 |tx =>
  intro cs y l r h _;cases cs with
  |nil=>cases h
  |cons c cs =>
   simp only[k7] at h;split at h
   ·rename_i A x;split at h
    ·rename_i z hz;cases h;obtain⟨rfl,hz⟩:=N5 hz;cases hz;exact⟨[_],rfl,.same .nil⟩
    ·cases h
   ·cases h
 |sv t _ =>
  intro cs y l r h _;cases cs with
  |nil=>cases h
  |cons c cs =>
   simp only[k7] at h;split at h
   ·rename_i A x;split at h
    ·rename_i z hz;cases h;obtain⟨rfl,hz⟩:=N5 hz;cases hz;exact⟨[_],rfl,.same .nil⟩
    ·cases h
   ·cases h;exact⟨[.nil],rfl,.im (j9 false t.sz) rfl .nil⟩
   ·cases h
 |sl t _ =>
  intro cs y l r h _;cases cs with
  |nil=>cases h
  |cons c cs =>
   simp only[k7] at h;split at h
   ·rename_i j _;split at h
    ·rename_i A o Lx e;cases ho:(o||A.flat) with
     |false=>rw[ho] at h;cases h
     |true =>
      rw[ho,A4] at h;split at h
      ·rename_i z hz;cases h;obtain⟨e1,hz⟩:=N5 hz;cases e1;cases hz;refine⟨[.own j],rfl,?_⟩;have henc:∀ Lx:List (Den t),Lx.map (enc o t)=Lx.map fun y=>mkr t.ag (cls true t y):=fun Lx=>by
        refine E4 fun y _ => ?_;unfold enc;cases o with
        |true=>rfl
        |false=>rw[A5w (by simpa using ho)]
       have:=Ab.ref (hp:=F1 hp) (m:=j) (by rw[I1,e];rfl) rfl (xs:=[]) (ys:=[]) (l:=[]) .nil;simp only[tb,C7] at this;simp only[F6,U3,av,hpk,e,TB.rlen,cls];rw[← henc];exact this
      ·cases h
    ·cases h
   ·cases h;exact⟨[.nil],rfl,.im (j9 true t.sz) rfl .nil⟩
   ·cases h
 |pr a b iha ihb =>
  intro cs y l r h hc;simp only[k7] at h;split at h
  ·rename_i x l1 cs1 h1;split at h
   ·rename_i z l2 cs2 h2;cases h;obtain⟨c1,rfl,k1⟩:=iha _ _ _ _ h1 hc;obtain⟨c2,rfl,k2⟩:=ihb _ _ _ _ h2 fun c hc'=>hc c (by simp[hc']);exact⟨c1++c2,by simp,by rw[G0];exact k1.append k2⟩
   ·cases h
  ·cases h
 |ar n k =>
  intro cs y l r h _;cases cs with
  |nil=>cases h
  |cons c cs=>cases h
 |st t ih =>
  intro cs y l r h hc;exact ih cs y l r h hc
theorem B8h:∀ (T:Ty) (z r:List AV),A17 T z=some r→∃ z1,z=z1++r∧RI true T z1 (dft T)∧∀ c∈z1,∃ v,c=.val v:=by
 intro T;induction T with
 |i k =>
  intro z r h;simp only[A17] at h;split at h
  ·rename_i k' m r';by_cases hk:k=k'∧m=0
   ·obtain⟨rfl,rfl⟩:=hk;simp only[Z6,D0,A4,C3] at h;subst h;exact⟨[_],rfl,⟨.cons (.refl _) .nil,by simp[AV.bare1]⟩,by simp⟩
   ·have:(decide (k=k')&&decide (m=0))=false:=by simpa using hk
    rw[this] at h;cases h
  ·cases h
 |bl =>
  intro z r h;simp only[A17] at h;split at h
  ·rename_i b r';cases b with
   |true=>cases h
   |false =>
    simp only[A9,C3] at h;subst h;exact⟨[_],rfl,⟨.cons (.refl _) .nil,by simp[AV.bare1]⟩,by simp⟩
  ·cases h
 |tx =>
  intro z r h;simp only[A17] at h;split at h
  ·rename_i s r';by_cases hs:s=ByteArray.empty
   ·subst hs;simp only[Z6,A4,C3] at h;subst h;exact⟨[_],rfl,⟨.cons (.refl _) .nil,by simp[AV.bare1]⟩,by simp⟩
   ·have:decide (s=ByteArray.empty)=false:=by simpa using hs
    rw[this] at h;cases h
  ·cases h
 |sv t _ =>
  intro z r h;simp only[A17] at h;split at h
  ·cases h;exact⟨[_],rfl,⟨.cons (j9 false t.sz) .nil,by simp[AV.bare1]⟩,by simp⟩
  ·cases h
 |sl t _ =>
  intro z r h;simp only[A17] at h;split at h
  ·cases h;exact⟨[_],rfl,⟨.cons (j9 true t.sz) .nil,by simp[AV.bare1]⟩,by simp⟩
  ·cases h
 |pr a b iha ihb =>
  intro z r h;simp only[A17] at h;split at h
  ·rename_i r1 h1;obtain⟨z1,rfl,⟨k1,k2⟩,k3⟩:=iha _ _ h1;obtain⟨z2,rfl,⟨k4,k5⟩,k6⟩:=ihb _ _ h;refine⟨z1++z2,by simp,⟨O6.append k1 k4,fun c hc => ?_⟩,fun c hc => ?_⟩
   ·rcases C9.1 hc with h|h
    ·exact k2 c h
    ·exact k5 c h
   ·rcases C9.1 hc with h|h
    ·exact k3 c h
    ·exact k6 c h
  ·cases h
 |st t ih=>intro z r h;exact ih z r h
 |ar n k=>intro z r h;cases h
theorem O6.len{α β:Type}{R:α→β→Prop}{a:List α}{b:List β}(h:O6 R a b):b.length=a.length:=h.length_eq.symm
theorem B6j{T:Ty}{z:List AV}(h:zOk T z=true):RI true T (A1g T.ag z).cells (dft T)∧(A1g T.ag z).cells.length=T.sz:=by
 unfold zOk at h;split at h
 ·rename_i e;obtain⟨z1,e1,k1,k2⟩:=B8h T z [] e;rw[D5] at e1;subst e1;have hlen:z.length=T.sz:=by rw[← k1.1.len,O0]
  have hc:(A1g T.ag z).cells=z:=by
   unfold A1g;cases hag:T.ag with
   |true=>rfl
   |false =>
    have h1:z.length=1:=by
     rw[hlen];cases T<;>first|rfl|cases hag
    match z,h1 with
    |[c],_ =>
     obtain⟨v,rfl⟩:=k2 c (by simp);rfl
  rw[hc];exact⟨k1,hlen⟩
 ·cases h
def RR(o:Bool)(T:Ty)(r:AV)(y:Den T):Prop:=RI o T r.cells y
theorem A9e{o:Bool}{T:Ty}{rows:List AV}{L:List (Den T)}(h:O6 (RR o T) rows L){lo fz:Nat}:R0 ⟨T.sz,lo,rows,fz⟩ ⟨T.sz,lo,L.map (enc o T),fz⟩:=by
 refine R0.of rfl rfl rfl (by rw[C7];exact h.len) ?_ ?_ ?_
 ·intro c hc;obtain⟨r,hr,hc⟩:=J6.1 hc;obtain⟨y,hy⟩:=h.mem_left hr;exact hy.2 c hc
 ·intro _ y hy;obtain⟨x,_,rfl⟩:=C5.1 hy;rw[N6,O0]
 ·show O6 Im (rows.flatMap AV.cells) ((L.map (enc o T)).flatMap AV.cells);induction h with
  |nil=>exact .nil
  |cons h1 _ ih =>
   simp only[F0,F6,N6];exact O6.append h1.1 ih
theorem O6.set{α β:Type}{R:α→β→Prop}{a:List α}{b:List β}(h:O6 R a b){x:α}{y:β}(hx:R x y):∀ i,O6 R (a.set i x) (b.set i y):=by
 induction h with
 |nil=>intro i;exact .nil
 |cons h1 h2 ih =>
  intro i;cases i with
  |zero=>exact .cons hx h2
  |succ i=>exact .cons h1 (ih i)
theorem O6.replicate{α β:Type}{R:α→β→Prop}{x:α}{y:β}(h:R x y):∀ n,O6 R (List.replicate n x) (List.replicate n y)
 |0=>.nil
 |n+1=>.cons h (O6.replicate h n)
theorem O6.maps{α β γ:Type}{R:β→γ→Prop}{f:α→β}{g:α→γ}(h:∀ x,R (f x) (g x)):∀ l:List α,O6 R (l.map f) (l.map g)
 |[]=>.nil
 |x :: l=>.cons (h x) (O6.maps h l)
theorem B30{o:Bool}{T:Ty}(h:(!o||T.flat)=true)(L:List (Den T)):O6 (RR o T) (L.map (enc o T)) L:=by
 have:=O6.maps (R:=RR o T) (f:=enc o T) (g:=id) (fun x=>by unfold RR;rw[N6];exact RI.self h x) L;rw[A0q] at this;exact this
theorem B7w{o o':Bool}{T:Ty}(h:(!o||T.flat)=true)(h':(!o'||T.flat)=true)(L:List (Den T)):O6 (RR o' T) (L.map (enc o T)) L:=by
 have:=B30 h' L;have e:L.map (enc o T)=L.map (enc o' T):=by
  refine E4 fun x _ => ?_;unfold enc;rw[A7r h,A7r h']
 rw[e];exact this
open Go Go.RowKit
section
variable {R:List AV→List AV→List Nat→Prop} (hr:∀ xs,R xs xs []) (ha:∀ {a b l c d m},R a b l→R c d m→R (a++c) (b++d) (l++m))
include hr ha in
theorem A8T{o:Bool}{f:(T:Ty)→TV→Option (Den T×List Nat)}{y:TV}{cy:List AV}{n:Nat}(hn:cy.length=n)(hf:∀ T z l,f T y=some (z,l)→T.sz=n→R cy (cls o T z) l) :
  ∀ (T:Ty) (x:Den T) (off:Nat) (z:Den T) (l:List Nat),A75 f T x off n y=some (z,l)→off+n≤T.sz→R ((cls o T x).take off++(cy++(cls o T x).drop (off+n))) (cls o T z) l:=by
 have leafy:∀ (T:Ty) (x:Den T) (off:Nat) (z:Den T) (l:List Nat),T.sz=1→(bif (Nat.beq off 0&&Nat.beq n 1) then f T y else none)=some (z,l)→off+n≤T.sz→R ((cls o T x).take off++(cy++(cls o T x).drop (off+n))) (cls o T z) l:=by
  intro T x off z l hs h hle;cases hc:(Nat.beq off 0&&Nat.beq n 1) with
  |false=>rw[hc] at h;cases h
  |true =>
   rw[hc,A4] at h;simp only[A6,F4] at hc;obtain⟨rfl,rfl⟩:=hc;rw[A2F,O7 (by rw[O0,hs];omega),D5,I2];exact hf T z l h hs
 intro T;induction T with
 |i k=>exact fun x off z l h=>leafy (.i k) x off z l rfl h
 |bl=>exact fun x off z l h=>leafy .bl x off z l rfl h
 |tx=>exact fun x off z l h=>leafy .tx x off z l rfl h
 |sv t _=>exact fun x off z l h=>leafy (.sv t) x off z l rfl h
 |sl t _=>exact fun x off z l h=>leafy (.sl t) x off z l rfl h
 |ar n k=>intro x off z l h;cases h
 |st t ih =>
  intro x off z l h hle;simp only[A75] at h;cases hc:(Nat.beq off 0&&Nat.beq n t.sz) with
  |false=>rw[hc] at h;exact ih x off z l h hle
  |true =>
   rw[hc,A4] at h;simp only[A6,F4] at hc;obtain⟨rfl,rfl⟩:=hc;rw[A2F,O7 (by rw[O0];simp[Ty.sz]),D5,I2];exact hf (.st t) z l h rfl
 |pr a b iha ihb =>
  intro x off z l h hle;simp only[A75] at h;have hl:=O0 o a x.1;simp only[Ty.sz] at hle;cases hc:Nat.ble (off+n) a.sz with
  |true =>
   have hle':=H6 hc;rw[hc,A4] at h;obtain⟨⟨z',l'⟩,h1,h2⟩:=T7.1 h;cases h2;have:=ha (iha x.1 off z' l' h1 hle') (hr (cls o b x.2));simp only[cls,D5] at this ⊢;rw[t7 (by omega),t6 (by omega)];simpa[F9] using this
  |false =>
   rw[hc,A9] at h;cases hd:Nat.ble a.sz off with
   |false=>rw[hd] at h;cases h
   |true =>
    have hle':=H6 hd;rw[hd,A4] at h;obtain⟨⟨z',l'⟩,h1,h2⟩:=T7.1 h;cases h2;have:=ha (hr (cls o a x.1)) (ihb x.2 (off-a.sz) z' l' h1 (by omega));simp only[cls,I2] at this ⊢
    rw[List.take_append,A3h,S0 (by omega),show List.drop (off+n) (cls o a x.1)=[] from O7 (by omega),hl,I2,show off+n-a.sz=off-a.sz+n from by omega];simpa[F9] using this
end
theorem O6.imrefl:∀ xs:List AV,O6 Im xs xs
 |[]=>.nil
 |_ :: xs=>.cons (.refl _) (O6.imrefl xs)
theorem C6C(hp:THP){T:Ty}{y:TV}{z:Den T}{l:List Nat}(h:fV T y=some (z,l)):l=[]∧RI false T (av hp y).cells z:=by
 obtain⟨z',h1,h2⟩:=T7.1 h;cases h2;exact⟨rfl,(A7t hp h1).1⟩
theorem B3Z{hp:THP}{m:Nat}{x:TV}(h:x.fits hp m=true):∀ c∈x.cs,c.c1 hp=true:=by
 have tc:∀ (T:Ty) (y:Den T),∀ c∈W8 T y,c.c1 hp=true:=by
  intro T;induction T with
  |i|bl|tx|sl|sv=>intro y c hc;simp only[W8,C1] at hc;subst hc;rfl
  |pr a b iha ihb =>
   intro y c hc;rcases C9.1 hc with h|h
   ·exact iha _ c h
   ·exact ihb _ c h
  |st t ih=>exact ih
  |ar n k =>
   intro y c hc;simp only[W8,C5] at hc;obtain⟨i,_,rfl⟩:=hc;rfl
 unfold TV.fits at h;split at h
 ·exact tc _ _
 ·exact tc (.ar _ _) _
 ·simp only[A6] at h;exact fun c hc=>(D6.1 h.2) c hc
 ·rename_i n1 n0 n2;simp only[A6] at h;intro c hc;have:x.cs=[x]:=by
   cases x with
   |v T y=>cases T<;>first|rfl|exact absurd rfl (n1 _ _)|exact absurd rfl (n0 _ _ _)
   |ag cs=>exact absurd rfl (n2 _)
   |_=>rfl
  rw[this] at hc;simp only[C1] at hc;rw[hc];exact h.2
theorem A11{hp:THP}{m:Nat}{x:TV}(h:x.fits hp m=true):x.cs.length=m:=by
 have h1:=i3 h;have h2:=B18 h1.1;rw[← h2.1,← h1.2,C7]
theorem B83{hp:THP}{T:Ty}{y:TV}{z:Den T}{l:List Nat}(h:fO hp T y=some (z,l))(hc:∀ c∈y.cs,c.c1 hp=true):Ab (F1 hp) (y.cs.map (av hp)) (cls true T z) l:=by
 unfold fO at h;split at h
 ·rename_i z' l' e;cases h;obtain⟨c1,e1,k⟩:=A6T hp T _ _ _ _ e hc;rw[D5] at e1;rw[e1];exact k
 ·cases h
theorem A3W{T:Ty}(L:List (Den T)):bareRows (L.map (enc false T)):=by
 intro r hr;obtain⟨y,_,rfl⟩:=C5.1 hr;rw[N6,D6];intro c hc;rw[A1z T y c hc,(A1p false T y c hc).1];rfl
theorem C5T{o:Bool}{T:Ty}(h:(!o||T.flat)=true)(L:List (Den T)):L.map (enc o T)=L.map (enc false T) :=
 E4 fun x _=>by unfold enc;rw[A7r h]
theorem B0n(rows:List AV)(len:Nat)(h:rows.length=len):sub rows 0 len=rows:=by simp[sub,h]
theorem C2I(rows:List AV)(off len:Nat):sub rows off len=(rows.drop off).take len:=by
 unfold sub;split
 ·rename_i h;rw[h.1,N8,← h.2,w7]
 ·rfl
theorem B2z(s:ByteArray):u7 s=(A7N s).map (enc false (.i .u8)):=by
 unfold u7 A7N;rw[H7];rfl
theorem B4C{n:Nat}{t:TS}{T:Ty}{L2:List (Den T)}(y:TV)(h:A9t t.hp T y=some L2):v9 (D2 n t) T.sz (av t.hp y)=some (L2.map (enc false T)):=by
 unfold A9t at h;split at h
 ·rename_i A Lx;obtain⟨e,hz⟩:=N5 h;cases e;cases hz;simp only[av,B5S,v9,true_or,H1]
 ·rename_i j;split at h
  ·rename_i A o Lx e;cases ho:(!o||A.flat) with
   |false=>rw[ho] at h;cases h
   |true =>
    rw[ho,A4] at h;obtain⟨e1,hz⟩:=N5 h;cases e1;cases hz;simp only[av,hpk,TB.rlen,e,v9,E6];rw[w9 e];simp only[H1];rw[B0n _ _ (by simp),C5T ho]
  ·cases h
 ·rename_i j off len;split at h
  ·rename_i A o Lx e;cases ho:(!o||A.flat) with
   |false=>rw[ho] at h;cases h
   |true =>
    rw[ho,A4] at h;obtain⟨e1,hz⟩:=N5 h;cases e1;cases hz;simp only[av,hpk,TB.rlen,e,v9,E6];rw[w9 e];simp only[H1];rw[C2I,C5T ho,W0,W7]
  ·cases h
 ·cases h;rfl
 ·cases h;simp[av,v9]
 ·cases h
theorem B7W{t:TS}{T:Ty}{L2:List (Den T)}(y:TV)(h:A9t t.hp T y=some L2):B7K (av t.hp y):=by
 unfold A9t at h;split at h
 ·trivial
 ·rename_i j;split at h
  ·rename_i A o Lx e;simp only[av,hpk,TB.rlen,e];trivial
  ·cases h
 ·rename_i j off len;split at h
  ·rename_i A o Lx e;simp only[av,hpk,TB.rlen,e];trivial
  ·cases h
 ·trivial
 ·trivial
 ·cases h
theorem A8P{n:Nat}{t:TS}{T:Ty}{y:TV}{L2:List (Den T)}(h:B1N t.hp T y=some L2):v9 (D2 n t) T.sz (av t.hp y)=some (L2.map (enc false T)):=by
 have main:∀ y:TV,A9t t.hp T y=some L2→v9 (D2 n t) T.sz (av t.hp y)=some (L2.map (enc false T)):=B4C;unfold B1N at h;split at h
 ·rename_i k s;by_cases hk:k=.u8
  ·subst hk;simp only[Z6,A4,C3] at h;subst h;show(if (1:Nat)=1 then some (u7 s) else none)=_
   rw[E9 rfl,B2z]
  ·have:decide (k=.u8)=false:=by simpa using hk
   rw[this] at h;cases h
 ·exact main _ h
def Get(s s':AS):Prop:=∀ C a w,M8 C s a w→M8 C s' a w
theorem L7.get{s s':AS}(h:L7 s s'):Get s s':=fun _ _ _ hc=>h.conc hc
theorem Get.trans{a b c:AS}(h:Get a b)(k:Get b c):Get a c:=fun C x w hc=>k C x w (h C x w hc)
section
variable {n:Nat} {t:TS}
theorem L7.setB{j:Nat}{k:Blk}{b:TB}(hj:j<t.hp.length)(hr:hpk t.hp j=some b.rlen)(hk:R0 k (tb t.hp b)) :
  L7 { D2 n t with hp:=(F1 t.hp).set j (some k) } (D2 n { t with hp:=t.hp.set j (some b) }):=by
 have hh:∀ i,hpk (t.hp.set j (some b)) i=hpk t.hp i:=fun i=>by
  by_cases hi:j=i
  ·subst hi;rw[hr];unfold hpk;rw[G5,E9 rfl,E9 hj]
  ·unfold hpk;rw[G5,G6 hi]
 refine⟨by rw[T5,T5],fun i => ?_,?_,fun i x hx => ?_⟩
 ·show Im ((D2 n t).sl.getD i .any) _;rw[R5,R5];show Im _ (av (t.hp.set j (some b)) (t.get n i));rw[A73 hh];exact .refl _
 ·show(F1 (t.hp.set j (some b))).length=((F1 t.hp).set j (some k)).length;simp[F3]
 ·show ∃ y,(F1 (t.hp.set j (some b)))[i]? = some y∧_;replace hx:((F1 t.hp).set j (some k))[i]? = some x:=hx;rw[I1];rw[G5] at hx ⊢;by_cases hi:j=i
  ·subst hi;rw[E9 rfl,E9 (by rw[F3];exact hj)] at hx;rw[E9 rfl,E9 hj];cases hx;refine⟨_,rfl,?_⟩;show R0 k (tb (t.hp.set j (some b)) b);rw[A8s hh];exact hk
  ·rw[G6 hi,I1] at hx;rw[G6 hi];cases hb:t.hp[i]? with
   |none=>rw[hb] at hx;cases hx
   |some c =>
    rw[hb] at hx;simp only[F8,C3] at hx;subst hx;refine⟨_,rfl,?_⟩;cases c with
    |none=>trivial
    |some c =>
     show R0 (tb t.hp c) (tb (t.hp.set j (some b)) c);rw[A8s hh];exact .refl _
theorem L7.grow{j:Nat}{k:Blk}{b:TB}(hj:j<t.hp.length)(hk:R0 k (tb (t.grow j b).hp b)) :
  L7 { D2 n t with hp:=(F1 t.hp).set j (some k) } (D2 n (t.grow j b)):=by
 let p:Nat→Bool:=fun i => !Nat.beq i j
 have hh:∀ i,p i=true→hpk (t.grow j b).hp i=hpk t.hp i:=fun i hi=>by
  have hi:¬ j=i:=by
   intro e;subst e;simp[p] at hi
  rw[← A4h p t.hp i];unfold hpk TS.grow;show(match ((Z8 p t.hp).set j (some b))[i]? with|some (some b)=>some b.rlen|_=>none)=_
  rw[G5,G6 hi];rfl
 refine⟨by rw[T5,T5],fun i => ?_,?_,fun i x hx => ?_⟩
 ·show Im ((D2 n t).sl.getD i .any) _;rw[R5,R5,show(t.grow j b).get n i=Nx.flt p (t.get n i) from A2u n t _ _ p rfl i];exact A1Y hh _
 ·show(F1 (t.grow j b).hp).length=((F1 t.hp).set j (some k)).length;simp[F3,TS.grow,TS.flt,P8]
 ·show ∃ y,(F1 (t.grow j b).hp)[i]? = some y∧_;replace hx:((F1 t.hp).set j (some k))[i]? = some x:=hx;rw[I1];have eg:(t.grow j b).hp[i]? = ((Z8 p t.hp).set j (some b))[i]? := rfl;rw[G5] at hx eg;by_cases hi:j=i
  ·subst hi;rw[E9 rfl,E9 (by rw[F3];exact hj)] at hx;rw[E9 rfl,E9 (by rw[P8];exact hj)] at eg;cases hx;rw[eg];exact⟨_,rfl,hk⟩
  ·rw[G6 hi,I1] at hx;rw[G6 hi,A0y] at eg;rw[eg];cases hb:t.hp[i]? with
   |none=>rw[hb] at hx;cases hx
   |some c =>
    rw[hb] at hx;simp only[F8,C3] at hx;subst hx;refine⟨_,rfl,?_⟩;cases c with
    |none=>trivial
    |some c=>exact A2R hh c
theorem A0Q:∀ (l:List Nat) (hp:THP) (i:Nat),(setAll hp l)[i]? = if i∈l then(if i<hp.length then some none else none) else hp[i]?
 |[],hp,i=>by simp[setAll]
 |j :: l,hp,i=>by
  rw[setAll,A0Q l,G5];by_cases h1:i∈l
  ·simp[h1]
  ·by_cases h2:i=j
   ·subst h2;simp[h1]
   ·have:¬ j=i:=fun e=>h2 e.symm;simp[h1,h2,this]
theorem A2r:∀ (l:List Nat) (hp:THP),(setAll hp l).length=hp.length
 |[],_=>rfl
 |j :: l,hp=>by rw[setAll,A2r l];simp
theorem A4s(l:List Nat)(i:Nat):A0J l i=true↔i∈l:=by
 unfold A0J;simp only[w8,F4];constructor
 ·rintro ⟨x,h1,rfl⟩;exact h1
 ·intro h;exact⟨i,h,rfl⟩
theorem L7.kill(l:List Nat):L7 { D2 n t with hp:=K8 (F1 t.hp) l } (D2 n (t.kill l)):=by
 let p:Nat→Bool:=fun i => !A0J l i
 have hh:∀ i,p i=true→hpk (t.kill l).hp i=hpk t.hp i:=fun i hi=>by
  have hi:i ∉ l:=by
   intro e;have:=(A4s l i).2 e;simp[p,this] at hi
  rw[← A4h p t.hp i];unfold hpk TS.kill;show(match (setAll (Z8 p t.hp) l)[i]? with|some (some b)=>some b.rlen|_=>none)=_
  rw[A0Q,G6 hi];rfl
 refine⟨by rw[T5,T5],fun i => ?_,?_,fun i x hx => ?_⟩
 ·show Im ((D2 n t).sl.getD i .any) _;rw[R5,R5,show(t.kill l).get n i=Nx.flt p (t.get n i) from A2u n t _ _ p rfl i];exact A1Y hh _
 ·show(F1 (t.kill l).hp).length=(K8 (F1 t.hp) l).length;rw[F3,S9,F3];show(setAll (Z8 p t.hp) l).length=_;rw[A2r,P8]
 ·show ∃ y,(F1 (t.kill l).hp)[i]? = some y∧_;replace hx:(K8 (F1 t.hp) l)[i]? = some x:=hx;rw[I1];have eg:(t.kill l).hp[i]? = (setAll (Z8 p t.hp) l)[i]? := rfl;rw[A0Q,P8] at eg;rw[A0o,F3] at hx;by_cases hi:i∈l
  ·rw[E9 hi] at hx eg;split at hx
   ·rename_i h;rw[E9 h] at eg;cases hx;rw[eg];exact⟨_,rfl,trivial⟩
   ·cases hx
  ·rw[G6 hi,I1] at hx;rw[G6 hi,A0y] at eg;rw[eg];cases hb:t.hp[i]? with
   |none=>rw[hb] at hx;cases hx
   |some c =>
    rw[hb] at hx;simp only[F8,C3] at hx;subst hx;refine⟨_,rfl,?_⟩;cases c with
    |none=>trivial
    |some c=>exact A2R hh c
end
end Go.Proofs.YtkmhopbmpeiofaaGreat.Nx
