/- Guards and blocks stepped: sound, with no condition beyond those each lemma names. -/
import Derived.Test.YtkmhopbmpeiofaaGreatNxe
set_option linter.unusedVariables false
set_option linter.unusedSimpArgs false
namespace Go.Proofs.YtkmhopbmpeiofaaGreat.Nx
open Go Go.RowKit
structure Env (w:World) (N:NT) (M:MT) (hp:HP) (L:List (Nat×Nat)):Prop where
 hr:HR w N M 0 hp L
 nd:(L.map Prod.fst).Nodup
 own:∀ p∈L,p.1<w.heap.size∧∀ o,N p.1 o→o<p.2
 nlt:∀ b o,N b o→b<w.heap.size
 un:∀ k,hp.length≤k→M k=none
def Good (P : Program) (f : FuncId) : Prop := ∃ fn, P.funcs[f]? = some fn ∧ fn.body.isNone = false ∧ (fn.name == "runtime.NumGoroutine") = false
structure C0p (w:World) (N:NT) (M:MT) (L:List (Nat×Nat)) (Post:AV→HP→Prop) (r:Value) (w':World) (x:AV) (hp:HP) (N':NT) (M':MT) (L':List (Nat×Nat)):Prop where
 post:Post x hp
 rep:Rep w' N' M' x r []
 env:Env w' N' M' hp L'
 fr:FrN N (L.map Prod.fst) w w'
 mv:∀ k m m0,M' k=some (some m)→M k=some (some m0)→m0.len≤m.len∧(m.len=m0.len→m=m0)
 nup:∀ b o,N b o→N' b o
 ndn:∀ b o,N' b o→N b o∨w.heap.size≤b∨b∈L.map Prod.fst
 new:∀ p∈L',w.heap.size≤p.1∨p.1∈L.map Prod.fst
def AC(P:Program)(f:FuncId)(args:List AV)(hp0:HP)(Post:AV→HP→Prop):Prop :=
 Good P f∧∀ w N M L vs,Env w N M hp0 L→F5 w N M args vs [] →
  Calls P f ⟨vs⟩ w fun e w'=>∃ r,e=.returned r∧∃ x hp N' M' L',C0p w N M L Post r w' x hp N' M' L'
theorem AC.mono{P:Program}{f:FuncId}{args:List AV}{hp0:HP}{Post Post':AV→HP→Prop}(h:AC P f args hp0 Post)(hp:∀ x hp,Post x hp→Post' x hp):AC P f args hp0 Post' :=
 ⟨h.1,fun w N M L vs h1 h2=>(h.2 w N M L vs h1 h2).mono fun e w' ⟨r,e1,x,hp',N',M',L',b⟩=>⟨r,e1,x,hp',N',M',L',⟨hp _ _ b.post,b.rep,b.env,b.fr,b.mv,b.nup,b.ndn,b.new⟩⟩⟩
def Is(r:AV)(h:HP)(x:AV)(hp:HP):Prop:=x=r∧hp=h
def impA(n:Nat)(hp:HP):HP:=hp.map fun
 |some b=>some { b with rows:=m8 (· + n) b.rows,fz:=0 }
 |none=>none
def A7d(hp:HP):Bool:=hp.all fun
 |some b=>i7 b.rows
 |none=>true
section
variable {P:Program} {C:Ctx} {s:AS} {a:Act} {w w':World} {N N':NT} {M M':MT} {L L':List (Nat×Nat)}
theorem B8F{f:Nat→Nat}{sz:Nat}{rows:List AV}(h:∀ y∈rows,y.cells.length=sz):∀ y∈m8 f rows,y.cells.length=sz:=by
 intro y hy;rw[v6] at hy;obtain⟨y',hy',rfl⟩:=C5.1 hy;rw[A6g,Z4];exact h y' hy'
theorem HR.impA{n:Nat}{M'':MT}(hM:∀ j x,M' j=some x→M'' (j+n)=some x):∀ {hp:HP} {k:Nat} {L:List (Nat×Nat)},HR w N' M' k hp L→A7d hp=true→HR w N M'' (k+n) (impA n hp) L:=by
 intro hp;induction hp with
 |nil=>intro k L h _;cases h;exact .nil _
 |cons x hs ih =>
  intro k L h hf;simp only[A7d,d3,A6] at hf;cases h with
  |dead h1 h2 =>
   refine .dead (hM _ _ h1) ?_;rw[show k+n+1=k+1+n from by omega];exact ih h2 hf.2
  |live h1 h2 h3 =>
   refine .live (hM _ _ h1) ?_ ?_
   ·refine⟨by simp[h2.len,Z4],h2.sz,h2.fr,B8F h2.cl,?_,fun e => ?_,h2.rm,by simp only[Z4];exact h2.lo,fun i hi=>by simp at hi,h2.f0⟩
    ·have r:=(h2.rep.freshN (N':=N) (A6Y hf.1)).ren (f:=(· + n)) hM;rw[← A56] at r;exact r
    ·rw[h2.vt e];rfl
   ·rw[show k+n+1=k+1+n from by omega];exact ih h3 hf.2
theorem HR.impV{n:Nat}{M'':MT}(hM:∀ j x,M' j=some x→M'' (j+n)=some x):∀ {hp:HP} {k:Nat} {L:List (Nat×Nat)},HR w N' M' k hp L→HR w N' M'' (k+n) (Nx.impA n hp) L:=by
 intro hp;induction hp with
 |nil=>intro k L h;cases h;exact .nil _
 |cons x hs ih =>
  intro k L h;cases h with
  |dead h1 h2 =>
   refine .dead (hM _ _ h1) ?_;rw[show k+n+1=k+1+n from by omega];exact ih h2
  |live h1 h2 h3 =>
   refine .live (hM _ _ h1) ?_ ?_
   ·refine⟨by simp[h2.len,Z4],h2.sz,h2.fr,B8F h2.cl,?_,fun e => ?_,h2.rm,by simp only[Z4];exact h2.lo,fun i hi=>by simp at hi,h2.f0⟩
    ·have r:=h2.rep.ren (f:=(· + n)) hM;rw[← A56] at r;exact r
    ·rw[h2.vt e];rfl
   ·rw[show k+n+1=k+1+n from by omega];exact ih h3
theorem A6W(n:Nat)(hp:HP):(impA n hp).length=hp.length:=by simp[impA]
theorem Fr.keeps{w w':World}(h:Fr [] w w'):c7 w w':=by
 rintro ⟨b,o,p⟩ v hv;have hb:b<w.heap.size:=by
  rcases D9 b w.heap.size with h|h
  ·exact h
  ·simp[World.cell?,i9 h] at hv
 rw[← hv];exact World.cell?_of_block (h.block b hb (by simp))
theorem H4.after(h:H4 C s a w N M L){N1:NT}{M1:MT}{Post:AV→HP→Prop}{r:Value}{x:AV}{hp:HP}(b:C0p w N1 M1 [] Post r w' x hp N' M' L')(hx:m9 x=true)(hf:A7d hp=true) :
  ∃ M'',H4 C { s with hp:=s.hp++impA s.hp.length hp } a w' N M'' (L++L')∧Rep w' N M'' (ren (· + s.hp.length) x) r []:=by
 let M'':MT:=fun i=>if i<s.hp.length then M i else M' (i-s.hp.length)
 have hM:∀ j x,M' j=some x→M'' (j+s.hp.length)=some x:=fun j x e=>by
  have:¬ (j+s.hp.length<s.hp.length):=by omega
  simp only[M'',this,E5,V8,e]
 have hlt:∀ j x,M j=some x→j<s.hp.length:=fun j x e=>by
  rcases D9 j s.hp.length with q|q
  ·exact q
  ·rw[h.un j q] at e;cases e
 have g:Gr w w' N N M M'':=⟨b.fr.shp,fun k o hn=>World.cell?_of_block (b.fr.block k (h.nlt k o hn) (by simp)),fun _ _ hn=>hn,fun j x hj=>⟨x,by simp only[M'',hlt j x hj,H1,hj],fun m hm=>⟨m,hm,.inl rfl⟩⟩⟩;have hsame:∀ k,k<w.heap.size→t2 w w' k:=fun k hk _=>World.cell?_of_block (b.fr.block k hk (by simp));have hnew:∀ p∈L',w.heap.size≤p.1:=fun p hp=>(b.new p hp).resolve_right (by simp)
 refine⟨M'',?_,(b.rep.freshN hx).ren (f:=(· + s.hp.length)) hM⟩;refine⟨h.df,h.sl.gr g (fun _ hb=>by cases hb),?_,?_,?_,?_,h.nup,h.ndn,h.fr.trans b.fr.toFr (fun _ hy=>by cases hy) (fun k o hn=>g.cell k o (h.nup k o hn)),?_,?_,fun k hk=>h.mz k (by simp only[A5] at hk;omega)⟩
 ·refine HR.join (h.hp.gr g (fun p hp=>hsame p.1 (h.own p hp).1) fun i _ hi=>by
   rw[E1] at hi;simp only[M'',hi,H1]) ?_
  exact HR.impA hM b.env.hr hf
 ·rw[G0,J3];refine⟨h.nd,b.env.nd,fun x hx y hy e => ?_⟩;obtain⟨p,hp,rfl⟩:=C5.1 hx;obtain⟨q,hq,rfl⟩:=C5.1 hy;have h1:=(h.own p hp).1;have h2:=hnew q hq;omega
 ·intro p hp;rcases C9.1 hp with hp|hp
  ·obtain⟨h1,h2,h3⟩:=h.own p hp;exact⟨P7 h1 b.fr.size,h2,h3⟩
  ·have h1:=hnew p hp;refine⟨(b.env.own p hp).1,.inl (S2 h.fr.size h1),fun o hn => ?_⟩;have:=h.nlt _ _ hn;omega
 ·intro k o hn;exact P7 (h.nlt k o hn) b.fr.size
 ·intro k hk;simp only[A5,A6W] at hk;have:¬ k<s.hp.length:=by omega
  simp only[M'',this,E5];exact b.env.un _ (by omega)
 ·intro k m m0 h1 h0;rcases D9 k s.hp.length with q|q
  ·simp only[M'',q,H1] at h1;exact h.mv k m m0 h1 h0
  ·rw[h.mz k q] at h0;cases h0
theorem H4.afterV(h:H4 C s a w N M L){M1:MT}{Post:AV→HP→Prop}{r:Value}{x:AV}{hp:HP}(b:C0p w N M1 [] Post r w' x hp N' M' L') :
  ∃ M'',H4 C { s with hp:=s.hp++impA s.hp.length hp } a w' N' M'' (L++L')∧Rep w' N' M'' (ren (· + s.hp.length) x) r []:=by
 let M'':MT:=fun i=>if i<s.hp.length then M i else M' (i-s.hp.length)
 have hM:∀ j x,M' j=some x→M'' (j+s.hp.length)=some x:=fun j x e=>by
  have:¬ (j+s.hp.length<s.hp.length):=by omega
  simp only[M'',this,E5,V8,e]
 have hlt:∀ j x,M j=some x→j<s.hp.length:=fun j x e=>by
  rcases D9 j s.hp.length with q|q
  ·exact q
  ·rw[h.un j q] at e;cases e
 have g:Gr w w' N N' M M'':=⟨b.fr.shp,fun k o hn=>World.cell?_of_block (b.fr.block k (h.nlt k o hn) (by simp)),b.nup,fun j x hj=>⟨x,by simp only[M'',hlt j x hj,H1,hj],fun m hm=>⟨m,hm,.inl rfl⟩⟩⟩;have hsame:∀ k,k<w.heap.size→t2 w w' k:=fun k hk _=>World.cell?_of_block (b.fr.block k hk (by simp));have hnew:∀ p∈L',w.heap.size≤p.1:=fun p hp=>(b.new p hp).resolve_right (by simp)
 refine⟨M'',?_,b.rep.ren (f:=(· + s.hp.length)) hM⟩;refine⟨h.df,h.sl.gr g (fun _ hb=>by cases hb),?_,?_,?_,?_,fun k o hn=>b.nup k o (h.nup k o hn),fun k o hn => ?_,h.fr.trans b.fr.toFr (fun _ hy=>by cases hy) (fun k o hn=>g.cell k o (h.nup k o hn)),?_,?_,fun k hk=>h.mz k (by simp only[A5] at hk;omega)⟩
 ·refine HR.join (h.hp.gr g (fun p hp=>hsame p.1 (h.own p hp).1) fun i _ hi=>by
   rw[E1] at hi;simp only[M'',hi,H1]) ?_
  exact HR.impV hM b.env.hr
 ·rw[G0,J3];refine⟨h.nd,b.env.nd,fun x hx y hy e => ?_⟩;obtain⟨p,hp,rfl⟩:=C5.1 hx;obtain⟨q,hq,rfl⟩:=C5.1 hy;have h1:=(h.own p hp).1;have h2:=hnew q hq;omega
 ·intro p hp;rcases C9.1 hp with hp|hp
  ·obtain⟨h1,h2,h3⟩:=h.own p hp;refine⟨P7 h1 b.fr.size,h2,fun o hn => ?_⟩;rcases b.ndn _ _ hn with q|q|q
   ·exact h3 o q
   ·omega
   ·cases q
  ·have h1:=hnew p hp;exact⟨(b.env.own p hp).1,.inl (S2 h.fr.size h1),(b.env.own p hp).2⟩
 ·exact fun k o hn=>b.env.nlt k o hn
 ·rcases b.ndn _ _ hn with q|q|q
  ·exact h.ndn _ _ q
  ·exact .inr (.inl (S2 h.fr.size q))
  ·cases q
 ·intro k hk;simp only[A5,A6W] at hk;have:¬ k<s.hp.length:=by omega
  simp only[M'',this,E5];exact b.env.un _ (by omega)
 ·intro k m m0 h1 h0;rcases D9 k s.hp.length with q|q
  ·simp only[M'',q,H1] at h1;exact h.mv k m m0 h1 h0
  ·rw[h.mz k q] at h0;cases h0
end
def C5l(P:Program)(s:AS)(f:FuncId)(args:List AV)(d:Option Tmp)(K:AS→Prop):Prop :=
 ∃ Post,AC P f (args.map (vw s.hp 8)) [] Post∧∀ x hp,Post x hp→m9 x=true∧A7d hp=true∧K (AS.put { s with hp:=s.hp++impA s.hp.length hp } d (ren (· + s.hp.length) x))
def C5k(P:Program)(s:AS)(f:FuncId)(args:List AV)(d:Option Tmp)(K:AS→Prop):Prop :=
 args.all ci=true∧∃ Post,AC P f args [] Post∧∀ x hp,Post x hp→K (AS.put { s with hp:=s.hp++impA s.hp.length hp } d (ren (· + s.hp.length) x))
inductive A2s (P:Program) (S:Bool) (s:AS) (f:FuncId) (args:List AV) (d:Option Tmp) (K:AS→Prop):Prop
 |a (h:C5l P s f args d K)
 |v (h:C5k P s f args d K)
 |m (hS:S=true) (hg:Good P f) (h:∀ (C:Ctx) (a:Act) (w:World) (N:NT) (M:MT) (L:List (Nat×Nat)) (vs:List Value),H4 C s a w N M L→F5 w N M args vs [] →
   Calls P f ⟨vs⟩ w fun e w'=>∃ r,e=.returned r∧∃ s',K s'∧M8 C s' (a.put d r) w')
section
variable {P:Program} {C:Ctx} {s:AS} {a:Act} {w w':World} {N N':NT} {M M':MT} {L L':List (Nat×Nat)}
theorem B8g(h:H4 C s a w N M L){f:FuncId}{args:List AV}{vs:List Value}(hr:F5 w N M args vs []){d:Option Tmp}{K:AS→Prop}(hc:C5l P s f args d K) :
  Calls P f ⟨vs⟩ w fun e w'=>∃ r,e=.returned r∧c7 w w'∧∃ s',K s'∧M8 C s' (a.put d r) w':=by
 obtain⟨Post,hac,hk⟩:=hc
 let N1:NT:=fun b o=>N b o∨(b∈L.map Prod.fst∧b<w.heap.size)
 have hargs:F5 w N1 (fun _=>none) (args.map (vw s.hp 8)) vs []:=by
  refine F5.mapG (fun x v K hx hK=>B6H h.hp (fun _ _ hn=>.inl hn) (fun p hp o=>.inr ⟨L9 hp,(h.own p hp).1⟩) 8 x v K hx hK) hr (fun b hb=>by cases hb)
 have henv:Env w N1 (fun _=>none) [] []:=⟨.nil _,by simp,fun p hp=>(by cases hp),fun b o hn=>hn.elim (h.nlt b o) (·.2),fun _ _=>rfl⟩;refine(hac.2 w N1 (fun _=>none) [] vs henv hargs).mono fun e w' ⟨r,e1,x,hp,N',M',L',b⟩=>⟨r,e1,Fr.keeps b.fr.toFr,?_⟩;obtain⟨f1,f2,f3⟩:=hk x hp b.post;obtain⟨M'',h1,h2⟩:=h.after b f1 f2;exact⟨_,f3,N,M'',_,h1.put d h2⟩
theorem B73(h:H4 C s a w N M L){f:FuncId}{args:List AV}{vs:List Value}(hr:F5 w N M args vs []){d:Option Tmp}{K:AS→Prop}(hc:C5k P s f args d K) :
  Calls P f ⟨vs⟩ w fun e w'=>∃ r,e=.returned r∧c7 w w'∧∃ s',K s'∧M8 C s' (a.put d r) w':=by
 obtain⟨hci,Post,hac,hk⟩:=hc;have hargs:F5 w N (fun _=>none) args vs []:=hr.ciM (by rw[A1e];exact hci);have henv:Env w N (fun _=>none) [] []:=⟨.nil _,by simp,fun p hp=>(by cases hp),fun b o hn=>h.nlt b o hn,fun _ _=>rfl⟩;refine(hac.2 w N (fun _=>none) [] vs henv hargs).mono fun e w' ⟨r,e1,x,hp,N',M',L',b⟩=>⟨r,e1,Fr.keeps b.fr.toFr,?_⟩;have f3:=hk x hp b.post;obtain⟨M'',h1,h2⟩:=h.afterV b
 exact⟨_,f3,N',M'',_,h1.put d h2⟩
end
open Go Go.RowKit
section
variable {P:Program} {ops:Array Oper} {Q:Exit→Act→World→Prop} {md:Region.Mode} {q:Nat→Bool}
def gOp(P:Program)(ops:Array Oper)(Q:Exit→Act→World→Prop)(q:Nat→Bool)(j:Nat)(K:Act→World→Prop)(a:Act)(w:World):Prop :=
 wpOp P ops Q j (fun a' w'=>(q j=true→c7 w w')∧K a' w') a w
def B7n(P:Program)(md:Region.Mode)(ops:Array Oper)(Q:Exit→Act→World→Prop)(q:Nat→Bool):Nat→Array Bool→Act→World→Prop
 |0,listed,a,w=>Region.ready md ops listed=[]∧Q .normal a w
 |fuel+1,listed,a,w =>
  (Region.ready md ops listed=[]→Q .normal a w) ∧
  ∀ i∈Region.ready md ops listed,gOp P ops Q q i (B7n P md ops Q q fuel (listed.setIfInBounds i true)) a w
theorem B6l{j:Nat}{K K':Act→World→Prop}{a:Act}{w:World}(h:∀ a w,K a w→K' a w)(hh:gOp P ops Q q j K a w):gOp P ops Q q j K' a w :=
 wpOp_mono (fun _ _ ⟨h1,h2⟩=>⟨h1,h _ _ h2⟩) hh
theorem A5b:∀ (fuel:Nat) (listed:Array Bool) (a:Act) (w:World),B7n P md ops Q q fuel listed a w→wpAny P md ops Q fuel listed a w
 |0,_,_,_,h=>h
 |fuel+1,_,_,_,h=>⟨h.1,fun i hi=>wpOp_mono (fun a w hh=>A5b fuel _ a w hh.2) (h.2 i hi)⟩
def YK(P:Program)(ops:Array Oper)(lk:Bool)(o:Oper)(v:Value)(a:Act)(w:World):Prop :=
 (Region.wanted o (yielded ops a.tmps)=true∧∀ w',(lk=true→c7 w w')→(execOp a.eval o).run P w'=.ok (.value v) w') ∨
 (Region.wanted o (yielded ops a.tmps)=false∧v=undef)
theorem YK.gOp{i:Nat}{o:Oper}{v:Value}{a:Act}{lk:Bool}{w:World}(hi:ops[i]? = some o)(hy:YK P ops lk o v a w)
  {K:Act→World→Prop} (h:K (a.put o.dst v) w):gOp P ops Q q i K a w:=by
 unfold Nx.gOp Go.wpOp;simp only[hi];rcases hy with⟨hw,hv⟩|⟨hw,rfl⟩
 ·simp only[hw,H1,Oper.wp,hv w (fun _=>c7.refl w),Oper.upon];exact .inl ⟨fun _=>c7.refl w,h⟩
 ·simp only[hw,E0,E5];exact⟨fun _=>c7.refl w,h⟩
theorem YK.of_same{lk:Bool}{o:Oper}{v:Value}{a a':Act}{w w':World}(hy:YK P ops lk o v a w)(hk:lk=true→c7 w w')(he:execOp a'.eval o=execOp a.eval o)
  (hw:Region.wanted o (yielded ops a'.tmps)=Region.wanted o (yielded ops a.tmps)):YK P ops lk o v a' w':=by
 unfold YK at *
 rw[he,hw];rcases hy with⟨h1,h2⟩|h
 ·exact .inl ⟨h1,fun w'' h3=>h2 w'' fun e=>(hk e).trans (h3 e)⟩
 ·exact .inr h
theorem C6S{j:Nat}{oi oj:Oper}{v:Value}{lk:Bool}(hj:ops[j]? = some oj)(hap:oi.apart ops oj=true)
  (hsi:∀ cs b,oi.op ≠ .select cs b) (hsj:∀ cs b,oj.op ≠ .select cs b)
  (hQ:∀ c a w,¬ Q (.panic c) a w) {K:Act→World→Prop} {a:Act} {w:World}
  (hy:YK P ops lk oi v a w) (hl:lk=true→q j=true) (h:gOp P ops Q q j K (a.put oi.dst v) w) :
  gOp P ops Q q j (fun a' w'=>YK P ops lk oi v a' w'∧K (a'.put oi.dst v) w') a w:=by
 obtain⟨h1,h2,h3⟩:=Oper.apart_spec hap;have I6:∀ u w',(q j=true→c7 w w')→YK P ops lk oi v (a.put oj.dst u) w':=fun u w' hk =>
  hy.of_same (fun e=>hk (hl e)) (execOp_put oi hsi a oj.dst u h3) (wanted_put oi a oj.dst u h3)
 have keepD:∀ d u w',(q j=true→c7 w w')→YK P ops lk oi v (({ a with defers:=d :: a.defers }:Act).put oj.dst u) w':=fun d u w' hk =>
  (hy.of_same (a':={ a with defers:=d :: a.defers }) (w':=w') (fun e=>hk (hl e)) rfl rfl).of_same (fun _=>c7.refl _) (execOp_put oi hsi _ oj.dst u h3) (wanted_put oi _ oj.dst u h3)
 unfold gOp wpOp at *
 simp only[hj] at *
 rw[wanted_put oj a oi.dst v h1] at h;split
 ·rename_i hw;simp only[hw,H1] at h;rcases h with h|⟨hasks,hlets⟩
  case inr=>exact .inr ⟨by unfold Oper.asks at *; rw[execOp_put oj hsj a oi.dst v h1] at hasks;exact hasks,hlets⟩
  refine .inl ?_;unfold Oper.wp at *
  rw[execOp_put oj hsj a oi.dst v h1] at h;generalize (execOp a.eval oj).run P w=r at *
  cases r with
  |ok n w' =>
   cases n<;>simp only[Oper.upon] at h ⊢
   case value u=>exact⟨h.1,I6 u w' h.1,by rw[← Act.put_comm a v u h2];exact h.2⟩
   case skip=>exact⟨h.1,I6 _ w' h.1,by rw[← Act.put_comm a v undef h2];exact h.2⟩
   case defer d =>
    refine⟨h.1,keepD d _ w' h.1,?_⟩;rw[← Act.put_comm _ v undef h2,← Act.put_defers];exact h.2
   case enter f args =>
    refine Calls.mono h fun e w'' he => ?_;cases e with
    |returned u=>exact⟨he.1,I6 u w'' he.1,by rw[← Act.put_comm a v u h2];exact he.2⟩
    |panicked c=>exact(hQ _ _ _ he).elim
    |outgrown=>exact he
   case row row args=>exact Rows.mono h fun u w'' he=>⟨he.1,I6 u w'' he.1,by rw[← Act.put_comm a v u h2];exact he.2⟩
  |halt x w' =>
   cases x<;>simp only[Oper.upon] at h ⊢
   case panic u=>exact(hQ _ _ _ h).elim
 ·rename_i hw;simp only[hw] at h;exact⟨h.1,I6 _ w h.1,by rw[← Act.put_comm a v undef h2];exact h.2⟩
theorem B2h{i:Nat}{oi:Oper}{v:Value}{lk:Bool}(hi:ops[i]? = some oi)(hsel:∀ (j:Nat) (o:Oper) cs b,ops[j]? = some o→o.op ≠ .select cs b)
  (hQ:∀ c a w,¬ Q (.panic c) a w) {D:Nat→Prop} (hD:∀ j oj,ops[j]? = some oj→D j→∃ e∈oj.after,Region.binds md e=true∧(e.on=i∨D e.on)) :
  ∀ (fuel:Nat) (listed:Array Bool) (a:Act) (w:World),(∀ k,D k→listed.getD k false=false) →
   (∀ j oj,ops[j]? = some oj→j≠i→listed.getD j true=false→¬ D j→oi.apart ops oj=true∧(lk=true→q j=true)) →
   i∈Region.ready md ops listed→YK P ops lk oi v a w →
   B7n P md ops Q q fuel (listed.setIfInBounds i true) (a.put oi.dst v) w→B7n P md ops Q q (fuel+1) listed a w:=by
 intro fuel;induction fuel with
 |zero =>
  intro listed a w _ _ hr hy H;refine⟨fun h=>(by rw[h] at hr;cases hr),fun j hj => ?_⟩;by_cases hji:j=i
  ·subst hji;exact hy.gOp hi H
  ·have:=ready_mono hj hji;rw[H.1] at this;cases this
 |succ fuel ih =>
  intro listed a w hDl hfree hr hy H;refine⟨fun h=>(by rw[h] at hr;cases hr),fun j hj => ?_⟩;by_cases hji:j=i
  ·subst hji;exact hy.gOp hi H
  ·have h1:=H.2 j (ready_mono hj hji);obtain⟨hjun,oj,hoj,hall⟩:=mem_ready.1 hj;have hnot:∀ e∈oj.after,Region.binds md e=true→e.on≠i:=fun e he hb heq=>by
    have h1:=hall e he hb;have h0:=(mem_ready.1 hr).1;rw[heq] at h1;rcases D9 i listed.size with h'|h'
    ·simp[h'] at h0 h1;rw[h0] at h1;cases h1
    ·simp[i9 h'] at h1
   have hnD:¬ D j:=fun hDj=>by
    obtain⟨e,he,hb,h2⟩:=hD j oj hoj hDj;rcases h2 with h2|h2
    ·exact hnot e he hb h2
    ·have h3:=hall e he hb;rw[hDl _ h2] at h3;cases h3
   obtain⟨f1,f2⟩:=hfree j oj hoj hji hjun hnD;have h2:=C6S hoj f1 (fun cs b=>hsel i oi cs b hi) (fun cs b=>hsel j oj cs b hoj) hQ hy f2 h1;have hfree':∀ k ok,ops[k]? = some ok→k≠i→(listed.setIfInBounds j true).getD k true=false →
     ¬ D k→oi.apart ops ok=true∧(lk=true→q k=true):=fun k ok hk hki hun hno=>by
    refine hfree k ok hk hki ?_ hno;by_cases hjk:j=k
    ·subst hjk;exact hjun
    ·rw[getD_set_ne true hjk] at hun;exact hun
   have hDl':∀ k,D k→(listed.setIfInBounds j true).getD k false=false:=fun k hk=>by
    have hjk:j≠k:=fun e=>by subst e;exact hnD hk
    have h1:=hDl k hk;rcases D9 k listed.size with hl|hl
    ·simp only[W5,A3F hjk] at h1 ⊢; exact h1
    ·simp only[W5,A3F hjk] at h1 ⊢; exact h1
   refine B6l (fun a' w' h3=>ih (listed.setIfInBounds j true) a' w' hDl' hfree' (ready_mono hr (Ne.symm hji)) h3.1 ?_) h2;rw[Array.setIfInBounds_comm _ _ hji];exact h3.2
end
open Go Go.RowKit
structure NOp where
 d:Option Tmp
 g:Option (Tmp×Bool)
 n:NO
inductive RT where
 |done
 |op (o:NOp) (k:RT)
 |both (a b:RT)
def B5u:Op→Option NO
 |.call { callee:=.value (.func f),args,argTypes:=_ }=>some (.call f args.toList)
 |.call { callee:=.value (.tmp t),args,argTypes:=_ }=>some (.callv (.tmp t) args.toList)
 |_=>none
def A7z(P:Program)(op:Op):Option NO :=
 match nOp P op with
 |some n=>some n
 |none=>match B3n P op with
  |some n=>some n
  |none=>B5u op
def B6J(ops:Array Oper)(o:Oper):Option (Option (Tmp×Bool)) :=
 match o.guard with
 |none=>some none
 |some (g,b)=>match (ops[g]?).bind (·.dst) with
  |some t=>some (some (t,b))
  |none=>none
def B0d(P:Program)(ops:Array Oper)(o:Oper):Option NOp :=
 match A7z P o.op,B6J ops o with
 |some n,some g=>some { d:=o.dst,g:=g,n:=n }
 |_,_=>none
def NO.calls:NO→Bool
 |.call _ _=>true
 |.callv _ _=>true
 |_=>false
def A3n(P:Program)(S:Bool)(ops:Array Oper)(j:Nat):Bool :=
 match ops[j]? with
 |some o=>match A7z P o.op with
  |some n=>n.reads||(n.quiet&&(!S || !n.calls))
  |none=>false
 |none=>true
def A12(i:Nat):List Oper→List Bool→List Bool
 |[],acc=>acc
 |o :: os,acc=>A12 i os (acc++[o.after.any fun e=>Region.binds .any e&&(e.on==i||acc.getD e.on false)])
def A19(P:Program)(S:Bool)(ops:Array Oper)(listed:Array Bool)(i:Nat):Bool :=
 match ops[i]? with
 |none=>false
 |some oi=>match A7z P oi.op with
  |none=>false
  |some n=>n.reads&&(fun d=>(List.range ops.size).all fun j=>(!d.getD j false || !listed.getD j true)&&(j==i||listed.getD j true||d.getD j false||match ops[j]? with
   |some oj=>oi.apart ops oj&&(!n.looks||A3n P S ops j)
   |none=>true)) (A12 i ops.toList [])
def A4J(P:Program)(ops:Array Oper)(k:Array Bool→Option RT)(listed:Array Bool)(i:Nat):Option RT :=
 match ops[i]? with
 |some o=>match B0d P ops o,k (listed.setIfInBounds i true) with
  |some n,some t=>some (.op n t)
  |_,_=>none
 |none=>none
def A5M(f:Nat→Option RT):List Nat→Option RT
 |[]=>some .done
 |[i]=>f i
 |i :: is=>match f i,A5M f is with
  |some a,some b=>some (.both a b)
  |_,_=>none
def A1d(P:Program)(S:Bool)(ops:Array Oper):Nat→Array Bool→Option RT
 |0,listed=>if (Region.ready .any ops listed).isEmpty then some .done else none
 |fuel+1,listed =>
  match (Region.ready .any ops listed).find? (A19 P S ops listed) with
  |some i=>A4J P ops (A1d P S ops fuel) listed i
  |none=>A5M (A4J P ops (A1d P S ops fuel) listed) (Region.ready .any ops listed)
def B7Q(P:Program)(ops:Array Oper):List Oper→Option RT
 |[]=>some .done
 |o :: os=>match B0d P ops o,B7Q P ops os with
  |some n,some k=>some (.op n k)
  |_,_=>none
inductive NC where
 |skip
 |reg (S:Bool) (t:RT)
 |regs (t s:RT)
 |seq (a b:NC)
 |cond (c:Operand) (a b:NC)
 |block (id:Nat) (b:NC)
 |loop (b:NC)
 |exit (id:Nat)
 |ret
def A64(P:Program)(S:Bool)(ops:Array Oper):Nat→Array Bool→Bool
 |0,listed=>(Region.ready .any ops listed).isEmpty
 |fuel+1,listed =>
  match (Region.ready .any ops listed).find? (A19 P S ops listed) with
  |some i=>A64 P S ops fuel (listed.setIfInBounds i true)
  |none=>match Region.ready .any ops listed with
   |[]=>true
   |[i]=>A64 P S ops fuel (listed.setIfInBounds i true)
   |_=>false
def B5T(P:Program)(S:Bool)(ops:Array Oper):Nat→Array Bool→Nat→Nat
 |0,_,b=>b-1
 |fuel+1,listed,b=>match b with
  |0=>0
  |b+1=>match (Region.ready .any ops listed).find? (A19 P S ops listed) with
   |some i=>B5T P S ops fuel (listed.setIfInBounds i true) (b+1)
   |none=>match Region.ready .any ops listed with
    |[]=>b
    |l=>l.foldl (fun b i=>B5T P S ops fuel (listed.setIfInBounds i true) b) (b+1)
def B4u(ops:Array Oper):Bool :=
 Nat.ble 28 ops.size||Nat.ble 12 (ops.toList.filter fun o=>match o.op with
  |.call { callee:=.value _,args:=_,argTypes:=_ }=>true
  |_=>false).length
def C5u(ops:Array Oper):Nat:=bif Nat.ble ops.size 19 then 64 else 25
def B6e(P:Program)(ops:Array Oper):Option NC :=
 match Nat.ble 64 ops.size with
 |true=>match A1d P false ops ops.size (Array.replicate ops.size false) with
  |some t=>some (.reg false t)
  |none=>none
 |false=>match A64 P true ops ops.size (Array.replicate ops.size false) with
  |true=>match A1d P true ops ops.size (Array.replicate ops.size false) with
   |some t=>some (.reg true t)
   |none=>none
  |false=>match A1d P false ops ops.size (Array.replicate ops.size false) with
   |some t=>match !B4u ops&&Nat.blt 0 (B5T P true ops ops.size (Array.replicate ops.size false) (C5u ops)) with
    |true=>match A1d P true ops ops.size (Array.replicate ops.size false) with
     |some s=>some (.regs t s)
     |none=>some (.reg false t)
    |false=>some (.reg false t)
   |none=>none
/-! The same A1d, found with less work. -/
def B9X(i:Nat):List Oper→Nat→Nat→Nat
 |[],_,m=>m
 |o :: os,k,m=>B9X i os (k+1) (bif o.after.toList.any fun e=>Region.binds .any e&&(Nat.beq e.on i||m.testBit e.on) then m ||| (1 <<< k) else m)
theorem C5K(a b:Nat):(a==b)=Nat.beq a b:=by
 rw[Bool.eq_iff_iff,j7,F4]
theorem B4K(i:Nat):∀ (os:List Oper) (acc:List Bool) (m:Nat),(∀ j,acc.getD j false=m.testBit j)→∀ j,(A12 i os acc).getD j false=(B9X i os acc.length m).testBit j
 |[],acc,m,h,j=>h j
 |o :: os,acc,m,h,j=>by
  rw[A12,B9X];have e:(o.after.any fun e=>Region.binds .any e&&(e.on==i||acc.getD e.on false))=(o.after.toList.any fun e=>Region.binds .any e&&(Nat.beq e.on i||m.testBit e.on)):=by
   rw[← Array.any_toList];congr 1;funext e;rw[h e.on,C5K]
  have:=B4K i os (acc++[o.after.any fun e=>Region.binds .any e&&(e.on==i||acc.getD e.on false)]) (bif o.after.toList.any fun e=>Region.binds .any e&&(Nat.beq e.on i||m.testBit e.on) then m ||| (1 <<< acc.length) else m) (fun j=>by
   rw[e];have h0:=h acc.length;have hj:=h j;simp only[B3,A0j] at h0 hj ⊢;rw[T1 (B9 _)] at h0;simp only[Option.getD_none] at h0;rcases Nat.lt_trichotomy j acc.length with hlt|rfl|hgt
   ·rw[E9 hlt];rw[hj];cases (o.after.toList.any fun e=>Region.binds .any e&&(Nat.beq e.on i||m.testBit e.on)) with
    |false=>rfl
    |true =>
     rw[A4,A7p,A3B];simp;omega
   ·rw[G6 (Nat.lt_irrefl _),R7];cases (o.after.toList.any fun e=>Region.binds .any e&&(Nat.beq e.on i||m.testBit e.on)) with
    |false=>rw[A9,← h0];rfl
    |true =>
     rw[A4,A7p,A3B];simp
   ·rw[G6 (by omega),T1 (by simp;omega)];rw[T1 (by omega)] at hj;simp only[Option.getD_none] at hj ⊢;cases (o.after.toList.any fun e=>Region.binds .any e&&(Nat.beq e.on i||m.testBit e.on)) with
    |false=>exact hj
    |true =>
     rw[A4,A7p,A3B,← hj];have:(1:Nat).testBit (j-acc.length)=false:=by
      obtain⟨k,hk⟩:∃ k,j-acc.length=k+1:=⟨j-acc.length-1,by omega⟩;rw[hk,Nat.testBit_succ];simp
     rw[this];simp) j
  rw[A5,J5] at this;exact this
def B6V(P:Program)(S:Bool)(o:Oper):Bool :=
 match A7z P o.op with
 |some n=>n.reads||(n.quiet&&(!S || !n.calls))
 |none=>false
def B2N(P:Program)(S:Bool)(ops:Array Oper)(oi:Oper)(lk:Bool)(i D:Nat):List Oper→List Bool→Nat→Bool
 |[],_,_=>true
 |oj :: os,ls,j=>(!(D.testBit j) || !(ls.headD true))&&((Nat.beq j i||(ls.headD true||(D.testBit j||(oi.apart ops oj&&(!lk||B6V P S oj)))))&&B2N P S ops oi lk i D os ls.tail (j+1))
def A5g(P:Program)(S:Bool)(ops:Array Oper)(listed:Array Bool)(i:Nat):Bool :=
 match ops[i]? with
 |none=>false
 |some oi=>match A7z P oi.op with
  |none=>false
  |some n=>n.reads&&B2N P S ops oi n.looks i (B9X i ops.toList 0 0) ops.toList listed.toList 0
theorem B0C(P:Program)(S:Bool)(ops:Array Oper)(oi:Oper)(lk:Bool)(i D:Nat):∀ (os:List Oper) (ls:List Bool) (k:Nat),
  B2N P S ops oi lk i D os ls k=(List.range os.length).all fun j=>(!(D.testBit (k+j)) || !(ls.getD j true))&&(k+j==i||ls.getD j true||D.testBit (k+j)||match os[j]? with
   |some oj=>oi.apart ops oj&&(!lk||B6V P S oj)
   |none=>true)
 |[],_,_=>rfl
 |oj :: os,ls,k=>by
  rw[B2N,B0C P S ops oi lk i D os ls.tail (k+1),B5,A2X,d3,X5];have hh:ls.headD true=ls.getD 0 true:=by cases ls<;>rfl
  have ht:∀ j,ls.tail.getD j true=ls.getD (j+1) true:=fun j=>by cases ls<;>simp[List.getD]
  rw[hh];simp only[E8,← Bool.and_assoc,← Bool.or_assoc];rw[H2,C5K];congr 1;congr 1;funext j;simp only[Function.comp,ht,A0K,Nat.succ_eq_add_one,show k+1+j=k+(j+1) from by omega]
theorem C3m(P:Program)(S:Bool)(ops:Array Oper)(listed:Array Bool)(i:Nat):A5g P S ops listed i=A19 P S ops listed i:=by
 unfold A5g A19;cases hoi:ops[i]? with
 |none=>rfl
 |some oi =>
  simp only;cases hn:A7z P oi.op with
  |none=>rfl
  |some n =>
   simp only;congr 1;rw[B0C,A1O];congr 1;funext j;have hd:=B4K i ops.toList [] 0 (fun j=>by simp) j;rw[C8] at hd;rw[E1,hd];have hl:listed.toList.getD j true=listed.getD j true:=by simp[List.getD,W5]
   rw[hl,Array.getElem?_toList];congr 1;congr 1;unfold A3n B6V;cases ops[j]? with
   |none=>rfl
   |some oj=>rfl
def A6o(P:Program)(ops:Array Oper)(free:Array Bool→Nat→Bool):Nat→Array Bool→Option RT
 |0,listed=>if (Region.ready .any ops listed).isEmpty then some .done else none
 |fuel+1,listed =>
  match (Region.ready .any ops listed).find? (free listed) with
  |some i=>A4J P ops (A6o P ops free fuel) listed i
  |none=>A5M (A4J P ops (A6o P ops free fuel) listed) (Region.ready .any ops listed)
theorem B5Y(P:Program)(S:Bool)(ops:Array Oper):∀ fuel,A6o P ops (A19 P S ops) fuel=A1d P S ops fuel
 |0=>by funext listed;rfl
 |fuel+1=>by
  funext listed;simp only[A6o,A1d,B5Y P S ops fuel]
def A5Y(P:Program)(ops:Array Oper)(free:Array Bool→Nat→Bool):Nat→Array Bool→Bool
 |0,listed=>(Region.ready .any ops listed).isEmpty
 |fuel+1,listed =>
  match (Region.ready .any ops listed).find? (free listed) with
  |some i=>A5Y P ops free fuel (listed.setIfInBounds i true)
  |none=>match Region.ready .any ops listed with
   |[]=>true
   |[i]=>A5Y P ops free fuel (listed.setIfInBounds i true)
   |_=>false
theorem B0G(P:Program)(S:Bool)(ops:Array Oper):∀ fuel,A5Y P ops (A19 P S ops) fuel=A64 P S ops fuel
 |0=>by funext listed;rfl
 |fuel+1=>by
  funext listed;simp only[A5Y,A64,B0G P S ops fuel]
def B54(ops:Array Oper)(free:Array Bool→Nat→Bool):Nat→Array Bool→Nat→Nat
 |0,_,b=>b-1
 |fuel+1,listed,b=>match b with
  |0=>0
  |b+1=>match (Region.ready .any ops listed).find? (free listed) with
   |some i=>B54 ops free fuel (listed.setIfInBounds i true) (b+1)
   |none=>match Region.ready .any ops listed with
    |[]=>b
    |l=>l.foldl (fun b i=>B54 ops free fuel (listed.setIfInBounds i true) b) (b+1)
theorem B8Z(P:Program)(S:Bool)(ops:Array Oper):∀ fuel,B54 ops (A19 P S ops) fuel=B5T P S ops fuel
 |0=>by funext listed b;rfl
 |fuel+1=>by
  funext listed b;cases b with
  |zero=>rfl
  |succ b=>simp only[B54,B5T,B8Z P S ops fuel]
def B4T(P:Program)(ops:Array Oper):Option NC :=
 match Nat.ble 64 ops.size with
 |true=>match A6o P ops (A5g P false ops) ops.size (Array.replicate ops.size false) with
  |some t=>some (.reg false t)
  |none=>none
 |false=>match A5Y P ops (A5g P true ops) ops.size (Array.replicate ops.size false) with
  |true=>match A6o P ops (A5g P true ops) ops.size (Array.replicate ops.size false) with
   |some t=>some (.reg true t)
   |none=>none
  |false=>match A6o P ops (A5g P false ops) ops.size (Array.replicate ops.size false) with
   |some t=>match !B4u ops&&Nat.blt 0 (B54 ops (A5g P true ops) ops.size (Array.replicate ops.size false) (C5u ops)) with
    |true=>match A6o P ops (A5g P true ops) ops.size (Array.replicate ops.size false) with
     |some s=>some (.regs t s)
     |none=>some (.reg false t)
    |false=>some (.reg false t)
   |none=>none
theorem C1h(P:Program)(S:Bool)(ops:Array Oper):A5g P S ops=A19 P S ops:=funext fun l=>funext fun i=>C3m P S ops l i
theorem C4G(P:Program)(ops:Array Oper):B4T P ops=B6e P ops:=by
 unfold B4T B6e;simp only[C1h,B5Y,B0G,B8Z]
def W9(P:Program):Code→Option NC
 |.skip=>some .skip
 |.region _ ops false=>match B7Q P ops ops.toList with
  |some t=>some (.reg true t)
  |none=>none
 |.region _ ops true=>if Region.noSelect ops then B4T P ops else none
 |.seq a b=>match W9 P a,W9 P b with
  |some x,some y=>some (.seq x y)
  |_,_=>none
 |.cond c a b=>match W9 P a,W9 P b with
  |some x,some y=>some (.cond c x y)
  |_,_=>none
 |.block id b=>match W9 P b with
  |some y=>some (.block id y)
  |none=>none
 |.loop b=>match W9 P b with
  |some y=>some (.loop y)
  |none=>none
 |.exit id=>some (.exit id)
 |.ret=>some .ret
 |_=>none
inductive NR where
 |t (x:Tmp)
 |c (x:Tmp) (n:Nat) (ag:Bool)
def B1E(P:Program):ResultVar→Option NR
 |.tmp t=>some (.t t)
 |.cell a t=>if P.cellsOf t=0 then none else match P.underlying t with
  |some _=>some (.c a (if K9 P t then P.cellsOf t else 1) (K9 P t))
  |none=>none
structure NF where
 body:NC
 res:List NR
 n:Nat
def nFn(P:Program)(f:FuncId):Option NF :=
 match P.funcs[f]? with
 | some fn => if fn.name == "runtime.NumGoroutine" then none else match fn.body with
  |some c=>match W9 P c,v8 (fn.results.toList.map (B1E P)) with
   |some b,some r=>some { body:=b,res:=r,n:=fn.ntmps }
   |_,_=>none
  |none=>none
 |none=>none
open Go Go.RowKit
def gd(b want:Bool)(A B:Prop):Prop:=(b=want→A)∧(b = !want→B)
def A8e(P:Program)(S:Bool)(s:AS)(o:NOp)(K:AS→Prop):Prop :=
 match o.n with
 |.call f args=>A2s P S s f (args.map s.ev) o.d K
 |.callv x args=>match s.ev x with
  |.fn f cap=>A2s P S s f (args.map s.ev++cap) o.d K
  |_=>False
 |n=>if n.reads then apc s n∧K (s.put o.d (apv s n)) else ae s o.d K n
def stW(P:Program)(S:Bool)(s:AS)(o:NOp)(K:AS→Prop):Prop :=
 match o.g with
 |none=>A8e P S s o K
 |some (t,want)=>match s.ev (.tmp t) with
  |.val (.bool b)=>gd b want (A8e P S (s.put (some t) (.val (.bool want))) o K) (K ((s.put (some t) (.val (.bool !want))).put o.d (.val undef)))
  |.val (.tuple ⟨[]⟩)=>K (s.put o.d (.val undef))
  |_=>False
section
variable {P:Program} {S:Bool} {C:Ctx} {s:AS} {a:Act} {w w':World} {N:NT} {M:MT} {L:List (Nat×Nat)}
theorem evs(h:H4 C s a w N M L)(args:List Operand):F5 w N M (args.map s.ev) (args.map a.eval) []:=by
 induction args with
 |nil=>exact .nil
 |cons x l ih=>exact .cons (L1:=[]) (L2:=[]) (h.ev x) ih
theorem B6O{f:FuncId}(hg:Good P f)(args:Array Value):(callFunc f args).run P w=.ok (.enter f args) w:=by
 obtain⟨fn,h1,h2,h3⟩:=hg
 have e1 : fn.name ≠ "runtime.NumGoroutine" := by simpa using h3
 have e2:fn.body≠none:=by
  intro e;rw[e] at h2;cases h2
 simp[callFunc,h1,e1,e2]
theorem B4h{f:FuncId}(hg:Good P f){args:Array Operand}{ts:Array TypeId}{x:Operand}{cap:Array Value}(hx:a.eval x=.func (.func f) #[] cap){o:Oper}(ho:o.op=.call { callee:=.value x,args:=args,argTypes:=ts }) :
  (execOp a.eval o).run P w=.ok (.enter f (args.map a.eval++cap)) w:=by
 have e:execOp a.eval o=(do let d ← resolve a.eval { callee:=.value x,args:=args,argTypes:=ts } o.type;invoke d.target d.args):=by unfold execOp;rw[ho]
 rw[e];simp[resolve,hx,Deferred.ofValue,invoke,B6O hg]
theorem A2s.good{s:AS}{f:FuncId}{args:List AV}{d:Option Tmp}{K:AS→Prop}(h:A2s P S s f args d K):Good P f:=by
 cases h with
 |a h=>obtain⟨Post,h,_⟩:=h;exact h.1
 |v h=>obtain⟨_,Post,h,_⟩:=h;exact h.1
 |m _ h _=>exact h
theorem A2s.sound(h:H4 C s a w N M L){f:FuncId}{args:List AV}{vs:List Value}(hr:F5 w N M args vs []){d:Option Tmp}{K:AS→Prop}(hc:A2s P S s f args d K) :
  Calls P f ⟨vs⟩ w fun e w'=>∃ r,e=.returned r∧(S=false→c7 w w')∧∃ s',K s'∧M8 C s' (a.put d r) w':=by
 cases hc with
 |a hc=>exact(B8g h hr hc).mono fun e w' ⟨r,e1,e2,e3⟩=>⟨r,e1,fun _=>e2,e3⟩
 |v hc=>exact(B73 h hr hc).mono fun e w' ⟨r,e1,e2,e3⟩=>⟨r,e1,fun _=>e2,e3⟩
 |m hS _ hc=>exact(hc C a w N M L vs h hr).mono fun e w' ⟨r,e1,e3⟩=>⟨r,e1,fun e=>(by rw[hS] at e;cases e),e3⟩
theorem B70{ops:Array Oper}{g t:Nat}{b:Bool}(ht:(ops[g]?).bind (·.dst)=some t)(h:a.eval (.tmp t)=.bool b):yielded ops a.tmps g=some b:=by
 unfold yielded;rw[ht];simp only[Act.eval,A3] at h ⊢;rcases D9 t a.tmps.size with hl|hl
 ·rw[W5,T3 hl] at h;rw[T3 hl];simp only[A58] at h;rw[h]
 ·rw[W5,i9 hl] at h;cases h
theorem B4z(h:H4 C s a w N M L){ops:Array Oper}{o:Oper}{n:NO}{g:Option (Tmp×Bool)}(hg:B6J ops o=some g){K:AS→Prop}(hs:stW P S s ⟨o.dst,g,n⟩ K) :
  (Region.wanted o (yielded ops a.tmps)=true∧A8e P S s ⟨o.dst,g,n⟩ K)∨(Region.wanted o (yielded ops a.tmps)=false∧K (s.put o.dst (.val undef))):=by
 unfold B6J at hg;split at hg
 ·rename_i e;cases hg;exact .inl ⟨by simp[Region.wanted,e],hs⟩
 ·rename_i j want e;split at hg
  ·rename_i t ht;cases hg;simp only[stW] at hs;split at hs
   ·rename_i b hb;have hy:yielded ops a.tmps j=some b:=B70 ht (h.evv (x:=.tmp t) hb);have hlt:t<s.sl.length:=by
     rcases D9 t s.sl.length with hl|hl
     ·exact hl
     ·have hb':s.sl.getD t .any=.val (.bool b):=hb;rw[B3,T1 hl] at hb'; cases hb'
    have hset:∀ c,b=c→s.put (some t) (.val (.bool c))=s:=by
     rintro c rfl;show({ s with sl:=s.sl.set t (.val (.bool b)) }:AS)=s;have hb':s.sl.getD t .any=.val (.bool b):=hb;rw[← hb',B3,D1 hlt];simp
    obtain⟨hs1,hs2⟩:=hs;by_cases e2:b=want
    ·have:=hs1 e2;rw[hset want e2] at this;exact .inl ⟨by simp[Region.wanted,e,hy,e2],this⟩
    ·have e3:b = !want:=by cases b<;>cases want<;>simp_all
     have:=hs2 e3;rw[hset _ e3] at this;exact .inr ⟨by simp[Region.wanted,e,hy,e2],this⟩
   ·rename_i hb;have hy:yielded ops a.tmps j=none:=by
     have he:=h.evv (x:=.tmp t) hb;unfold yielded;rw[ht];simp only[Act.eval,A3] at he ⊢;rcases D9 t a.tmps.size with hl|hl
     ·rw[W5,T3 hl] at he;rw[T3 hl];simp only[A58] at he;rw[he]
     ·rw[i9 hl]
    exact .inr ⟨by simp[Region.wanted,e,hy],hs⟩
   ·exact hs.elim
  ·cases hg
variable {ops:Array Oper} {Q:Exit→Act→World→Prop}
theorem B1V{op:Op}{n:NO}(h:A7z P op=some n):(nOp P op=some n)∨(B3n P op=some n)∨(B5u op=some n):=by
 unfold A7z at h;split at h
 ·rename_i e;cases h;exact .inl e
 ·split at h
  ·rename_i e;cases h;exact .inr (.inl e)
  ·exact .inr (.inr h)
theorem B0M{op:Op}{n:NO}(h:B5u op=some n):(∃ f args ts,op=.call { callee:=.value (.func f),args,argTypes:=ts }∧n=.call f args.toList)∨(∃ t args ts,op=.call { callee:=.value (.tmp t),args,argTypes:=ts }∧n=.callv (.tmp t) args.toList):=by
 unfold B5u at h;split at h
 ·cases h;exact .inl ⟨_,_,_,rfl,rfl⟩
 ·cases h;exact .inr ⟨_,_,_,rfl,rfl⟩
 ·cases h
end
open Go Go.RowKit
theorem C2x{P:Program}{op:Op}{n:NO}(h:nOp P op=some n):n.reads=true∧(∀ f args,n ≠ .call f args)∧(∀ f args,n ≠ .callv f args):=by
 have key:n.reads=true→n.reads=true∧(∀ f args,n ≠ .call f args)∧(∀ f args,n ≠ .callv f args):=fun h=>⟨h,(fun f args e=>by subst e;cases h),(fun f args e=>by subst e;cases h)⟩;apply key;cases op with
 |binOp b t x y yt=>simp only[nOp] at h;unfold C4M at h;(repeat' split at h)<;>first|(cases h;done)|(cases h;rfl)
 |convert src dst x=>simp only[nOp] at h;unfold C3w at h;(repeat' split at h)<;>first|(cases h;done)|(cases h;rfl)
 |fieldAddr t x i=>simp only[nOp] at h;unfold C4h at h;(repeat' split at h)<;>first|(cases h;done)|(cases h;rfl)
 |field t x i=>simp only[nOp] at h;unfold C2V at h;(repeat' split at h)<;>first|(cases h;done)|(cases h;rfl)
 |indexAddr t x i=>simp only[nOp] at h;unfold C34 at h;(repeat' split at h)<;>first|(cases h;done)|(cases h;rfl)
 |index t x i=>simp only[nOp] at h;unfold C3y at h;(repeat' split at h)<;>first|(cases h;done)|(cases h;rfl)
 |slice t x lo hi mx=>simp only[nOp] at h;unfold C4r at h;(repeat' split at h)<;>first|(cases h;done)|(cases h;rfl)
 |makeFunc fn first cap=>simp only[nOp] at h;unfold C31 at h;(repeat' split at h)<;>first|(cases h;done)|(cases h;rfl)
 |build t ps=>simp only[nOp] at h;unfold C3v at h;(repeat' split at h)<;>first|(cases h;done)|(cases h;rfl)
 |load t x=>simp only[nOp] at h;unfold nLd at h;(repeat' split at h)<;>first|(cases h;done)|(cases h;rfl)
 |call c=>simp only[nOp] at h;unfold C3H at h;(repeat' split at h)<;>first|(cases h;done)|(cases h;rfl)
 |_=>first|(cases h;done)|(cases h;rfl)
theorem B4e{P:Program}{op:Op}{n:NO}(h:B3n P op=some n):n.reads=false∧(∀ f args,n ≠ .call f args)∧(∀ f args,n ≠ .callv f args):=by
 unfold B3n at h
 (repeat' split at h)<;>first|(cases h;done)|(cases h;exact⟨rfl,(fun _ _ e=>by cases e),(fun _ _ e=>by cases e)⟩)
section
variable {P:Program} {S:Bool} {C:Ctx} {s:AS} {a:Act} {w w':World} {N:NT} {M:MT} {L:List (Nat×Nat)} {ops:Array Oper} {Q:Exit→Act→World→Prop}
theorem B2a{n:NO}(hr:n.reads=true){d:Option Tmp}{g:Option (Tmp×Bool)}{K:AS→Prop}(h:A8e P S s ⟨d,g,n⟩ K):apc s n∧K (s.put d (apv s n)):=by
 cases n<;>first|(cases hr;done)|exact h
theorem C3L{n:NO}(hr:n.reads=false)(h1:∀ f args,n ≠ .call f args)(h2:∀ f args,n ≠ .callv f args){d:Option Tmp}{g:Option (Tmp×Bool)}{K:AS→Prop}(h:A8e P S s ⟨d,g,n⟩ K):ae s d K n:=by
 cases n<;>first|(cases hr;done)|exact h|exact absurd rfl (h1 _ _)|exact absurd rfl (h2 _ _)
theorem B6x(h:M8 C s a w){i:Nat}{o:Oper}{n:NOp}(hi:ops[i]? = some o)(hn:B0d P ops o=some n){K:AS→Prop}(hs:stW P S s n K) :
  gOp P ops Q (A3n P S ops) i (fun a' w'=>∃ s',K s'∧M8 C s' a' w') a w:=by
 obtain⟨N,M,L,h⟩:=h;unfold B0d at hn;split at hn
 ·rename_i no g hno hg;cases hn;have hq:A3n P S ops i=true→no.reads=true∨(no.quiet=true∧(S=false∨no.calls=false)):=fun hq=>by
   unfold A3n at hq;rw[hi] at hq;simp only[hno,b7,A6,M6] at hq;exact hq
  unfold gOp Go.wpOp;simp only[hi];rcases B4z h hg hs with⟨hw,ha⟩|⟨hw,hk⟩
  ·simp only[hw,H1];refine .inl ?_;unfold Oper.wp;rcases B1V hno with hno|hno|hno
   ·obtain⟨hr,_⟩:=C2x hno;obtain⟨c1,c2⟩:=B2a hr ha;obtain⟨v,⟨t1,_⟩,r⟩:=B0A h hno c1;rw[t1 w (c7.refl w) o rfl];exact⟨fun _=>c7.refl w,_,c2,N,M,L,h.put _ r⟩
   ·obtain⟨hr,h1,h2⟩:=B4e hno;obtain⟨s',v,w',k1,k2,k3,k4⟩:=C04 h hno (C3L hr h1 h2 ha) o rfl rfl;have hkp:A3n P S ops i=true→c7 w w':=fun e=>k3 ((hq e).resolve_left (by rw[hr];simp)).1;rcases k4 with k4|⟨rfl,k4⟩<;>rw[k4]<;>exact⟨hkp,_,k1,k2⟩
   ·rcases B0M hno with⟨f,args,ts,ho,rfl⟩|⟨t,args,ts,ho,rfl⟩
    ·have ha':A2s P S s f (args.toList.map s.ev) o.dst K:=ha;have:=B4h (P:=P) (w:=w) (a:=a) ha'.good (x:=.func f) (cap := #[]) rfl (o:=o) ho;rw[this];simp only[Oper.upon];have e:args.map a.eval ++ #[]=⟨args.toList.map a.eval⟩:=by simp[← Array.toList_map]
     rw[e];refine(A2s.sound h (evs h args.toList) ha').mono fun e w' ⟨r,e1,e2,s',e3,e4⟩ => ?_;subst e1;exact⟨fun e=>e2 (((hq e).resolve_left (by simp[NO.reads])).2.resolve_right (by simp[NO.calls])),s',e3,e4⟩
    ·simp only[A8e] at ha;split at ha
     ·rename_i f cap hx;have r:=h.ev (.tmp t);rw[hx] at r;generalize hu:a.eval (.tmp t)=u at r;cases r with
      |fn r =>
       rename_i vs;have:=B4h (P:=P) (w:=w) (a:=a) ha.good (x:=.tmp t) (cap:=⟨vs⟩) hu (o:=o) ho;rw[this];simp only[Oper.upon];have e:args.map a.eval++⟨vs⟩=(⟨args.toList.map a.eval++vs⟩:Array Value):=by
        rw[show args.map a.eval=⟨args.toList.map a.eval⟩ from by simp[← Array.toList_map]];simp
       rw[e];refine(A2s.sound h (F5.join (L1:=[]) (L2:=[]) (evs h args.toList) r) ha).mono fun e w' ⟨r,e1,e2,s',e3,e4⟩ => ?_;subst e1;exact⟨fun e=>e2 (((hq e).resolve_left (by simp[NO.reads])).2.resolve_right (by simp[NO.calls])),s',e3,e4⟩
     ·exact ha.elim
  ·simp only[hw,E0,E5];exact⟨fun _=>c7.refl w,_,hk,N,M,L,h.put _ (.val _)⟩
 ·cases hn
end
open Go Go.RowKit
section
variable {P:Program} {S:Bool} {C:Ctx} {Q:Exit→Act→World→Prop} {ops:Array Oper}
theorem B7E(i:Nat):∀ (os:List Oper) (acc:List Bool) (k:Nat),acc.getD k false=true→(A12 i os acc).getD k false=true
 |[],_,_,h=>h
 |o :: os,acc,k,h=>by
  refine B7E i os _ k ?_;have hk:k<acc.length:=by
   rcases D9 k acc.length with q|q
   ·exact q
   ·simp[List.getD,q] at h
  rw[B3,B7 hk,← B3];exact h
theorem B6P(i:Nat):∀ (os:List Oper) (acc:List Bool),(A12 i os acc).length=acc.length+os.length
 |[],_=>rfl
 |o :: os,acc=>by rw[A12,B6P i os];simp;omega
theorem B4c(i:Nat):∀ (os:List Oper) (acc:List Bool) (j:Nat),(A12 i os acc).getD j false=true→acc.length≤j →
  ∃ o,os[j-acc.length]? = some o∧∃ e∈o.after,Region.binds .any e=true∧(e.on=i∨(A12 i os acc).getD e.on false=true)
 |[],acc,j,h,hj=>by simp[A12,List.getD,hj] at h
 |o :: os,acc,j,h,hj=>by
  rcases D9 j (acc.length+1) with hlt|hge
  ·have hj0:j=acc.length:=by omega
   subst hj0;refine⟨o,by simp,?_⟩;have hd:∀ b:Bool,(A12 i os (acc++[b])).getD acc.length false=true→b=true:=fun b hb=>by
    have hpre:∀ (os:List Oper) (l:List Bool) (k:Nat),k<l.length→(A12 i os l).getD k false=l.getD k false:=by
     intro os;induction os with
     |nil=>intro l k _;rfl
     |cons o os ih =>
      intro l k hk;rw[A12,ih _ _ (by simp;omega),B3,B7 hk,← List.getD_eq_getElem?_getD]
    rw[hpre os _ _ (by simp)] at hb;simpa[List.getD] using hb
   have hb:=hd _ h;obtain⟨e,he,hx⟩:=Array.any_eq_true'.1 hb;simp only[A6,b7,j7] at hx;refine⟨e,he,hx.1,hx.2.imp id fun h => ?_⟩;refine B7E i os _ _ ?_;have hk:e.on<acc.length:=by
    rcases D9 e.on acc.length with q|q
    ·exact q
    ·simp[List.getD,q] at h
   rw[B3,B7 hk,← B3];exact h
  ·obtain⟨o',h1,h2⟩:=B4c i os _ j h (by simp;omega);refine⟨o',?_,h2⟩;rw[A5,J5] at h1;obtain⟨m,hm⟩:∃ m,j-acc.length=m+1:=⟨j-acc.length-1,by omega⟩;rw[hm,A0K];rw[show j-(acc.length+1)=m from by omega] at h1;exact h1
def Dep(ops:Array Oper)(i j:Nat):Prop:=(A12 i ops.toList []).getD j false=true
theorem B6D{ops:Array Oper}{i:Nat}:∀ j oj,ops[j]? = some oj→Dep ops i j→∃ e∈oj.after,Region.binds .any e=true∧(e.on=i∨Dep ops i e.on):=by
 intro j oj hj hd;obtain⟨o,h1,h2⟩:=B4c i ops.toList [] j hd (P1 _);have:o=oj:=by
  have h1:ops.toList[j]? = some o:=by simpa using h1
  rw[Array.getElem?_toList,hj] at h1;exact(P3 h1).symm
 subst this;exact h2
theorem B9V{i:Nat}{oi:Oper}{n:NO}{listed:Array Bool}(hi:ops[i]? = some oi)(hn:A7z P oi.op=some n)(h:A19 P S ops listed i=true) :
  n.reads=true∧(∀ k,Dep ops i k→listed.getD k false=false)∧∀ j oj,ops[j]? = some oj→j≠i→listed.getD j true=false→¬ Dep ops i j→oi.apart ops oj=true∧(n.looks=true→A3n P S ops j=true):=by
 unfold A19 at h;simp only[hi,hn,A6,D6,R8] at h;obtain⟨h1,h2⟩:=h;refine⟨h1,fun k hk => ?_,fun j oj hj hne hun hno => ?_⟩
 ·have hk':(A12 i ops.toList []).getD k false=true:=hk;have hlt:k<ops.size:=by
   have hl:=B6P i ops.toList [];simp only[C8,E1,A1O] at hl;rcases D9 k ops.size with q|q
   ·exact q
   ·rw[B3,T1 (by omega)] at hk'; cases hk'
  have h3:=(h2 k hlt).1;rw[hk'] at h3;simp only[N7,p9,M6] at h3;rcases D9 k listed.size with q|q
  ·simp[Array.getD,q] at h3 ⊢; exact h3
  ·simp[Array.getD,Nat.not_lt.2 q] at h3
 ·have h3:=(h2 j (Array.getElem?_eq_some_iff.1 hj).1).2;have hd:(A12 i ops.toList []).getD j false=false:=by
   cases hx:(A12 i ops.toList []).getD j false with
   |false=>rfl
   |true=>exact absurd hx hno
  simp only[hj,b7,j7,hne,false_or,hun,hd,E0] at h3;simp only[A6,b7] at h3;refine⟨h3.1,fun hl => ?_⟩;rcases h3.2 with h4|h4
  ·rw[hl] at h4;cases h4
  ·exact h4
theorem B3a{k:Array Bool→Option RT}{listed:Array Bool}{i:Nat}{t:RT}(h:A4J P ops k listed i=some t) :
  ∃ o n t',ops[i]? = some o∧B0d P ops o=some n∧k (listed.setIfInBounds i true)=some t'∧t=.op n t':=by
 unfold A4J at h;split at h
 ·rename_i o ho;split at h
  ·rename_i n t' h1 h2;cases h;exact⟨o,n,t',ho,h1,h2,rfl⟩
  ·cases h
 ·cases h
end
open Go Go.RowKit
inductive O6 {α β:Type} (R:α→β→Prop):List α→List β→Prop
 |nil:O6 R [] []
 |cons {a:α} {b:β} {l:List α} {l':List β}:R a b→O6 R l l'→O6 R (a :: l) (b :: l')
theorem O6.length_eq{α β:Type}{R:α→β→Prop}:∀ {l:List α} {l':List β},O6 R l l'→l.length=l'.length
 |_,_,.nil=>rfl
 |_,_,.cons _ h=>by simp[h.length_eq]
inductive HRp (w:World) (N:NT) (M:MT):List (Nat×Blk)→List (Nat×Nat)→Prop
 |nil:HRp w N M [] []
 |cons {k:Nat} {x:Blk} {m:Cn} {L1:List Nat} {ps:List (Nat×Blk)} {L2:List (Nat×Nat)}:M k=some (some m)→BR w N M x m L1→HRp w N M ps L2→HRp w N M ((k,x) :: ps) (H0 m L1++L2)
section
variable {w:World} {N:NT} {M M':MT}
theorem HRp.select{k:Nat}{x:Blk}:∀ {ps:List (Nat×Blk)} {L:List (Nat×Nat)},HRp w N M ps L→(k,x)∈ps →
  ∃ m L1 L2 rest,M k=some (some m)∧BR w N M x m L1∧HRp w N M rest L2∧L.Perm (H0 m L1++L2)∧∀ p∈ps,p=(k,x)∨p∈rest
 |[],_,_,hm=>by cases hm
 |q :: ps,_,h,hm=>by
  cases h with
  |cons h1 h2 h3 =>
   rename_i k' x' m L1 L2;by_cases e:(k,x)=(k',x')
   ·cases e;exact⟨m,L1,L2,ps,h1,h2,h3,.refl _,fun p hp=>by
     rcases D8.1 hp with rfl|hp
     ·exact .inl rfl
     ·exact .inr hp⟩
   ·have hm':(k,x)∈ps:=by
     rcases D8.1 hm with h|h
     ·exact absurd h e
     ·exact h
    obtain⟨m',L1',L2',rest,g1,g2,g3,g4,g5⟩:=h3.select hm';refine⟨m',L1',H0 m L1++L2',(k',x') :: rest,g1,g2,.cons h1 h2 g3,?_,fun p hp => ?_⟩
    ·refine(g4.append_left (H0 m L1)).trans ?_;rw[← F9,← F9];exact List.perm_append_comm.append_right _
    ·rcases D8.1 hp with rfl|hp
     ·exact .inr (by simp)
     ·rcases g5 p hp with h|h
      ·exact .inl h
      ·exact .inr (by simp[h])
end
end Go.Proofs.YtkmhopbmpeiofaaGreat.Nx
