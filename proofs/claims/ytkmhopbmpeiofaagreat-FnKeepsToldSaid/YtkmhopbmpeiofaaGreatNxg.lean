/- Shapes of plain data and the types of data: sound, with no condition beyond those each lemma names. -/
import Derived.Below
import Derived.Carry
import Derived.ChangeArms
import Derived.DataReads
import Derived.SizedLaws
import Derived.Test.YtkmhopbmpeiofaaGreatNxf
import Derived.WideShapes
set_option linter.unusedVariables false
set_option linter.unusedSimpArgs false
namespace Go.Proofs.YtkmhopbmpeiofaaGreat.Nx
open Go Go.RowKit
def E(n:Nat)(hp:HP)(u:List (Nat×AV)):AS:=⟨u.foldr (fun p l=>l.set p.1 p.2) (List.replicate n .any),hp⟩
def lk(n t:Nat):List (Nat×AV)→AV
 |[]=>.any
 |(d,x) :: u=>if d=t then(if t<n then x else .any) else lk n t u
section
variable {n:Nat} {hp hp':HP} {u u':List (Nat×AV)}
theorem B4Y:∀ u:List (Nat×AV),(u.foldr (fun p l=>l.set p.1 p.2) (List.replicate n AV.any)).length=n
 |[]=>by simp
 |p :: u=>by simp[B4Y u]
theorem B9L(t:Nat):∀ u:List (Nat×AV),(u.foldr (fun p l=>l.set p.1 p.2) (List.replicate n AV.any)).getD t .any=lk n t u
 |[]=>by
  simp only[List.foldr_nil,lk,B3,d7];split<;>rfl
 |(d,x) :: u=>by
  have ih:=B9L t u;have hl:=B4Y (n:=n) u;simp only[List.foldr_cons,lk];rw[B3,G5];split
  ·rename_i e;subst e;rw[hl];split<;>rfl
  ·rw[← B3];exact ih
end
def A9u(s:AS):NR→Prop
 |.t _=>True
 |.c a n ag=>apc s (.ld n ag (.tmp a))
def B3w(s:AS):NR→AV
 |.t x=>s.ev (.tmp x)
 |.c a n ag=>apv s (.ld n ag (.tmp a))
def C8z:List AV→AV
 |[x]=>x
 |l=>.tup l
def B02(p:NR→Prop):List NR→Prop
 |[]=>True
 |r :: rs=>p r∧B02 p rs
section
variable {P:Program} {C:Ctx} {s:AS} {a:Act} {w:World} {N:NT} {M:MT} {L:List (Nat×Nat)}
def A84(tmps:Array Value):ResultVar→Sem Value
 |.tmp t=>pure (tmps.getD t undef)
 |.cell x t=>do loadVar t (← asAddr (tmps.getD x undef))
theorem C0m(fn:Func)(tmps:Array Value):results fn tmps=(do
  let vs ← fn.results.mapM (A84 tmps)
  pure (if h:vs.size=1 then vs[0] else .tuple vs)):=by
 unfold results;congr 1
theorem C6m(h:H4 C s a w N M L){rv:ResultVar}{r:NR}(hn:B1E P rv=some r)(hc:A9u s r) :
  ∃ v,(A84 a.tmps rv).run P w=.ok v w∧Rep w N M (B3w s r) v []:=by
 cases rv with
 |tmp t =>
  cases hn;have:=h.sl.get t;rw[A6N] at this;exact⟨_,rfl,this⟩
 |cell x t =>
  simp only[B1E] at hn;split at hn
  ·cases hn
  ·rename_i h0;split at hn
   ·rename_i d hd;cases hn;obtain⟨v,h1,h2⟩:=C2G (P:=P) (x:=.tmp x) h h0 hd hc;refine⟨v,?_,h2⟩;have h3:=h1 w (c7.refl w) { (default:Oper) with op:=.load t (.tmp x) } rfl;have e4:execOp a.eval { (default:Oper) with op:=.load t (.tmp x) }=(do pure (.value (← Instr.loadAt t (a.eval (.tmp x))))):=by unfold execOp;rfl
    rw[e4] at h3;have hp:A6C s (s.ev (.tmp x)):=hc.1;have:∃ ad,a.eval (.tmp x)=.pointer (some ad):=by
     generalize hv:s.ev (.tmp x)=av at hp;cases av with
     |ptr j ver row off =>
      obtain⟨b,m,L1,g0,g1,g2,g3,g4,g5,g6,g7,g8⟩:=h.ptr hv hp;exact⟨_,g8⟩
     |ipt cs =>
      have r:=h.ev (.tmp x);rw[hv] at r;generalize a.eval (.tmp x)=u at r;cases r with
      |ipt r hN=>exact⟨_,rfl⟩
     |_=>exact hp.elim
    obtain⟨ad,had⟩:=this;have had':a.tmps.getD x undef=.pointer (some ad):=had;rw[had] at h3;simp only[Instr.loadAt,Instr.sureAddr,Sem.run_bind,Sem.run_pure,Result.andThen_ok] at h3;simp only[A84,had',asAddr,Sem.run_bind,Sem.run_pure,Result.andThen_ok];generalize (loadVar t ad).run P w=r at *
    cases r with
    |ok u w' =>
     simp only[Result.andThen_ok] at h3;cases h3;rfl
    |halt y w'=>cases h3
   ·cases hn
theorem B5M(h:H4 C s a w N M L):∀ {rvs:List ResultVar} {rs:List NR},v8 (rvs.map (B1E P))=some rs→B02 (A9u s) rs →
  ∃ vs:List Value,(rvs.mapM (A84 a.tmps)).run P w=.ok vs w∧F5 w N M (rs.map (B3w s)) vs []
 |[],rs,hn,_=>by
  cases hn;exact⟨[],by simp,.nil⟩
 |rv :: rvs,rs,hn,hc=>by
  simp only[F6] at hn;cases hr:B1E P rv with
  |none=>rw[hr] at hn;cases hn
  |some r =>
   rw[hr] at hn;simp only[v8] at hn;cases hl:v8 (rvs.map (B1E P)) with
   |none=>rw[hl] at hn;cases hn
   |some rs' =>
    rw[hl] at hn;cases hn;obtain⟨v,h1,h2⟩:=C6m h hr hc.1;obtain⟨vs,h3,h4⟩:=B5M h hl hc.2;refine⟨v :: vs,?_,.cons (L1:=[]) (L2:=[]) h2 h4⟩;rw[List.mapM_cons,Sem.run_bind,h1,Result.andThen_ok,Sem.run_bind,h3];rfl
theorem B0J(h:H4 C s a w N M L){fn:Func}{rs:List NR}(hn:v8 (fn.results.toList.map (B1E P))=some rs)(hc:B02 (A9u s) rs) :
  ∃ v,(results fn a.tmps).run P w=.ok v w∧Rep w N M (C8z (rs.map (B3w s))) v []:=by
 obtain⟨vs,h1,h2⟩:=B5M h hn hc;have hm:(fn.results.mapM (A84 a.tmps)).run P w=.ok ⟨vs⟩ w:=by
  have:=V5 (xs:=fn.results);rw[← this,List.mapM_toArray,Sem.run_map,h1];rfl
 rw[C0m,Sem.run_bind,hm,Result.andThen_ok];have hl:=h2.length;generalize rs.map (B3w s)=l at *
 match l,vs,h2,hl with
 |[],[],_,_=>exact⟨_,rfl,.tup .nil⟩
 |[x],[v],h2,_ =>
  refine⟨v,rfl,?_⟩;have:=h2.get 0;simpa[C8z] using this
 |x :: y :: l,v :: u :: vs,h2,_ =>
  refine⟨.tuple ⟨v :: u :: vs⟩,?_,.tup h2⟩;simp
end
section
variable {P:Program} {C:Ctx}
theorem A9X{ops:Array Oper}{x:NC}(h:B4T P ops=some x):(∃ S t,x=.reg S t∧A1d P S ops ops.size (Array.replicate ops.size false)=some t) ∨
  ∃ t s,x=.regs t s∧A1d P false ops ops.size (Array.replicate ops.size false)=some t∧A1d P true ops ops.size (Array.replicate ops.size false)=some s:=by
 rw[C4G] at h;unfold B6e at h;split at h
 ·split at h
  ·rename_i h2;cases h;exact .inl ⟨_,_,rfl,h2⟩
  ·cases h
 ·split at h
  ·split at h
   ·rename_i h2;cases h;exact .inl ⟨_,_,rfl,h2⟩
   ·cases h
  ·split at h
   ·rename_i h2;split at h
    ·split at h
     ·rename_i h3;cases h;exact .inr ⟨_,_,rfl,h2,h3⟩
     ·cases h;exact .inl ⟨_,_,rfl,h2⟩
    ·cases h;exact .inl ⟨_,_,rfl,h2⟩
   ·cases h
theorem A03{id:Nat}{ops:Array Oper}{d:Bool}{x:NC}(h:W9 P (.region id ops d)=some x):(∃ S t,x=.reg S t)∨∃ t s,x=.regs t s:=by
 cases d with
 |false =>
  simp only[W9] at h;split at h
  ·cases h;exact .inl ⟨_,_,rfl⟩
  ·cases h
 |true =>
  simp only[W9] at h;split at h
  ·rcases A9X h with⟨S,t,e,_⟩|⟨t,s,e,_⟩
   ·exact .inl ⟨S,t,e⟩
   ·exact .inr ⟨t,s,e⟩
  ·cases h
theorem C3s{c:Code}{x y:NC}(h:W9 P c=some (.seq x y)):∃ a b,c=.seq a b∧W9 P a=some x∧W9 P b=some y:=by
 cases c with
 |seq a b =>
  simp only[W9] at h;split at h
  ·rename_i h1 h2;cases h;exact⟨a,b,rfl,h1,h2⟩
  ·cases h
 |region id ops d=>rcases A03 h with⟨S,t,e⟩|⟨t,s,e⟩<;>cases e
 |_=>simp only[W9] at h<;>first|(cases h;done)|((repeat' split at h)<;>cases h)
theorem C1w{c:Code}{o:Operand}{x y:NC}(h:W9 P c=some (.cond o x y)):∃ a b,c=.cond o a b∧W9 P a=some x∧W9 P b=some y:=by
 cases c with
 |cond o' a b =>
  simp only[W9] at h;split at h
  ·rename_i h1 h2;cases h;exact⟨a,b,rfl,h1,h2⟩
  ·cases h
 |region id ops d=>rcases A03 h with⟨S,t,e⟩|⟨t,s,e⟩<;>cases e
 |_=>simp only[W9] at h<;>first|(cases h;done)|((repeat' split at h)<;>cases h)
theorem B9g{c:Code}{id:Nat}{x:NC}(h:W9 P c=some (.block id x)):∃ a,c=.block id a∧W9 P a=some x:=by
 cases c with
 |block id' a =>
  simp only[W9] at h;split at h
  ·rename_i h1;cases h;exact⟨a,rfl,h1⟩
  ·cases h
 |region id ops d=>rcases A03 h with⟨S,t,e⟩|⟨t,s,e⟩<;>cases e
 |_=>simp only[W9] at h<;>first|(cases h;done)|((repeat' split at h)<;>cases h)
theorem C1G{c:Code}{x:NC}(h:W9 P c=some (.loop x)):∃ a,c=.loop a∧W9 P a=some x:=by
 cases c with
 |loop a =>
  simp only[W9] at h;split at h
  ·rename_i h1;cases h;exact⟨a,rfl,h1⟩
  ·cases h
 |region id ops d=>rcases A03 h with⟨S,t,e⟩|⟨t,s,e⟩<;>cases e
 |_=>simp only[W9] at h<;>first|(cases h;done)|((repeat' split at h)<;>cases h)
theorem C1O{c:Code}(h:W9 P c=some .skip):c=.skip:=by
 cases c with
 |skip=>rfl
 |region id ops d=>rcases A03 h with⟨S,t,e⟩|⟨t,s,e⟩<;>cases e
 |_=>simp only[W9] at h<;>first|(cases h;done)|((repeat' split at h)<;>cases h)
theorem C2M{c:Code}{id:Nat}(h:W9 P c=some (.exit id)):c=.exit id:=by
 cases c with
 |exit id'=>simp only[W9] at h;cases h;rfl
 |region id ops d=>rcases A03 h with⟨S,t,e⟩|⟨t,s,e⟩<;>cases e
 |_=>simp only[W9] at h<;>first|(cases h;done)|((repeat' split at h)<;>cases h)
theorem C20{c:Code}(h:W9 P c=some .ret):c=.ret:=by
 cases c with
 |ret=>rfl
 |region id ops d=>rcases A03 h with⟨S,t,e⟩|⟨t,s,e⟩<;>cases e
 |_=>simp only[W9] at h<;>first|(cases h;done)|((repeat' split at h)<;>cases h)
theorem C4S{S:Bool}{c:Code}{t:RT}(h:W9 P c=some (.reg S t)):∃ id ops d,c=.region id ops d∧(d=false→B7Q P ops ops.toList=some t)∧(d=true→Region.noSelect ops=true∧A1d P S ops ops.size (Array.replicate ops.size false)=some t):=by
 cases c with
 |region id ops d =>
  refine⟨id,ops,d,rfl,?_,?_⟩
  ·rintro rfl;simp only[W9] at h;split at h
   ·rename_i h1;cases h;exact h1
   ·cases h
  ·rintro rfl;simp only[W9] at h;split at h
   ·rename_i hs;rcases A9X h with⟨S',t',e,h2⟩|⟨t',s',e,_⟩
    ·cases e;exact⟨hs,h2⟩
    ·cases e
   ·cases h
 |_=>simp only[W9] at h<;>first|(cases h;done)|((repeat' split at h)<;>cases h)
theorem C2u{c:Code}{t s:RT}(h:W9 P c=some (.regs t s)):∃ id ops,c=.region id ops true∧Region.noSelect ops=true∧A1d P false ops ops.size (Array.replicate ops.size false)=some t∧A1d P true ops ops.size (Array.replicate ops.size false)=some s:=by
 cases c with
 |region id ops d =>
  cases d with
  |false =>
   simp only[W9] at h;split at h
   ·cases h
   ·cases h
  |true =>
   simp only[W9] at h;split at h
   ·rename_i hs;rcases A9X h with⟨S',t',e,h2⟩|⟨t',s',e,h2,h3⟩
    ·cases e
    ·cases e;exact⟨id,ops,rfl,hs,h2,h3⟩
   ·cases h
 |_=>simp only[W9] at h<;>first|(cases h;done)|((repeat' split at h)<;>cases h)
end
abbrev bv(b:Bool):AV:=.val (.bool b)
open Go Go.RowKit
inductive SH where
 |b
 |i (k:IntKind)
 |s
 |sl (sz by_:Nat) (ag:Bool) (e:SH)
 |st (l:List SH)
def B6z(P:Program)(g:TypeId→Option SH)(tot:Nat):Nat→List Field→Option (List SH)
 |off,[]=>if off=tot then some [] else none
 |off,f :: fs=>if f.offset=off then match g f.type,B6z P g tot (off+P.cellsOf f.type) fs with
  |some x,some xs=>some (x :: xs)
  |_,_=>none
  else none
def A9w(P:Program):Nat→TypeId→Option SH
 |0,_=>none
 |n+1,t=>match P.underlying t with
  |some .bool=>some .b
  |some (.int k)=>some (.i k)
  |some .string=>some .s
  |some (.slice e)=>if P.cellsOf e=0∨(K9 P e=false∧P.cellsOf e≠1) then none else match A9w P n e with
   |some x=>some (.sl (P.cellsOf e) (P.bytesOf e) (K9 P e) x)
   |none=>none
  |some (.struct fs)=>match B6z P (A9w P n) (P.cellsOf t) 0 fs.toList with
   |some l=>some (.st l)
   |none=>none
  |_=>none
def mkr(ag:Bool)(r:List AV):AV:=if ag then .agg r else r.headD .any
mutual
def shC:SH→List AV→Prop
 |.b,xs=>∃ b,xs=[.val (.bool b)]
 |.i k,xs=>∃ n,k.min≤n∧n≤k.max∧xs=[.val (.int k n)]
 |.s,xs=>∃ t:ByteArray,t.size≤reachBytes∧xs=[.val (.string t)]
 |.sl sz by_ ag e,xs=>∃ rows:List (List AV),(∀ r∈rows,shC e r)∧rows.length*by_≤reachBytes∧xs=[.sl false sz (rows.map (mkr ag))]
 |.st l,xs=>B9f l xs
def B9f:List SH→List AV→Prop
 |[],xs=>xs=[]
 |sh :: ss,xs=>∃ ys zs,shC sh ys∧B9f ss zs∧xs=ys++zs
end
theorem B8G{α β:Type}{R:α→β→Prop}:∀ {l:List α} {l':List β},l.length=l'.length→(∀ (i:Nat) (a:α) (b:β),l[i]? = some a→l'[i]? = some b→R a b)→O6 R l l'
 |[],[],_,_=>.nil
 |a :: l,b :: l',hl,h=>.cons (h 0 a b rfl rfl) (B8G (by simpa using hl) fun i a b h1 h2=>h (i+1) a b (by simpa using h1) (by simpa using h2))
 |[],_ :: _,hl,_=>by simp at hl
 |_ :: _,[],hl,_=>by simp at hl
theorem build{α:Type}{R:Nat→α→Prop}:∀ (n:Nat),(∀ i,i<n→∃ x,R i x)→∃ l:List α,l.length=n∧∀ (i:Nat) (x:α),l[i]? = some x→R i x
 |0,_=>⟨[],rfl,by simp⟩
 |n+1,h=>by
  obtain⟨l,h1,h2⟩:=build n fun i hi=>h i (by omega);obtain⟨x,hx⟩:=h n (by omega);refine⟨l++[x],by simp[h1],fun i y hy => ?_⟩;rcases D9 i l.length with hi|hi
  ·rw[B7 hi] at hy;exact h2 i y hy
  ·rw[B6 hi] at hy;have:i-l.length=0:=by
    rcases A2n (i-l.length) with h|h
    ·exact h
    ·rw[T1 (by simp;omega)] at hy;cases hy
   rw[this] at hy;simp only[E8,C3] at hy;subst hy;have:i=n:=by omega
   rw[this];exact hx
section
variable {H:Type} {enc:TypeId×Value→H} {P:Program} {W:World} {spare:Nat→Bool} {held:Bool} {M:MT}
abbrev A4l(W:World):NT:=fun b _=>b<W.heap.size
theorem A7J{t:TypeId}{ts:List TypeId}{d:DataW H}{ds:List (DataW H)}{B:Nat}(h:∀ n∈DataW.weightsEach P (t :: ts) (d :: ds),n≤B):(∀ n∈DataW.weights P t d,n≤B)∧∀ n∈DataW.weightsEach P ts ds,n≤B:=by
 simp only[DataW.weightsEach,C9] at h;exact⟨fun n hn=>h n (.inl hn),fun n hn=>h n (.inr hn)⟩
theorem A7f{e:TypeId}{B:Nat}:∀ {ds:List (DataW H)},(∀ n∈DataW.weightsAll P e ds,n≤B)→∀ d∈ds,∀ n∈DataW.weights P e d,n≤B
 |d :: ds,h,d',hd,n,hn=>by
  simp only[DataW.weightsAll,C9] at h;rcases D8.1 hd with rfl|hd
  ·exact h n (.inl hn)
  ·exact A7f (fun n hn=>h n (.inr hn)) d' hd n hn
theorem B67{b o sz:Nat}:∀ {rows:List AV},(∀ (i:Nat) (y:AV),rows[i]? = some y→I0 W (A4l W) M b (o+i*sz) y.cells []∧y.cells.length=sz)→I0 W (A4l W) M b o (rows.flatMap AV.cells) []
 |[],_=>.nil _ _
 |y :: rows,h=>by
  rw[F0];obtain⟨h1,h2⟩:=h 0 y rfl;rw[A2m,H2] at h1;refine I0.join (L1:=[]) (L2:=[]) h1 (B67 (sz:=sz) fun i z hz => ?_);have:=h (i+1) z (by simpa using hz);rw[h2,show o+sz+i*sz=o+(i+1)*sz from by rw[A06];omega];exact this
theorem C4v:∀ (m:Nat) (t:TypeId) (sh:SH),A9w P m t=some sh→∀ (fuel:Nat) (cs:List Value) (d:DataW H) (ps:List MemPlace),DataW.trod enc P W 0 spare held fuel t cs=some (d,ps) →
  (∀ n∈DataW.weights P t d,n≤reachBytes)→∃ xs,shC sh xs∧F5 W (A4l W) M xs cs []∧(K9 P t=false→∃ x,xs=[x]∧x.cells=[x]):=by
 intro m;induction m with
 |zero=>intro t sh h;cases h
 |succ m ih =>
  intro t sh hsh fuel cs d ps ht hw;simp only[A9w] at hsh;split at hsh
  ·rename_i hu;cases hsh;obtain⟨b,rfl,e⟩:=DataW.trod_bool hu ht;exact⟨_,⟨b,rfl⟩,.cons (L1:=[]) (L2:=[]) (.val _) .nil,fun _=>⟨_,rfl,rfl⟩⟩
  ·rename_i k hu;cases hsh;obtain⟨n,rfl,e,hwf⟩:=DataW.trod_int hu ht;simp only[Lit.wf,A6,D7] at hwf;exact⟨_,⟨n,hwf.1,hwf.2,rfl⟩,.cons (L1:=[]) (L2:=[]) (.val _) .nil,fun _=>⟨_,rfl,rfl⟩⟩
  ·rename_i hu;cases hsh;obtain⟨s,rfl,e,hm⟩:=DataW.trod_string hu ht;cases e;refine⟨_,⟨s,?_,rfl⟩,.cons (L1:=[]) (L2:=[]) (.val _) .nil,fun _=>⟨_,rfl,rfl⟩⟩;have:=hw s.data.toList.length (by simp[DataW.weights]);simpa using this
  ·rename_i e hu;split at hsh
   ·cases hsh
   ·rename_i h0;simp only[not_or,not_and,ne_eq,Decidable.not_not] at h0;split at hsh
    ·rename_i x hx;cases hsh;rcases DataW.trod_slice hu ht with⟨rfl,h1⟩|⟨a,len,cap,elems,rest,n,_,rfl,h1,_,hl,_,hlen,hel,_,_⟩
     ·exact⟨[.sl false (P.cellsOf e) []],⟨[],by simp,by simp,rfl⟩,.cons (L1:=[]) (L2:=[]) (.slI0 _ _ _) .nil,fun _=>⟨_,rfl,rfl⟩⟩
     ·cases h1;have hwl:(elems.map (·.1)).length*P.bytesOf e≤reachBytes∧∀ d'∈elems.map (·.1),∀ n∈DataW.weights P e d',n≤reachBytes:=by
       simp only[DataW.weights,hu,D8,C9] at hw;refine⟨?_,A7f fun n hn=>hw n (.inr (.inl hn))⟩;exact S2 (O2 _ (w4 _ _)) (hw _ (.inl rfl))
      by_cases hlen0:len=0
      ·subst hlen0;exact⟨[.sl false (P.cellsOf e) []],⟨[],by simp,by simp,rfl⟩,.cons (L1:=[]) (L2:=[]) (.slI0 _ _ _) .nil,fun _=>⟨_,rfl,rfl⟩⟩
      have hel':∀ i,i<len→∃ cs' x',W.cells? 0 (a.add (i*P.cellsOf e)) (P.cellsOf e)=some cs'∧DataW.trod enc P W 0 spare held n e cs'=some x'∧x'∈elems:=by
       intro i hi;have h1:=hel i hi;have hi':i<elems.length:=by omega
       rw[D1 hi',U7] at h1;obtain⟨cs',h2,h3⟩:=h1;exact⟨cs',_,h2,h3,C2 hi'⟩
      have hpos:0<P.cellsOf e:=A4W h0.1;have hsp:a.spot=none∧a.block<W.heap.size:=by
       obtain⟨cs',x',h2,_,_⟩:=hel' 0 (by omega);obtain⟨_,h4,h5⟩:=World.cells?_some h2;have hc0:=h5 0 hpos;have e1:(a.add (0*P.cellsOf e)).add 0=a:=by simp[Addr.add]
       rw[e1,D1 (by omega)] at hc0;unfold World.cell? at hc0;split at hc0
       ·rename_i c t fz hb;refine⟨?_,A5q hb⟩;cases hs:a.spot with
        |none=>rfl
        |some q=>rw[hs] at hc0;simp at hc0
       ·cases hc0
      obtain⟨ab,ao,asp⟩:=a;obtain⟨rfl,hab⟩:=hsp;have each:∀ i,i<len→∃ r:List AV,shC x r∧(mkr (K9 P e) r).cells=r∧r.length=P.cellsOf e∧I0 W (A4l W) M ab (ao+i*P.cellsOf e) r []:=by
       intro i hi;obtain⟨cs',x',h2,h3,hm⟩:=hel' i hi;obtain⟨_,h4,h5⟩:=World.cells?_some h2;obtain⟨r,k1,k2,k3⟩:=ih e x hx n cs' x'.1 x'.2 h3 (hwl.2 _ (L9 hm));have hrl:=k2.length;refine⟨r,k1,?_,by omega,I0.of_values k2 fun j hj => ?_⟩
       ·unfold mkr;split
        ·rfl
        ·rename_i hag;obtain⟨y,rfl,e2⟩:=k3 (by simpa using hag);exact e2
       ·have:=h5 j (by omega);rw[A2d,A2d] at this;exact this
      obtain⟨rows,r1,r2⟩:=build len each;have hrow:∀ i y,(rows.map (mkr (K9 P e)))[i]? = some y→I0 W (A4l W) M ab (ao+i*P.cellsOf e) y.cells []∧y.cells.length=P.cellsOf e:=by
       intro i y hy;rw[H3] at hy;cases hr:rows[i]? with
       |none=>rw[hr] at hy;cases hy
       |some r =>
        rw[hr] at hy;simp only[F8,C3] at hy;subst hy;obtain⟨_,q2,q3,q4⟩:=r2 i r hr;rw[q2];exact⟨q4,q3⟩
      have hml:(rows.map (mkr (K9 P e))).length=len:=by simp[r1]
      have hrep:=Rep.slI (w:=W) (N:=A4l W) (M:=M) (cap:=cap) (B67 hrow) (fun y hy=>by
       obtain⟨i,hi,rfl⟩:=u6 hy;exact(hrow i _ (D1 hi)).2) (fun _ _=>hab) (by omega)
      rw[hml] at hrep;refine⟨_,⟨rows,fun r hr => ?_,?_,rfl⟩,.cons (L1:=[]) (L2:=[]) hrep .nil,fun _=>⟨_,rfl,rfl⟩⟩
      ·obtain⟨i,hi,rfl⟩:=u6 hr;exact(r2 i _ (D1 hi)).1
      ·have:=hwl.1;rw[C7,hlen] at this;rw[r1];exact this
    ·cases hsh
  ·rename_i fs hu;split at hsh
   ·rename_i l hl;cases hsh;obtain⟨xs,n,_,h1,hlen,hxl,hf⟩:=DataW.trod_struct hu ht;cases h1;have hall:O6 (fun (f:Field) (x:DataW H×List MemPlace)=>DataW.trod enc P W 0 spare held n f.type ((cs.drop f.offset).take (P.cellsOf f.type))=some x) fs.toList xs :=
     B8G (by simp[hxl]) fun i f x h1 h2=>by rw[hf i f (by simpa using h1),h2]
    have key:∀ (fl:List Field) (xs:List (DataW H×List MemPlace)) (l:List SH) (off:Nat),O6 (fun (f:Field) (x:DataW H×List MemPlace)=>DataW.trod enc P W 0 spare held n f.type ((cs.drop f.offset).take (P.cellsOf f.type))=some x) fl xs →
      B6z P (A9w P m) (P.cellsOf t) off fl=some l→(∀ k∈DataW.weightsEach P (fl.map (·.type)) (xs.map (·.1)),k≤reachBytes)→∃ ys,B9f l ys∧F5 W (A4l W) M ys (cs.drop off) []:=by
     intro fl;induction fl with
     |nil =>
      intro xs l off ha hs _;simp only[B6z] at hs;split at hs
      ·rename_i e;cases hs;refine⟨[],rfl,?_⟩;rw[O7 (by omega)];exact .nil
      ·cases hs
     |cons f fl ihf =>
      intro xs l off ha hs hw';cases ha with
      |cons h1 h2 =>
       rename_i x xs';simp only[B6z] at hs;split at hs
       ·rename_i e;split at hs
        ·rename_i s1 l1 g1 g2;cases hs;obtain⟨w1,w2⟩:=A7J hw';obtain⟨ys,k1,k2,_⟩:=ih f.type s1 g1 n _ x.1 x.2 h1 w1;obtain⟨zs,k3,k4⟩:=ihf xs' l1 (off+P.cellsOf f.type) h2 g2 w2;refine⟨ys++zs,⟨ys,zs,k1,k3,rfl⟩,?_⟩;have:=F5.join (L1:=[]) (L2:=[]) k2 k4;rw[e,← A1m,G3] at this;exact this
        ·cases hs
       ·cases hs
    obtain⟨ys,k1,k2⟩:=key fs.toList xs l 0 hall hl (by simpa[DataW.weights,hu] using hw);refine⟨ys,k1,by simpa using k2,fun hag => ?_⟩;simp[K9,hu] at hag
   ·cases hsh
  ·cases hsh
end
end Go.Proofs.YtkmhopbmpeiofaaGreat.Nx
namespace Go.Proofs.YtkmhopbmpeiofaaGreat.Nx
open Go Go.RowKit
section
variable {H:Type} {enc:TypeId×Value→H} {P:Program} {W:World} {spare:Nat→Bool} {held:Bool} {M:MT}
theorem C7k{m base:Nat}{t:TypeId}{sh:SH}(hsh:A9w P m t=some sh){v:Value}{d:DataW H}{ps:List MemPlace}(hok:Value.okWide P W .any base t v)(ht:DataW.Trod enc P W 0 spare held t v d ps)(hw:∀ n∈DataW.weights P t d,n≤reachBytes) :
  ∃ xs,shC sh xs∧Rep W (A4l W) M (mkr (K9 P t) xs) v []:=by
 obtain⟨fuel,hf⟩:=ht;obtain⟨xs,h1,h2,h3⟩:=C4v (M:=M) m t sh hsh fuel v.cells.toList d ps hf hw;refine⟨xs,h1,?_⟩;cases m with
 |zero=>cases hsh
 |succ m =>
  have one:K9 P t=false→v.cells.toList=[v]→Rep W (A4l W) M (mkr (K9 P t) xs) v []:=fun ha hv=>by
   obtain⟨x,rfl,_⟩:=h3 ha;rw[hv] at h2;rw[ha];have:=h2.get 0;simpa[mkr] using this
  simp only[A9w] at hsh;split at hsh
  ·rename_i hu;obtain⟨b,rfl⟩:=WideShapes.okWide_bool hu hok;exact one (by simp[K9,hu]) rfl
  ·rename_i k hu;obtain⟨n,rfl⟩:=WideShapes.okWide_int hu hok;exact one (by simp[K9,hu]) rfl
  ·rename_i hu;obtain⟨s,rfl⟩:=WideShapes.okWide_string hu hok;exact one (by simp[K9,hu]) rfl
  ·rename_i e hu;obtain⟨a,len,cap,rfl⟩:=WideShapes.okWide_slice hu hok;exact one (by simp[K9,hu]) rfl
  ·rename_i fs hu;obtain⟨cs,rfl,_⟩:=WideShapes.okWide_struct hu hok;have ha:K9 P t=true:=by simp[K9,hu]
   rw[ha];obtain⟨cs⟩:=cs;exact .agg h2
  ·cases hsh
theorem C0K{f:FuncId}{avs:List AV}{vs:List Value}(hac:AC P f avs [] (Is (bv true) []))(hr:F5 W (A4l W) (fun _=>none) avs vs []) :
  Calls P f ⟨vs⟩ W fun e W'=>e=.returned (.bool true)∧Below W.heap.size W W':=by
 refine(hac.2 W (A4l W) (fun _=>none) [] vs ⟨.nil _,by simp,fun p hp=>(by cases hp),fun b o h=>h,fun _ _=>rfl⟩ hr).mono fun e W' ⟨r,e1,x,hp,N',M',L',b⟩ => ?_;obtain⟨rfl,rfl⟩:=b.post;have hrep:=b.rep;cases hrep;exact⟨e1,b.fr.os,b.fr.tape,b.fr.output,b.fr.size,fun k hk=>b.fr.block k hk (by simp)⟩
theorem B9v{ts:List TypeId}{ds:List (DataW H)}(h:(DataW.weightsEach P ts ds).all (· ≤ reachBytes)=true){j:Nat}{t:TypeId}{d:DataW H}(ht:ts[j]? = some t)(hd:ds[j]? = some d):∀ n∈DataW.weights P t d,n≤reachBytes:=fun n hn=>by
 have:=D6.1 h n (DataW.weights_mem_each ht hd n hn);simpa using this
end
open Go Go.RowKit
inductive Ty where
 |i (k:IntKind)
 |bl
 |tx
 |sl (t:Ty)
 |sv (t:Ty)
 |pr (a b:Ty)
 |st (t:Ty)
 |ar (n:Nat) (k:IntKind)
 deriving DecidableEq
@[reducible] def Den:Ty→Type
 |.i _=>Int
 |.bl=>Bool
 |.tx=>ByteArray
 |.sl t=>List (Den t)
 |.sv t=>List (Den t)
 |.pr a b=>Den a×Den b
 |.st t=>Den t
 |.ar _ _=>List Int
def dft:(T:Ty)→Den T
 |.i _=>(0:Int)
 |.bl=>false
 |.tx=>ByteArray.empty
 |.sl _=>[]
 |.sv _=>[]
 |.pr a b=>(dft a,dft b)
 |.st t=>dft t
 |.ar n _=>List.replicate n (0:Int)
def Ty.sz:Ty→Nat
 |.pr a b=>a.sz+b.sz
 |.st t=>t.sz
 |.ar n _=>n
 |_=>1
def Ty.ag:Ty→Bool
 |.st _=>true
 |.pr _ _=>true
 |.ar _ _=>true
 |_=>false
def Ty.flat:Ty→Bool
 |.sl _=>false
 |.pr a b=>a.flat&&b.flat
 |.st t=>t.flat
 |_=>true
def Ty.nov:Ty→Bool
 |.sv _=>false
 |.sl t=>t.nov
 |.pr a b=>a.nov&&b.nov
 |.st t=>t.nov
 |_=>true
def Ty.nsl:Ty→Nat
 |.sl _=>1
 |.pr a b=>a.nsl+b.nsl
 |.st t=>t.nsl
 |_=>0
@[reducible] def A3P:Ty→Type
 |.sl t=>List (Den t)
 |.pr a b=>A3P a×A3P b
 |.st t=>A3P t
 |_=>Unit
def arC(n:Nat)(k:IntKind)(x:List Int):List AV:=(List.range n).map fun i=>.val (.int k (x.getD i 0))
def cls(o:Bool):(T:Ty)→Den T→List AV
 |.i k,x=>[.val (.int k x)]
 |.bl,x=>[.val (.bool x)]
 |.tx,x=>[.val (.string x)]
 |.sl t,x=>[.sl o t.sz (x.map fun y=>mkr t.ag (cls o t y))]
 |.sv t,x=>[.sl false t.sz (x.map fun y=>mkr t.ag (cls false t y))]
 |.pr a b,x=>cls o a x.1++cls o b x.2
 |.st t,x=>cls o t x
 |.ar n k,x=>arC n k x
def enc(o:Bool)(T:Ty)(x:Den T):AV:=mkr T.ag (cls o T x)
inductive TV where
 |any
 |v (T:Ty) (x:Den T)
 |c (v:Value)
 |nil
 |emp
 |ag (cs:List TV)
 |tp (vs:List TV)
 |own (j:Nat)
 |sub (j off len:Nat)
 |ptr (j row off:Nat)
 |ipv (T:Ty) (x:Den T) (off:Nat)
 |ipt (cs:List TV)
 |fn (f:FuncId) (cap:List TV)
def W8:(T:Ty)→Den T→List TV
 |.i k,x=>[.v (.i k) x]
 |.bl,x=>[.v .bl x]
 |.tx,x=>[.v .tx x]
 |.sl t,x=>[.v (.sl t) x]
 |.sv t,x=>[.v (.sl t) x]
 |.pr a b,x=>W8 a x.1++W8 b x.2
 |.st t,x=>W8 t x
 |.ar n k,x=>(List.range n).map fun i=>.v (.i k) (x.getD i (0:Int))
inductive TB where
 |box (cs:List TV)
 |arr (T:Ty) (o:Bool) (L:List (Den T))
 |rws (T:Ty) (R:List (List TV))
 |hol (T:Ty) (L:List (Den T)) (row off:Nat) (c:TV)
 |tld (T:Ty) (L:List (Den T)) (row:Nat) (cs:List TV)
 |log (T:Ty) (L:List (Den T))
 |ara (n:Nat) (k:IntKind) (L:List Int)
def TB.rlen:TB→Option Nat
 |.box _=>none
 |.arr _ _ L=>some L.length
 |.rws _ R=>some R.length
 |.hol _ L _ _ _=>some L.length
 |.tld _ L _ _=>some L.length
 |.log _ L=>some L.length
 |.ara _ _ _=>none
abbrev THP:=List (Option TB)
def hpk(hp:THP)(j:Nat):Option (Option Nat) :=
 match hp[j]? with
 |some (some b)=>some b.rlen
 |_=>none
structure TS where
 u:List (Nat×TV)
 hp:THP
mutual
def av(hp:THP):TV→AV
 |.any=>.any
 |.v T x=>enc false T x
 |.c v=>.val v
 |.nil=>.val (.slice none 0 0)
 |.emp=>.sl true 0 []
 |.ag cs=>.agg (avL hp cs)
 |.tp vs=>.tup (avL hp vs)
 |.own j=>match hpk hp j with
  |some (some l)=>.ref j l 0 l
  |_=>.any
 |.sub j off len=>match hpk hp j with
  |some (some l)=>.ref j l off len
  |_=>.any
 |.ptr j row off=>match hpk hp j with
  |some (some l)=>.ptr j l row off
  |some none=>.ptr j 1 row off
  |_=>.any
 |.ipv T x off=>.ipt ((cls false T x).drop off)
 |.ipt cs=>.ipt (avL hp cs)
 |.fn f cs=>.fn f (avL hp cs)
def avL(hp:THP):List TV→List AV
 |[]=>[]
 |x :: xs=>av hp x :: avL hp xs
end
theorem O8(hp:THP):∀ xs,avL hp xs=xs.map (av hp)
 |[]=>rfl
 |x :: xs=>by rw[avL,O8 hp xs];rfl
def f8(hp:THP)(j:Nat):Bool :=
 match hpk hp j with
 |some (some _)=>true
 |_=>false
def TV.c1(hp:THP):TV→Bool
 |.v (.st _) _=>false
 |.v (.pr _ _) _=>false
 |.v (.ar _ _) _=>false
 |.v _ _=>true
 |.c (.agg _)=>false
 |.c (.tuple _)=>false
 |.c _=>true
 |.nil=>true
 |.own j=>f8 hp j
 |.sub j _ _=>f8 hp j
 |.ipv _ _ _=>true
 |.ipt _=>true
 |_=>false
def cav(hp:THP)(x:TV):AV:=bif x.c1 hp then av hp x else .any
def tb(hp:THP):TB→Blk
 |.box cs=>⟨cs.length,0,[.agg (cs.map (cav hp))],0⟩
 |.arr T o L=>⟨T.sz,0,L.map (enc o T),0⟩
 |.rws T R=>⟨T.sz,0,R.map fun cs=>mkr T.ag (cs.map (cav hp)),0⟩
 |.hol T L row off c=>⟨T.sz,0,(L.map (enc true T)).set row (.agg ((cls true T (L.getD row (dft T))).set off (cav hp c))),0⟩
 |.tld T L row cs=>⟨T.sz,0,(L.map (enc true T)).set row (.agg (cs.map (cav hp))),0⟩
 |.log T L=>⟨T.sz,L.length,L.map (enc false T),L.length⟩
 |.ara n k L=>⟨n,0,[.agg (arC n k L)],0⟩
def F1(hp:THP):HP:=hp.map (Option.map (tb hp))
def D2(n:Nat)(t:TS):AS:=E n (F1 t.hp) (t.u.map fun p=>(p.1,av t.hp p.2))
def fnd:List (Nat×TV)→Nat→TV
 |[],_=>.any
 |p :: u,k=>bif Nat.beq p.1 k then p.2 else fnd u k
def TS.get(n:Nat)(t:TS)(k:Nat):TV:=bif Nat.blt k n then fnd t.u k else .any
def TS.put(t:TS)(d:Option Nat)(x:TV):TS :=
 match d with
 |some d=>{ t with u:=(d,x) :: t.u }
 |none=>t
def leaf:Value→TV
 |.int k n=>.v (.i k) n
 |.bool b=>.v .bl b
 |.string s=>.v .tx s
 |.slice none 0 0=>.nil
 |v=>.c v
def C44:Value→TV
 |.agg cs=>.ag (cs.toList.map leaf)
 |v=>leaf v
def TS.ev(n:Nat)(t:TS):Operand→TV
 |.tmp k=>t.get n k
 |.const v=>C44 v
 |.func f=>.fn f []
 |.global _=>.any
open Go Go.RowKit
def chk{Ω:Type}(c:Option Bool)(k:Option Ω):Option Ω :=
 match c with
 |none=>k
 |some b=>cond b k none
def pin(a r:Int):Int:=match a with
 |.ofNat _=>r
 |.negSucc _=>r
theorem B6y(a r:Int):pin a r=r:=by cases a<;>rfl
def C7n(n:Nat):Int:=match n with
 |0=>0
 |n+1=>Int.ofNat (n+1)
theorem C6n(n:Nat):C7n n=(n:Int):=by cases n<;>rfl
def bu(s:ByteArray)(i:Int):Int:=C7n (s.data.toList.getD i.toNat 0).toNat
theorem C92(s:ByteArray)(i:Int):bu s i=bt s i:=C6n _
def A7H(k:IntKind)(a c:Int):Int:=pin a (k.wrap (BitVec.ofInt k.bits a &&& BitVec.ofInt k.bits c).toNat)
def orI(k:IntKind)(a c:Int):Int:=pin a (k.wrap (BitVec.ofInt k.bits a ||| BitVec.ofInt k.bits c).toNat)
def C0s(k:IntKind)(a c:Int):Int:=pin a (k.wrap (BitVec.ofInt k.bits a ^^^ BitVec.ofInt k.bits c).toNat)
def C5s(k:IntKind)(a c:Int):Int:=pin a (k.wrap (BitVec.ofInt k.bits a &&& ~~~ BitVec.ofInt k.bits c).toNat)
def A4k(k:IntKind)(a c:Int):Int:=pin a (k.wrap (a*2 ^ (min c.toNat k.bits)))
def Q4(k:IntKind)(a c:Int):Int:=pin a (a.fdiv (2 ^ (min c.toNat k.bits)))
def D0m(k:IntKind)(m:Int):Int:=k.wrap (BitVec.ofInt k.bits (if k.signed then -1 else k.max) ^^^ BitVec.ofInt k.bits m).toNat
def and2:Option Bool→Option Bool→Option Bool
 |none,y=>y
 |some a,none=>some a
 |some a,some b=>some (a&&b)
def ok_(b:Bool):Option Bool:=cond b none (some false)
def cst{A:Ty}(B:Ty)(x:Den A):Option (Den B):=if h:A=B then some (h▸x) else none
def Ty.un:Ty→Ty
 |.sl t=>.sl t.un
 |.sv t=>.sl t.un
 |.pr a b=>.pr a.un b.un
 |.st t=>.st t.un
 |.i k=>.i k
 |.bl=>.bl
 |.tx=>.tx
 |.ar n k=>.ar n k
theorem A1j:∀ T:Ty,Den T.un=Den T
 |.sl t=>congrArg List (A1j t)
 |.sv t=>congrArg List (A1j t)
 |.pr a b=>by show(Den a.un×Den b.un)=(Den a×Den b);rw[A1j a,A1j b]
 |.st t=>A1j t
 |.i _=>rfl
 |.bl=>rfl
 |.tx=>rfl
 |.ar _ _=>rfl
theorem C74{A B:Ty}(h:A.un=B.un):Den A=Den B:=by rw[← A1j A,← A1j B,h]
def B9P{A:Ty}(T:Ty)(x:Den A):Option (Den T):=if h:A.un=T.un then some (cast (C74 h) x) else none
def A5u{A:Ty}(T:Ty)(x:Den A):Option (Den T):=match cst T x with
 |some y=>some y
 |none=>B9P T x
def arL(k:IntKind):List TV→Option (List Int)
 |[]=>some []
 |c :: cs=>match c with
  |.v A x=>(match cst (.i k) x with
   |some y=>(match arL k cs with
    |some l=>some (y :: l)
    |none=>none)
   |none=>none)
  |_=>none
def B1f(n:Nat)(k:IntKind)(cs:List TV):Option (List Int):=bif Nat.beq cs.length n then arL k cs else none
mutual
def B2u:(T:Ty)→TV→Option (Den T)
 |.st t,.ag cs=>match m6 t cs with
  |some (x,[])=>some x
  |_=>none
 |.ar n k,.ag cs=>B1f n k cs
 |.sv t,.v A x=>A5u (.sl t) x
 |T,.v A x=>A5u T x
 |.sl _,.nil=>some []
 |.sv _,.nil=>some []
 |_,_=>none
def m6:(T:Ty)→List TV→Option (Den T×List TV)
 |.pr a b,cs=>match m6 a cs with
  |some (x,cs)=>match m6 b cs with
   |some (y,cs)=>some ((x,y),cs)
   |none=>none
  |none=>none
 |.st t,cs=>m6 t cs
 |.i k,c :: cs=>match c with | .v A x=>(match cst (.i k) x with|some x=>some (x,cs)|none=>none)|_=>none
 |.bl,c :: cs=>match c with | .v A x=>(match cst .bl x with|some x=>some (x,cs)|none=>none)|_=>none
 |.tx,c :: cs=>match c with | .v A x=>(match cst .tx x with|some x=>some (x,cs)|none=>none)|_=>none
 |.sl t,c :: cs=>match c with | .v A x=>(match cst (.sl t) x with|some x=>some (x,cs)|none=>none) | .nil=>some ([],cs)|_=>none
 |.sv t,c :: cs=>match c with | .v A x=>(match cst (.sl t) x with|some x=>some (x,cs)|none=>none) | .nil=>some ([],cs)|_=>none
 |.ar _ _,_ :: _=>none
 |_,[]=>none
end
def TV.cs:TV→List TV
 |.v (.st t) x=>W8 t x
 |.v (.ar n k) x=>W8 (.ar n k) x
 |.ag cs=>cs
 |x=>[x]
def TV.isA:TV→Bool
 |.v (.st _) _=>true
 |.v (.ar _ _) _=>true
 |.ag _=>true
 |_=>false
def A6v(hp:THP)(j:Nat):Bool :=
 match hp[j]? with
 |some (some _)=>true
 |_=>false
def TV.fits(hp:THP)(n:Nat):TV→Bool
 |.v (.st t) _=>Nat.beq t.sz n
 |.v (.ar m _) _=>Nat.beq m n
 |.ag cs=>Nat.beq cs.length n&&cs.all (TV.c1 hp)
 |x=>Nat.beq n 1&&x.c1 hp
def A5N:(T:Ty)→Den T→Nat→Nat→Bool→TV
 |.st t,x,off,n,ag=>bif (Nat.beq off 0&&(Nat.beq n t.sz&&ag)) then .v (.st t) x else A5N t x off n ag
 |.pr a b,x,off,n,ag=>bif Nat.ble (off+n) a.sz then A5N a x.1 off n ag else bif Nat.ble a.sz off then A5N b x.2 (off-a.sz) n ag
   else .ag (((W8 a x.1++W8 b x.2).drop off).take n)
 |.i k,x,_,_,ag=>bif ag then .ag [.v (.i k) x] else .v (.i k) x
 |.bl,x,_,_,ag=>bif ag then .ag [.v .bl x] else .v .bl x
 |.tx,x,_,_,ag=>bif ag then .ag [.v .tx x] else .v .tx x
 |.sl t,x,_,_,ag=>bif ag then .ag [.v (.sl t) x] else .v (.sl t) x
 |.sv t,x,_,_,ag=>bif ag then .ag [.v (.sl t) x] else .v (.sl t) x
 |.ar n k,x,off,m,ag=>bif ag then(bif (Nat.beq off 0&&Nat.beq m n) then .v (.ar n k) x else .ag (((W8 (.ar n k) x).drop off).take m)) else .v (.i k) (x.getD off (0:Int))
def wrV(k:IntKind)(n:Int):TV :=
 match k with
 |.i64=>.v (.i .i64) (wrap64 n)
 |.u8=>.v (.i .u8) (n % 256)
 |.u32=>.v (.i .u32) (n % 4294967296)
 |.u64=>.v (.i .u64) (n % 18446744073709551616)
 |k=>.v (.i k) (wr k n)
theorem B6o(k:IntKind)(n:Int):wrV k n=.v (.i k) (wr k n):=by cases k<;>rfl
def C4V(b:BinOp)(k:IntKind)(a c:Int):TV :=
 match b with
 |.add=>wrV k (a+c)
 |.sub=>wrV k (a-c)
 |.mul=>wrV k (a*c)
 |.quo=>wrV k (a.tdiv c)
 |.rem=>.v (.i k) (a.tmod c)
 |.and=>.v (.i k) (A7H k a c)
 |.or=>.v (.i k) (orI k a c)
 |.xor=>.v (.i k) (C0s k a c)
 |.andNot=>.v (.i k) (C5s k a c)
 |.shl=>.v (.i k) (A4k k a c)
 |.shr=>.v (.i k) (Q4 k a c)
 |.eql=>.v .bl (decide (a=c))
 |.neq=>.v .bl (!decide (a=c))
 |.lss=>.v .bl (decide (a<c))
 |.leq=>.v .bl (decide (a≤c))
 |.gtr=>.v .bl (decide (c<a))
 |.geq=>.v .bl (decide (c≤a))
def C5y(b:BinOp)(c:Int):Option Bool :=
 match b with
 |.quo=>some (!decide (c=0))
 |.rem=>some (!decide (c=0))
 |.shl=>some (decide (0≤c))
 |.shr=>some (decide (0≤c))
 |_=>none
def C2k:BinOp→Bool
 |.shl=>true
 |.shr=>true
 |_=>false
def C4x(b:BinOp)(a c:ByteArray):TV :=
 match b with
 |.add=>.v .tx (a++c)
 |.eql=>.v .bl (decide (a=c))
 |.neq=>.v .bl (!decide (a=c))
 |.lss=>.v .bl (Op.bytesLess a.toList c.toList)
 |.leq=>.v .bl (Op.bytesLess a.toList c.toList||decide (a=c))
 |.gtr=>.v .bl (!(Op.bytesLess a.toList c.toList||decide (a=c)))
 |.geq=>.v .bl (!Op.bytesLess a.toList c.toList)
 |_=>.any
def C5S(b:BinOp)(a c:ByteArray):Option Bool :=
 match b with
 |.add=>some (decide (a.size+c.size≤4611686018427387904))
 |.eql | .neq | .lss | .leq | .gtr | .geq=>none
 |_=>some false
def B5I(a:Bool):Option Bool→Option Bool
 |none=>some a
 |some b=>some (a&&b)
def eqL:List CK→List TV→List TV→Option (Option Bool)
 |[],[],[]=>some none
 |.i k :: ks,.v (.i k1) a :: xs,.v (.i k2) c :: ys=>bif (decide (k=k1)&&decide (k=k2)) then(eqL ks xs ys).map (B5I (decide (a=c))) else none
 |.b :: ks,.v .bl a :: xs,.v .bl c :: ys=>(eqL ks xs ys).map (B5I (a==c))
 |.s :: ks,.v .tx a :: xs,.v .tx c :: ys=>(eqL ks xs ys).map (B5I (decide (a=c)))
 |_,_,_=>none
def C7s(neg e:Bool):Bool:=bif neg then !e else e
def TS.bd(n:Nat)(t:TS)(d:Int):Option Operand→Option Int
 |none=>some d
 |some x=>match t.ev n x with
  |.v (.i _) m=>some m
  |_=>none
def inB(l h m:Int):Bool:=decide (0≤l)&&(decide (l≤h)&&decide (h≤m))
abbrev RV:=Option Bool×TV
def bad:RV:=(some false,.any)
def C8b(n:Nat)(t:TS)(sz:Nat)(x:TV)(lo hi:Option Operand):RV :=
 match x with
 |.v (.sl T) L=>match t.bd n 0 lo,t.bd n L.length hi with
  |some l,some h=>(and2 (ok_ (Nat.beq T.sz sz)) (some (inB l h L.length)),.v (.sl T) ((L.drop l.toNat).take (h.toNat-l.toNat)))
  |_,_=>bad
 |.own j=>match t.hp[j]? with
  |some (some (.arr T _ L))=>match t.bd n 0 lo,t.bd n L.length hi with
   |some l,some h=>(and2 (ok_ (Nat.beq T.sz sz)) (some (inB l h L.length)),.sub j l.toNat (h.toNat-l.toNat))
   |_,_=>bad
  |_=>bad
 |.sub j off len=>match t.hp[j]? with
  |some (some (.arr T _ _))=>match t.bd n 0 lo,t.bd n len hi with
   |some l,some h=>(and2 (ok_ (Nat.beq T.sz sz)) (some (inB l h len)),.sub j (off+l.toNat) (h.toNat-l.toNat))
   |_,_=>bad
  |_=>bad
 |_=>bad
def B2Z(n:Nat)(t:TS)(x:Operand):Bool:=match t.ev n x with | .v (.i _) m=>decide (m=0)|_=>false
def B6g(hp:THP):TV→RV
 |.v (.sl _) L=>(none,.v (.i .i64) (L.length:Int))
 |.own j=>match hp[j]? with
  |some (some (.arr _ _ L))=>(none,.v (.i .i64) (L.length:Int))
  |some (some (.rws _ R))=>(none,.v (.i .i64) (R.length:Int))
  |_=>bad
 |.sub j _ len=>bif f8 hp j then(none,.v (.i .i64) (len:Int)) else bad
 |.nil=>(none,.v (.i .i64) (0:Int))
 |.emp=>(none,.v (.i .i64) (0:Int))
 |_=>bad
def C0k(n:Nat)(t:TS):List TV→List (Nat×Nat×Operand)→List TV
 |z,[]=>z
 |z,(off,m,x) :: ps=>C0k n t (z.take off++((t.ev n x).cs++z.drop (off+m))) ps
def B5o(n:Nat)(t:TS)(len:Nat):List (Nat×Nat×Operand)→Bool
 |[]=>true
 |(off,m,x) :: ps=>(t.ev n x).fits t.hp m&&(Nat.ble (off+m) len&&B5o n t len ps)
def txt(L:List Int):ByteArray:=⟨(L.map fun x=>UInt8.ofNat x.toNat).toArray⟩
def A6P:AV→TV
 |.val v=>leaf v
 |_=>.any
def A5c:AV→Bool
 |.val _=>true
 |_=>false
def B4W(p:Bool)(x y:TV):RV :=
 match x,y with
 |.v A x,.v B y=>match cst A y with
  |some y=>(none,.v A (cond p x y))
  |none=>bad
 |x,y=>(none,cond p x y)
def B0i:(T:Ty)→Nat→Nat→Bool
 |.st t,off,m=>B0i t off m
 |.pr a b,off,m=>(a.flat&&b.flat)||bif Nat.ble (off+m) a.sz then B0i a off m else bif Nat.ble a.sz off then B0i b (off-a.sz) m else false
 |T,_,_=>T.flat
def rd(n:Nat)(t:TS):NO→RV
 |.mv x=>(none,t.ev n x)
 |.pick c a b=>match t.ev n c with
  |.v .bl p=>B4W p (t.ev n a) (t.ev n b)
  |_=>bad
 |.bin b x y=>match t.ev n x,t.ev n y with
  |.v (.i k) a,.v (.i k') c=>(and2 (ok_ (C2k b||decide (k=k'))) (C5y b c),C4V b k a c)
  |.v .tx a,.v .tx c=>(C5S b a c,C4x b a c)
  |_,_=>bad
 |.eqb neg x y=>match t.ev n x,t.ev n y with
  |.v .bl a,.v .bl c=>(none,.v .bl (C7s neg (a==c)))
  |_,_=>bad
 |.eqs ks neg x y=>match eqL ks (t.ev n x).cs (t.ev n y).cs with
  |some e=>(ok_ ((t.ev n x).isA&&(t.ev n y).isA),.v .bl (C7s neg (e.getD true)))
  |none=>bad
 |.un u x=>match u,t.ev n x with
  |.not,.v .bl b=>(none,.v .bl !b)
  |.neg,.v (.i k) m=>(none,wrV k (0-m))
  |.xor,.v (.i k) m=>(none,.v (.i k) (D0m k m))
  |_,_=>bad
 |.cvi k x=>match t.ev n x with
  |.v (.i _) m=>(none,wrV k m)
  |_=>bad
 |.fad off x=>match t.ev n x with
  |.ptr j row o=>(ok_ (A6v t.hp j),.ptr j row (o+off))
  |.ipv T x o=>(none,.ipv T x (o+off))
  |.ipt cs=>(none,.ipt (cs.drop off))
  |_=>bad
 |.fld off m ag x=>match t.ev n x with
  |.v (.st T) x=>(ok_ (Nat.ble (off+m) T.sz&&(Nat.blt 0 m&&(ag||Nat.beq m 1))),A5N T x off m ag)
  |.ag cs=>(ok_ (Nat.ble (off+m) cs.length&&Nat.blt 0 m),bif ag then .ag ((cs.drop off).take m) else cs.getD off .any)
  |_=>bad
 |.iad sz x i=>match t.ev n x,t.ev n i with
  |.v (.sl T) L,.v (.i _) m=>(and2 (ok_ (Nat.beq T.sz sz)) (some (decide (0≤m)&&decide (m<L.length))),.ipv T (L.getD m.toNat (dft T)) 0)
  |.own j,.v (.i _) m=>match t.hp[j]? with
   |some (some (.arr T _ L))=>(and2 (ok_ (Nat.beq T.sz sz)) (some (decide (0≤m)&&decide (m<L.length))),.ptr j m.toNat 0)
   |some (some (.hol T L _ _ _))=>(and2 (ok_ (Nat.beq T.sz sz)) (some (decide (0≤m)&&decide (m<L.length))),.ptr j m.toNat 0)
   |some (some (.tld T L _ _))=>(and2 (ok_ (Nat.beq T.sz sz)) (some (decide (0≤m)&&decide (m<L.length))),.ptr j m.toNat 0)
   |_=>bad
  |.sub j off len,.v (.i _) m=>match t.hp[j]? with
   |some (some (.arr T _ _))=>(and2 (ok_ (Nat.beq T.sz sz)) (some (decide (0≤m)&&decide (m<len))),.ptr j (off+m.toNat) 0)
   |_=>bad
  |_,_=>bad
 |.aad sz len x i=>match t.ev n x,t.ev n i with
  |.ptr j row o,.v (.i _) m=>match t.hp[j]? with
   |some (some (.ara n' _ _))=>(and2 (ok_ (Nat.beq sz 1&&(Nat.ble len n'&&(Nat.beq row 0&&Nat.beq o 0)))) (some (decide (0≤m)&&decide (m<len))),.ptr j 0 m.toNat)
   |_=>bad
  |_,_=>bad
 |.ixa sz len ag x i=>match t.ev n x,t.ev n i with
  |.v (.ar n' k) L,.v (.i _) m=>(and2 (ok_ (Nat.beq sz 1&&(Nat.ble len n' && !ag))) (some (decide (0≤m)&&decide (m<len))),.v (.i k) (L.getD m.toNat (0:Int)))
  |_,_=>bad
 |.idx x i=>match t.ev n x,t.ev n i with
  |.v .tx s,.v (.i _) m=>(some (decide (0≤m)&&decide (m<s.size)),.v (.i .u8) (bu s m))
  |_,_=>bad
 |.ext x i=>match t.ev n x with
  |.tp vs=>(ok_ (Nat.blt i vs.length),vs.getD i .any)
  |_=>bad
 |.slc sz x lo hi=>C8b n t sz (t.ev n x) lo hi
 |.slz x lo hi mx=>(and2 (B6g t.hp (t.ev n x)).1 (ok_ (B2Z n t lo&&(B2Z n t hi&&B2Z n t mx))),.emp)
 |.sls x lo hi=>match t.ev n x with
  |.v .tx s=>match t.bd n 0 lo,t.bd n s.size hi with
   |some l,some h=>(some (inB l h s.size),.v .tx (s.extract l.toNat h.toNat))
   |_,_=>bad
  |_=>bad
 |.len x=>B6g t.hp (t.ev n x)
 |.lns x=>match t.ev n x with
  |.v .tx s=>(none,.v (.i .i64) (s.size:Int))
  |_=>bad
 |.mnx mx x y=>match t.ev n x,t.ev n y with
  |.v (.i k) a,.v (.i k') b=>(ok_ (decide (k=k')),.v (.i k) (if mx then(if b>a then b else a) else(if b<a then b else a)))
  |_,_=>bad
 |.nck x=>match t.ev n x with
  |.ptr j row o=>(ok_ (A6v t.hp j),.ptr j row o)
  |.ipv T x o=>(none,.ipv T x o)
  |.ipt cs=>(none,.ipt cs)
  |_=>bad
 |.mkf f cap=>(none,.fn f (cap.map (t.ev n)))
 |.bld z ps=>(ok_ (z.all A5c&&B5o n t z.length ps),.ag (C0k n t (z.map A6P) ps))
 |.ld m ag x=>match t.ev n x with
  |.ipv T x o=>(ok_ (Nat.ble (o+m) T.sz&&(Nat.blt 0 m&&(ag||Nat.beq m 1))),A5N T x o m ag)
  |.ipt cs=>(ok_ (Nat.ble m cs.length&&(Nat.blt 0 m&&((ag||Nat.beq m 1)&&(cs.take m).all (TV.c1 t.hp)))),bif ag then .ag (cs.take m) else cs.getD 0 .any)
  |.ptr j row o=>match t.hp[j]? with
   |some (some (.box cs))=>(ok_ (Nat.beq row 0&&(Nat.ble (o+m) cs.length&&(Nat.blt 0 m&&((ag||Nat.beq m 1)&&((cs.drop o).take m).all (TV.c1 t.hp))))),bif ag then .ag ((cs.drop o).take m) else cs.getD o .any)
   |some (some (.arr T ow L))=>(ok_ ((!ow||B0i T o m)&&(Nat.ble (o+m) T.sz&&(Nat.blt 0 m&&(ag||Nat.beq m 1)))),A5N T (L.getD row (dft T)) o m ag)
   |some (some (.hol T _ row' off' c))=>(and2 (ok_ (Nat.beq o off'&&(Nat.beq m 1&&(!ag&&(Nat.blt off' T.sz&&c.c1 t.hp))))) (some (Nat.beq row row')),c)
   |some (some (.ara n' k L))=>bif ag then(ok_ (Nat.beq row 0&&(Nat.beq o 0&&(Nat.beq m n'&&Nat.blt 0 m))),.v (.ar n' k) L)
     else(and2 (ok_ (Nat.beq row 0&&Nat.beq m 1)) (some (decide (o<n'))),.v (.i k) (L.getD o (0:Int)))
   |some (some (.tld _ _ row' cs))=>(and2 (ok_ (Nat.ble (o+m) cs.length&&(Nat.blt 0 m&&((ag||Nat.beq m 1)&&((cs.drop o).take m).all (TV.c1 t.hp))))) (some (Nat.beq row row')),bif ag then .ag ((cs.drop o).take m) else cs.getD o .any)
   |_=>bad
  |_=>bad
 |.cbs x=>match t.ev n x with
  |.v (.sl (.i .u8)) L=>(none,.v .tx (txt L))
  |.own j=>match t.hp[j]? with
   |some (some (.arr (.i .u8) _ L))=>(none,.v .tx (txt L))
   |_=>bad
  |_=>bad
 |_=>bad
end Go.Proofs.YtkmhopbmpeiofaaGreat.Nx
