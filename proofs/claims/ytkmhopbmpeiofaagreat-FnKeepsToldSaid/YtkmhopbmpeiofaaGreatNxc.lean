/- Operations on abstract values: sound, with no condition beyond those each lemma names. -/
import Derived.Laws.Append
import Derived.Laws.IdiomCopy
import Derived.Test.YtkmhopbmpeiofaaGreatNxb
set_option linter.unusedVariables false
set_option linter.unusedSimpArgs false
namespace Go.Proofs.YtkmhopbmpeiofaaGreat.Nx
open Go Go.RowKit
theorem I0.dropN{w:World}{N:NT}{M:MT}{b o:Nat}{xs:List AV}{K:List Nat}(h:I0 w N M b o xs K)(n:Nat):∃ K',I0 w N M b (o+n) (xs.drop n) K'∧(K=[]→K'=[]):=by
 rcases D9 xs.length n with hn|hn
 ·rw[O7 (by omega)];exact⟨[],.nil _ _,fun _=>rfl⟩
 ·have e:=G3 n xs;rw[← e] at h;obtain⟨A,B,rfl,h1,h2⟩:=h.append;rw[E7,X4 hn] at h2;exact⟨B,h2,fun hk=>(G9.1 hk).2⟩
theorem I0.takeN{w:World}{N:NT}{M:MT}{b o:Nat}{xs:List AV}{K:List Nat}(h:I0 w N M b o xs K)(n:Nat):∃ K',I0 w N M b o (xs.take n) K'∧(K=[]→K'=[]):=by
 have e:=G3 n xs;rw[← e] at h;obtain⟨A,B,rfl,h1,h2⟩:=h.append;exact⟨A,h1,fun hk=>(G9.1 hk).1⟩
theorem A3m{sz:Nat}{rows:List AV}(h:∀ y∈rows,y.cells.length=sz)(n:Nat)(hn:n≤rows.length):((rows.take n).flatMap AV.cells).length=n*sz:=by
 rw[v5 (sz:=sz) (fun y hy=>h y (Q0 hy)),E7,X4 hn]
theorem I0.row{w:World}{N:NT}{M:MT}{b o sz:Nat}{rows:List AV}{K:List Nat}(h:I0 w N M b o (rows.flatMap AV.cells) K)(hl:∀ y∈rows,y.cells.length=sz){i:Nat}(hi:i<rows.length) :
  ∃ K',I0 w N M b (o+i*sz) (rows.getD i .any).cells K'∧(K=[]→K'=[]):=by
 have e:rows=rows.take i++rows[i] :: rows.drop (i+1):=by rw[Z5 hi,G3]
 have eg:rows.getD i .any=rows[i]:=by simp[B3,hi]
 rw[eg];have h':=h;rw[e,O1,F0] at h';obtain⟨A,B,rfl,h1,h2⟩:=h'.append;rw[A3m hl i (by omega)] at h2;obtain⟨B1,B2,rfl,h3,h4⟩:=h2.append;exact⟨B1,h3,fun hk=>(G9.1 (G9.1 hk).2).1⟩
theorem I0.rows{w:World}{N:NT}{M:MT}{b o sz:Nat}{rows:List AV}{K:List Nat}(h:I0 w N M b o (rows.flatMap AV.cells) K)(hl:∀ y∈rows,y.cells.length=sz)(l n:Nat)(hln:l+n≤rows.length) :
  ∃ K1 K2 K3,K=K1++(K2++K3)∧I0 w N M b (o+l*sz) (((rows.drop l).take n).flatMap AV.cells) K2:=by
 have e:rows=rows.take l++((rows.drop l).take n++(rows.drop l).drop n):=by rw[G3,G3]
 have h':=h;rw[e,O1,O1] at h';obtain⟨A,B,rfl,h1,h2⟩:=h'.append;rw[A3m hl l (by omega)] at h2;obtain⟨B1,B2,rfl,h3,h4⟩:=h2.append;exact⟨A,B1,B2,rfl,h3⟩
theorem A2d(b o n:Nat):(⟨b,o,none⟩:Addr).add n=⟨b,o+n,none⟩:=by
 unfold Addr.add;split
 ·subst_vars;rfl
 ·rfl
theorem A45{P:Program}{w:World}{b o:Nat}:∀ (vs:List Value) (i:Nat) (acc:Array Value),(∀ j,j<vs.length→w.cell? ⟨b,o+i+j,none⟩=vs[j]?) →
  (loadCellsFrom ⟨b,o,none⟩ i vs.length acc).run P w=.ok (acc++⟨vs⟩) w
 |[],i,acc,_=>by simp[loadCellsFrom]
 |v :: vs,i,acc,h=>by
  have h0:=h 0 (by simp);simp only[H2,E8] at h0;rw[B5,loadCellsFrom];simp only[Sem.run_bind,run_load,A2d,h0,Result.andThen_ok];rw[A45 vs (i+1) (acc.push v) fun j hj=>by
   have:=h (j+1) (by simp;omega);rw[show o+(i+1)+j=o+i+(j+1) from by omega,this];simp]
  simp
theorem A2Z{P:Program}{w:World}{b o:Nat}(vs:List Value)(h:∀ j,j<vs.length→w.cell? ⟨b,o+j,none⟩=vs[j]?) :
  (loadCells ⟨b,o,none⟩ vs.length).run P w=.ok ⟨vs⟩ w:=by
 unfold loadCells;rw[A45 vs 0 #[] (by simpa using h)];simp
section
variable {P:Program} {C:Ctx} {s:AS} {a:Act} {w:World} {N:NT} {M:MT} {L:List (Nat×Nat)}
theorem H4.ptr(h:H4 C s a w N M L){x:Operand}{j ver row off:Nat}(hx:s.ev x=.ptr j ver row off)(hk:(s.hp.at j ver).isSome) :
  ∃ b m L1,s.hp.at j ver=some b∧M j=some (some m)∧BR w N M b m L1∧(∀ p∈H0 m L1,p∈L)∧s.hp[j]? = some (some b)∧b.rows.length=ver∧row<ver∧m.virt=false∧a.eval x=.pointer (some ⟨m.b,m.o+row*m.sz+off,none⟩):=by
 obtain⟨b,hb⟩:=n6.1 hk;obtain⟨hl,m,L1,h1,h2,h3,h4⟩:=h.blk hb;have r:=h.ev x;rw[hx] at r;generalize hu:a.eval x=u at r;cases r with
 |ptr mm hM hm =>
  rw[h1] at hM;cases hM;obtain⟨h5,h6⟩:=hm m rfl;obtain⟨h7,h8,h9⟩:=h6 (by rw[h2.len,hl]);exact⟨b,m,L1,hb,h1,h2,h3,h4,hl,by rw[← hl,← h2.len];exact h7,h8,by rw[h9]⟩
theorem C6a(h:H4 C s a w N M L){t:TypeId}{x:Operand}{i:Nat}{fs:Array Field}{f:Field}(hu:P.underlying t=some (.struct fs))(hf:fs[i]? = some f)(hn:P.cellsOf f.type≠0)(hc:A6C s (s.ev x)) :
  ∃ v,W4 P a (.fieldAddr t x i) v∧Rep w N M (apv s (.fad f.offset x)) v []:=by
 obtain⟨info,hi,hs⟩:=n5 (P:=P) (t:=f.type) rfl hn;have key:∀ b o,a.eval x=.pointer (some ⟨b,o,none⟩)→W4 P a (.fieldAddr t x i) (.pointer (some ⟨b,o+f.offset,none⟩)):=fun b o e w' o' ho=>by
  have e1:execOp a.eval o'=(do pure (.value (← Instr.fieldAt t (a.eval x) i))):=by unfold execOp;rw[ho]
  rw[e1,e];have hz:¬ info.size=0:=by rw[hs];exact hn
  simp[Instr.fieldAt,run_underlying hu,hf,Instr.sureAddr,fieldPlace,sizeOf,typeInfo,hi,hz,A2d]
 generalize hv:s.ev x=av at hc;cases av with
 |ptr j ver row off =>
  obtain⟨b,m,L1,h0,h1,h2,h3,h4,h5,h6,h7,h8⟩:=h.ptr hv hc;refine⟨_,key _ _ h8,?_⟩;simp only[apv,hv];refine .ptr (some m) h1 fun m' hm' => ?_;cases hm';rw[h2.len];refine⟨by omega,fun _=>⟨by omega,h7,?_⟩⟩;rw[G4]
 |ipt cs =>
  have r:=h.ev x;rw[hv] at r;generalize hu':a.eval x=u at r;cases r with
  |ipt r hN =>
   refine⟨_,key _ _ hu',?_⟩;simp only[apv,hv];obtain⟨K',r',hk'⟩:=r.dropN f.offset;rw[hk' rfl] at r';refine .ipt r' fun i' hi' => ?_;rw[I4] at hi';have:=hN (f.offset+i') (by omega);rw[← G4] at this;exact this
 |_=>exact hc.elim
theorem C6P(h:H4 C s a w N M L){t e:TypeId}{len:Nat}{x i:Operand}(hu:P.underlying t=some (.array len e))(hn:P.cellsOf e≠0)(hc:apc s (.aad (P.cellsOf e) len x i)) :
  ∃ v,W4 P a (.indexAddr t x i) v∧Rep w N M (apv s (.aad (P.cellsOf e) len x i)) v []:=by
 obtain⟨info,hi,hs⟩:=n5 (P:=P) (t:=e) rfl hn;obtain⟨c1,c2⟩:=hc;split at c2
 ·rename_i k n hi';obtain⟨g0,g1⟩:=c2;have key:∀ b o,a.eval x=.pointer (some ⟨b,o,none⟩)→W4 P a (.indexAddr t x i) (.pointer (some ⟨b,o+n.toNat*P.cellsOf e,none⟩)):=fun b o e1 w' o' ho=>by
   have e3:execOp a.eval o'=(do pure (.value (← Instr.indexAt t (a.eval x) (a.eval i)))):=by unfold execOp;rw[ho]
   rw[e3,e1,h.evv hi'];simp[Instr.indexAt,Instr.sureAddr,asIntOf,run_underlying hu,g0,g1,sizeOf,typeInfo,hi,hs,A2d]
  generalize hv:s.ev x=av at c1;cases av with
  |ptr j ver row off =>
   obtain⟨b,m,L1,h0,h1,h2,h3,h4,h5,h6,h7,h8⟩:=h.ptr hv c1;refine⟨_,key _ _ h8,?_⟩;simp only[apv,hv,hi'];refine .ptr (some m) h1 fun m' hm' => ?_;cases hm';rw[h2.len];refine⟨by omega,fun _=>⟨by omega,h7,?_⟩⟩;rw[G4]
  |ipt cs =>
   have r:=h.ev x;rw[hv] at r;generalize hu':a.eval x=u at r;cases r with
   |ipt r hN =>
    refine⟨_,key _ _ hu',?_⟩;simp only[apv,hv,hi'];obtain⟨K',r',hk'⟩:=r.dropN (n.toNat*P.cellsOf e);rw[hk' rfl] at r';refine .ipt r' fun i' hi' => ?_;rw[I4] at hi';have:=hN (n.toNat*P.cellsOf e+i') (by omega);rw[← G4] at this;exact this
  |_=>exact c1.elim
 ·exact c2.elim
theorem C6K(h:H4 C s a w N M L){x:Operand}(hc:A6C s (s.ev x)):∃ v,W4 P a (.nilCheck x) v∧Rep w N M (s.ev x) v []:=by
 refine⟨a.eval x,fun w' o ho => ?_,h.ev x⟩;have key:∀ b,a.eval x=.pointer (some b)→(execOp a.eval o).run P w'=.ok (.value (a.eval x)) w':=fun b e=>by
  unfold execOp;rw[ho];simp only[e];rfl
 generalize hv:s.ev x=av at hc;cases av with
 |ptr j ver row off =>
  obtain⟨b,m,L1,h0,h1,h2,h3,h4,h5,h6,h7,h8⟩:=h.ptr hv hc;exact key _ h8
 |ipt cs =>
  have r:=h.ev x;rw[hv] at r;generalize hu':a.eval x=u at r;cases r with
  |ipt r hN=>have:=key _ hu'; rw[hu'] at this;exact this
 |_=>exact hc.elim
theorem C68(h:H4 C s a w N M L){t e:TypeId}{x i:Operand}(hu:P.underlying t=some (.slice e))(hn:P.cellsOf e≠0)(hc:apc s (.iad (P.cellsOf e) x i)) :
  ∃ v,W4 P a (.indexAddr t x i) v∧Rep w N M (apv s (.iad (P.cellsOf e) x i)) v []:=by
 obtain⟨info,hi,hs⟩:=n5 (P:=P) (t:=e) rfl hn;have key:∀ b o len cap k n,a.eval x=.slice (some ⟨b,o,none⟩) len cap→a.eval i=.int k n→0≤n→n<len→W4 P a (.indexAddr t x i) (.pointer (some ⟨b,o+n.toNat*P.cellsOf e,none⟩)):=fun b o len cap k n e1 e2 g0 g1 w' o' ho=>by
  have e3:execOp a.eval o'=(do pure (.value (← Instr.indexAt t (a.eval x) (a.eval i)))):=by unfold execOp;rw[ho]
  rw[e3,e1,e2];simp[Instr.indexAt,asIntOf,run_underlying hu,g0,g1,sizeOf,typeInfo,hi,hs,A2d]
 simp only[apc] at hc;split at hc
 ·rename_i sz' rows k n hx hi';obtain⟨hsz,g0,g1⟩:=hc;have r:=h.ev x;rw[hx] at r;generalize hu':a.eval x=u at r;cases r with
  |slI0=>simp at g1;omega
  |slI r hl hN _ =>
   have hsz':sz'=P.cellsOf e:=by
    rcases hsz with rfl|rfl
    ·rfl
    ·simp at g1;omega
   subst hsz';refine⟨_,key _ _ _ _ _ _ hu' (h.evv hi') g0 g1,?_⟩;simp only[apv,hx,hi'];have hlt:n.toNat<rows.length:=by omega
   obtain⟨K',r',hk'⟩:=r.row hl hlt;rw[hk' rfl] at r';refine .ipt r' fun i' hi' => ?_;have hrow:(rows.getD n.toNat AV.any).cells.length=P.cellsOf e:=by
    rw[B3,D1 hlt];exact hl _ (C2 hlt)
   rw[hrow] at hi';rw[G4];refine hN _ ?_
   calc n.toNat*P.cellsOf e+i'<n.toNat*P.cellsOf e+P.cellsOf e:=by omega
    _=(n.toNat+1)*P.cellsOf e:=by rw[A2j]
    _≤rows.length*P.cellsOf e:=O2 _ hlt
 ·rename_i j ver off len k n hx hi';obtain⟨hsz,g0,g1⟩:=hc;split at hsz
  ·rename_i b hb;obtain⟨hl,m,L1,h1,h2,h3,h4⟩:=h.blk hb;have r:=h.ev x;rw[hx] at r;generalize hu':a.eval x=u at r;cases r with
   |ref mm hM hm =>
    rw[h1] at hM;cases hM;obtain⟨h5,h6⟩:=hm m rfl;obtain⟨h7,h8⟩:=h6 (by rw[h2.len,hl]);rcases h8 with⟨rfl,_⟩|⟨h8,rfl,h9,h10⟩
    ·simp at g1;omega
    ·refine⟨_,key _ _ _ _ _ _ hu' (h.evv hi') g0 g1,?_⟩;simp only[apv,hx,hi'];refine .ptr (some m) h1 fun m' hm' => ?_;cases hm';refine⟨h5,fun _=>⟨by omega,h8,?_⟩⟩;rw[A06,h2.sz,hsz,H2,G4]
  ·exact hsz.elim
 ·exact hc.elim
theorem C2G(h:H4 C s a w N M L){t:TypeId}{x:Operand}(hn:P.cellsOf t≠0){d:TypeDesc}(hd:P.underlying t=some d)(hc:apc s (.ld (if K9 P t then P.cellsOf t else 1) (K9 P t) x)) :
  ∃ v,A4L P a w (.load t x) v∧Rep w N M (apv s (.ld (if K9 P t then P.cellsOf t else 1) (K9 P t) x)) v []:=by
 obtain⟨info,hi,hs⟩:=n5 (P:=P) (t:=t) rfl hn;have hag:∀ w',(isAgg t).run P w'=.ok (K9 P t) w':=fun w'=>by
  unfold isAgg K9;rw[Sem.run_bind,run_underlying hd,Result.andThen_ok,hd];cases d<;>rfl
 have key:∀ b o vs,a.eval x=.pointer (some ⟨b,o,none⟩)→vs.length=(if K9 P t then P.cellsOf t else 1)→(∀ j,j<vs.length→w.cell? ⟨b,o+j,none⟩=vs[j]?) →
   A4L P a w (.load t x) (if K9 P t then .agg ⟨vs⟩ else vs.getD 0 undef):=fun b o vs e1 e2 e3' w' hk o' ho=>by
  have e3:∀ j,j<vs.length→w'.cell? ⟨b,o+j,none⟩=vs[j]? := fun j hj=>by
   have:=e3' j hj;rw[D1 hj] at this ⊢;exact hk _ _ this
  have e4:execOp a.eval o'=(do pure (.value (← Instr.loadAt t (a.eval x)))):=by unfold execOp;rw[ho]
  rw[e4,e1];simp only[Instr.loadAt,Instr.sureAddr,loadVar,Sem.run_bind,Sem.run_pure,Result.andThen_ok,hag];cases hb:K9 P t with
  |true =>
   rw[hb] at e2;simp only[H1] at e2;have:=A2Z (P:=P) vs e3;rw[e2] at this;simp[sizeOf,typeInfo,hi,hs,this]
  |false =>
   rw[hb] at e2;simp only[E0,E5] at e2;have h0:=e3 0 (by omega);rw[H2] at h0;cases vs with
   |nil=>simp at e2
   |cons v vs =>
    simp only[E8] at h0;simp[h0]
 obtain⟨c1,c2,c3,c4⟩:=hc;have fin:∀ b o K cs,cellsOf s (s.ev x)=cs→a.eval x=.pointer (some ⟨b,o,none⟩)→I0 w N M b o cs K →
   ∃ v,A4L P a w (.load t x) v∧Rep w N M (apv s (.ld (if K9 P t then P.cellsOf t else 1) (K9 P t) x)) v []:=fun b o K cs e1 e2 r=>by
  rw[e1] at c2 c4;obtain⟨K',r',_⟩:=r.takeN (if K9 P t then P.cellsOf t else 1)
  obtain⟨vs,r1,r2,r3⟩:=r'.values;have hK:K'=[]:=r1.bare c4;subst hK;have hl:vs.length=(if K9 P t then P.cellsOf t else 1):=by rw[r2,E7,X4 c2]
  refine⟨_,key _ _ vs e2 hl (fun j hj=>r3 j (by rw[← r2];exact hj)),?_⟩;simp only[apv,e1];cases hb:K9 P t with
  |true=>rw[hb] at r1;exact .agg r1
  |false =>
   simp only[E0,E5];have:=r1.get 0;rw[hb] at this c2;simp only[E0,E5] at this c2;cases cs with
   |nil=>simp at c2
   |cons c cs=>simpa using this
 generalize hv:s.ev x=av at c1;cases av with
 |ptr j ver row off =>
  obtain⟨b,m,L1,h0,h1,h2,h3,h4,h5,h6,h7,h8⟩:=h.ptr hv c1;obtain⟨K1,r1,_⟩:=h2.rep.row h2.cl (i:=row) (by omega);obtain⟨K2,r2,_⟩:=r1.dropN off;refine fin m.b (m.o+row*m.sz+off) K2 ((b.rows.getD row .any).cells.drop off) ?_ h8 (by rw[h2.sz];exact r2);rw[hv];simp[cellsOf,HP.row,h0]
 |ipt cs =>
  have r:=h.ev x;rw[hv] at r;generalize hu':a.eval x=u at r;cases r with
  |ipt r hN=>exact fin _ _ _ cs (by rw[hv];rfl) hu' r
 |_=>exact c1.elim
end
open Go Go.RowKit
theorem A68{rows:List AV}{off len:Nat}(h:off+len≤rows.length):(sub rows off len).length=len:=by
 unfold sub;split
 ·rename_i e;exact e.2
 ·simp;omega
theorem A13{rows:List AV}{off len:Nat}(h:off+len≤rows.length):sub rows off len=(rows.drop off).take len:=by
 unfold sub;split
 ·rename_i e;obtain⟨rfl,e⟩:=e;rw[N8,S0 (by omega)]
 ·rfl
section
variable {P:Program} {C:Ctx} {s:AS} {a:Act} {w:World} {N:NT} {M:MT} {L:List (Nat×Nat)}
theorem C6M(h:H4 C s a w N M L){t:TypeId}{x:Operand}{i:Nat}{fs:Array Field}{f:Field}(hu:P.underlying t=some (.struct fs))(hf:fs[i]? = some f)(hn:P.cellsOf f.type≠0){d:TypeDesc}(hd:P.underlying f.type=some d)
  (hc:apc s (.fld f.offset (P.cellsOf f.type) (K9 P f.type) x)) :
  ∃ v,W4 P a (.field t x i) v∧Rep w N M (apv s (.fld f.offset (P.cellsOf f.type) (K9 P f.type) x)) v []:=by
 obtain⟨info,hi,hs⟩:=n5 (P:=P) (t:=f.type) rfl hn;have hag:∀ w',(isAgg f.type).run P w'=.ok (K9 P f.type) w':=fun w'=>by
  unfold isAgg K9;rw[Sem.run_bind,run_underlying hd,Result.andThen_ok,hd];cases d<;>rfl
 simp only[apc] at hc;split at hc
 ·rename_i cs hx;obtain⟨c1,c2⟩:=hc;have r:=h.ev x;rw[hx] at r;generalize hu':a.eval x=u at r;cases r with
  |agg r =>
   rename_i vs;have hl:=r.length;have run:∀ v,(∀ w',(part f.type ⟨vs⟩ f.offset).run P w'=.ok v w')→W4 P a (.field t x i) v:=fun v hv w' o' ho=>by
    have e4:execOp a.eval o'=(do pure (.value (← Instr.field t (a.eval x) i))):=by unfold execOp;rw[ho]
    rw[e4,hu'];simp[Instr.field,run_underlying hu,hf,asAgg,hv]
   simp only[apv,hx];cases hb:K9 P f.type with
   |true =>
    have e:=G3 f.offset cs;rw[← e] at r;generalize hK:([]:List Nat)=K at r;obtain⟨v1,v2,K1,K2,rfl,rfl,r1,r2⟩:=r.append;obtain⟨rfl,rfl⟩:=G9.1 hK.symm;have e:=G3 (P.cellsOf f.type) (cs.drop f.offset);rw[← e] at r2;generalize hK:([]:List Nat)=K at r2;obtain⟨v3,v4,K1,K2,rfl,rfl,r3,r4⟩:=r2.append;obtain⟨rfl,rfl⟩:=G9.1 hK.symm
    have l1:v1.length=f.offset:=by rw[r1.length,E7];omega
    have l3:v3.length=P.cellsOf f.type:=by rw[r3.length,E7,I4];omega
    refine⟨.agg ⟨v3⟩,run _ fun w' => ?_,.agg r3⟩;unfold part;simp only[Sem.run_bind,hag,hb,Result.andThen_ok,H1,sizeOf,typeInfo,run_program,hi,Sem.run_pure,hs];congr 2;simp only[A3X,A1S];congr 1;rw[A1T l1,show f.offset+P.cellsOf f.type-f.offset=v3.length from by omega,A1U rfl]
   |false =>
    refine⟨vs.getD f.offset undef,run _ fun w' => ?_,r.get f.offset⟩;have hlt:f.offset<vs.length:=by omega
    have e2:(⟨vs⟩:Array Value)[f.offset]? = some vs[f.offset]:=by simp[hlt]
    unfold part;simp only[Sem.run_bind,hag,hb,Result.andThen_ok,E0,E5,e2,Sem.run_pure];simp[B3,hlt]
 ·exact hc.elim
theorem C6y(h:H4 C s a w N M L){t e:TypeId}{len:Nat}{x i:Operand}(hu:P.underlying t=some (.array len e))(hn:P.cellsOf e≠0){d:TypeDesc}(hd:P.underlying e=some d)
  (hc:apc s (.ixa (P.cellsOf e) len (K9 P e) x i)) :
  ∃ v,W4 P a (.index t x i) v∧Rep w N M (apv s (.ixa (P.cellsOf e) len (K9 P e) x i)) v []:=by
 obtain⟨info,hi,hs⟩:=n5 (P:=P) (t:=e) rfl hn;have hag:∀ w',(isAgg e).run P w'=.ok (K9 P e) w':=fun w'=>by
  unfold isAgg K9;rw[Sem.run_bind,run_underlying hd,Result.andThen_ok,hd];cases d<;>rfl
 simp only[apc] at hc;split at hc
 ·rename_i cs k n hx hi';obtain⟨c1,c2,g0,g1⟩:=hc;have hle:n.toNat*P.cellsOf e+P.cellsOf e≤cs.length:=by
   calc n.toNat*P.cellsOf e+P.cellsOf e=(n.toNat+1)*P.cellsOf e:=by rw[A2j]
    _≤len*P.cellsOf e:=O2 _ (by omega)
    _≤cs.length:=c1
  generalize hoff:n.toNat*P.cellsOf e=off at hle;have r:=h.ev x;rw[hx] at r;generalize hu':a.eval x=u at r;cases r with
  |agg r =>
   rename_i vs;have hl:=r.length;have run:∀ v,(∀ w',(part e ⟨vs⟩ off).run P w'=.ok v w')→W4 P a (.index t x i) v:=fun v hv w' o' ho=>by
    have e4:execOp a.eval o'=(do pure (.value (← Instr.index t (a.eval x) (a.eval i)))):=by unfold execOp;rw[ho]
    rw[e4,hu',h.evv hi'];simp[Instr.index,asIntOf,run_underlying hu,g0,g1,sizeOf,typeInfo,hi,hs,hoff,hv]
   simp only[apv,hx,hi',hoff];cases hb:K9 P e with
   |true =>
    have q0:=G3 off cs;rw[← q0] at r;generalize hK:([]:List Nat)=K at r;obtain⟨v1,v2,K1,K2,rfl,rfl,r1,r2⟩:=r.append;obtain⟨rfl,rfl⟩:=G9.1 hK.symm;have q1:=G3 (P.cellsOf e) (cs.drop off);rw[← q1] at r2;generalize hK:([]:List Nat)=K at r2;obtain⟨v3,v4,K1,K2,rfl,rfl,r3,r4⟩:=r2.append;obtain⟨rfl,rfl⟩:=G9.1 hK.symm
    have l1:v1.length=off:=by rw[r1.length,E7];omega
    have l3:v3.length=P.cellsOf e:=by rw[r3.length,E7,I4];omega
    refine⟨.agg ⟨v3⟩,run _ fun w' => ?_,.agg r3⟩;unfold part;simp only[Sem.run_bind,hag,hb,Result.andThen_ok,H1,sizeOf,typeInfo,run_program,hi,Sem.run_pure,hs];congr 2;simp only[A3X,A1S];congr 1;rw[A1T l1,show off+P.cellsOf e-off=v3.length from by omega,A1U rfl]
   |false =>
    refine⟨vs.getD off undef,run _ fun w' => ?_,r.get off⟩;have hlt:off<vs.length:=by omega
    have e2:(⟨vs⟩:Array Value)[off]? = some vs[off]:=by simp[hlt]
    unfold part;simp only[Sem.run_bind,hag,hb,Result.andThen_ok,E0,E5,e2,Sem.run_pure];simp[B3,hlt]
 ·exact hc.elim
theorem C6N(h:H4 C s a w N M L){f:FuncId}{cap:Array Operand}:∃ v,W4 P a (.makeFunc (.func f) #[] cap) v∧Rep w N M (.fn f (cap.toList.map s.ev)) v []:=by
 refine⟨.func (.func f) #[] (cap.map a.eval),fun w' o ho => ?_,?_⟩
 ·have e4:execOp a.eval o=(do pure (.value (← Instr.makeFunc (.func f) ((#[]:Array Operand).map a.eval) (cap.map a.eval)))):=by unfold execOp;rw[ho]
  rw[e4];simp[Instr.makeFunc]
 ·have:∀ l:List Operand,F5 w N M (l.map s.ev) (l.map a.eval) []:=by
   intro l;induction l with
   |nil=>exact .nil
   |cons x l ih=>exact .cons (L1:=[]) (L2:=[]) (h.ev x) ih
  have r:=this cap.toList;have e:cap.map a.eval=⟨cap.toList.map a.eval⟩:=by simp[← Array.toList_map]
  rw[e];exact .fn r
theorem B6X(h:H4 C s a w N M L){d:Nat}{x:Option Operand}{n:Int}(e:bd s d x=some n):(x=none∧n=d)∨∃ y k,x=some y∧a.eval y=.int k n:=by
 cases x with
 |none=>simp only[bd,C3] at e;exact .inl ⟨rfl,e.symm⟩
 |some y =>
  simp only[bd] at e;split at e
  ·rename_i k m hy;cases e;exact .inr ⟨y,k,rfl,h.evv hy⟩
  ·cases e
theorem A74(h:H4 C s a w N M L)(w':World){isS:Bool}{len cap:Nat}{lo hi:Option Operand}{l e:Int}(hl:bd s (0:Nat) lo=some l)(he:bd s len hi=some e)(h0:0≤l)(h1:l≤e)(h2:e≤len)(hcap:len≤cap) :
  (Instr.sliceBounds isS len cap (lo.map a.eval) (hi.map a.eval) none).run P w'=.ok (l.toNat,e.toNat,cap) w':=by
 have sb:∀ (k:IntKind) (n:Int) (y:Nat) c,0≤n→n≤y→(Instr.sliceBound (.int k n) y c).run P w'=.ok n.toNat w':=fun k n y c a b=>by simp[Instr.sliceBound,asIntOf,a,b]
 unfold Instr.sliceBounds;rcases B6X h hl with⟨rfl,rfl⟩|⟨y,k,rfl,ey⟩<;>rcases B6X h he with⟨rfl,rfl⟩|⟨y',k',rfl,ey'⟩
 ·simp
 ·simp[ey',sb _ _ cap _ (A3Y h0 h1) (by omega)]
 ·simp[ey,sb _ _ len _ h0 h1]
 ·simp[ey,ey',sb _ _ cap _ (A3Y h0 h1) (by omega),sb _ _ e.toNat _ h0 (by omega)]
theorem A48(h:H4 C s a w N M L){y:Operand}(e:A3G s y):∃ k,a.eval y=.int k 0:=by
 simp only[A3G] at e;split at e
 ·rename_i k n hy;subst e;exact⟨k,h.evv hy⟩
 ·exact e.elim
theorem B0N(h:H4 C s a w N M L){x:Option Operand}(e:A8j s x):x=none∨∃ y k,x=some y∧a.eval y=.int k 0:=by
 cases x with
 |none=>exact .inl rfl
 |some y=>obtain⟨k,hk⟩:=A48 h (y:=y) e;exact .inr ⟨y,k,rfl,hk⟩
theorem A5J{t e:TypeId}{x:Operand}{lo hi mx:Option Operand}(hu:P.underlying t=some (.slice e))(hn:P.cellsOf e≠0){ad:Option Addr}{len cap l h' m:Nat}(e1:a.eval x=.slice ad len cap)
  (e2:∀ w',(Instr.sliceBounds true len cap (lo.map a.eval) (hi.map a.eval) (mx.map a.eval)).run P w'=.ok (l,h',m) w') :
  W4 P a (.slice t x lo hi mx) (.slice (if m=l then ad else ad.map (·.add (l*P.cellsOf e))) (h'-l) (m-l)):=fun w' o ho=>by
 obtain⟨info,hi',hs⟩:=n5 (P:=P) (t:=e) rfl hn;have e4:execOp a.eval o=(do pure (.value (← Instr.sliceAt t (a.eval x) (lo.map a.eval) (hi.map a.eval) (mx.map a.eval)))):=by unfold execOp;rw[ho]
 rw[e4,e1];simp[Instr.sliceAt,Instr.slice,run_underlying hu,e2,sizeOf,typeInfo,hi',hs]
theorem B85(h:H4 C s a w N M L){t e:TypeId}{x:Operand}{lo hi:Option Operand}(hu:P.underlying t=some (.slice e))(hn:P.cellsOf e≠0){ad:Option Addr}(e1:a.eval x=.slice ad 0 0)(z1:A8j s lo)(z2:A8j s hi) :
  W4 P a (.slice t x lo hi none) (.slice ad 0 0):=by
 have sb:∀ (w':World) (k:IntKind) (y:Nat) c,(Instr.sliceBound (.int k 0) y c).run P w'=.ok 0 w':=fun w' k y c=>by simp[Instr.sliceBound,asIntOf]
 have hb:∀ w',(Instr.sliceBounds true 0 0 (lo.map a.eval) (hi.map a.eval) ((none:Option Operand).map a.eval)).run P w'=.ok (0,0,0) w':=by
  intro w';unfold Instr.sliceBounds;rcases B0N h z1 with rfl|⟨y,k,rfl,ey⟩<;>rcases B0N h z2 with rfl|⟨y',k',rfl,ey'⟩<;>simp[*]
 exact A5J hu hn e1 hb
theorem C6D(h:H4 C s a w N M L){t e:TypeId}{x:Operand}{lo hi:Option Operand}(hu:P.underlying t=some (.slice e))(hn:P.cellsOf e≠0)(hc:B3l s (P.cellsOf e) (s.ev x) lo hi) :
  ∃ v,W4 P a (.slice t x lo hi none) v∧Rep w N M (B1m s (s.ev x) lo hi) v []:=by
 have r:=h.ev x;generalize hv:s.ev x=av at *
 generalize hu':a.eval x=u at r;unfold B3l at hc;split at hc
 ·rename_i sz rows;split at hc
  ·rename_i l e' hl he;obtain⟨hsz,h0,h1,h2⟩:=hc;simp only[B1m,hl,he];cases r with
   |slI0 _ ad cap =>
    have hl0:l=0:=by simp at h2;omega
    have he0:e'=0:=by simp at h2;omega
    subst hl0;subst he0;refine⟨_,A5J hu hn hu' (fun w'=>A74 h w' hl he h0 h1 h2 (by simp)),?_⟩;simp only[Int.toNat_zero,R7,Nat.sub_zero];exact .slI0 _ _ _
   |slI r hcl hN hcap =>
    rename_i b o cap;refine⟨_,A5J hu hn hu' (fun w'=>A74 h w' hl he h0 h1 h2 hcap),?_⟩;by_cases hemp:e'.toNat-l.toNat=0
    ·rw[hemp];have:sub rows l.toNat 0=[]:=by
      rw[A13 (by omega)];simp
     rw[this];exact .slI0 _ _ _
    ·have hsz':sz=P.cellsOf e:=by
      rcases hsz with rfl|rfl
      ·rfl
      ·simp at h2;omega
     have hln:l.toNat+(e'.toNat-l.toNat)≤rows.length:=by omega
     obtain⟨K1,K2,K3,hK,r'⟩:=r.rows hcl l.toNat (e'.toNat-l.toNat) hln;have hK2:K2=[]:=by
      have:=congrArg List.length hK;simp only[C8,A5] at this;exact G7.1 (by omega)
     subst hK2;rw[← A13 hln] at r';have e5:(if cap=l.toNat then some (⟨b,o,none⟩:Addr) else(some (⟨b,o,none⟩:Addr)).map (·.add (l.toNat*P.cellsOf e)))=some ⟨b,o+l.toNat*sz,none⟩:=by
      rw[G6 (by omega)];simp[A2d,hsz']
     rw[e5];have hlen:=A68 hln;have:=Rep.slI (M:=M) (cap:=cap-l.toNat) r' (fun y hy=>hcl y (by rw[A13 hln] at hy;exact R3 (Q0 hy))) (fun i hi=>by
      rw[hlen] at hi;rw[G4];refine hN _ ?_
      calc l.toNat*sz+i<l.toNat*sz+(e'.toNat-l.toNat)*sz:=by omega
       _=(l.toNat+(e'.toNat-l.toNat))*sz:=by rw[A06]
       _≤rows.length*sz:=O2 _ hln) (by omega)
     rw[hlen] at this;exact this
  ·exact hc.elim
 ·rename_i j ver off len;split at hc
  ·rename_i l e' hl he;obtain⟨hsz,h0,h1,h2⟩:=hc;simp only[B1m,hl,he];split at hsz
   ·rename_i b hb;obtain⟨hlb,m,L1,g1,g2,g3,g4⟩:=h.blk hb;cases r with
    |ref mm hM hm =>
     rename_i ad cap;rw[g1] at hM;cases hM;obtain⟨h5,h6⟩:=hm m rfl;obtain⟨h7,h8⟩:=h6 (by rw[g2.len,hlb]);have hcap:len≤cap:=by
      rcases h8 with⟨rfl,_⟩|⟨_,_,h9,_⟩
      ·omega
      ·exact h9
     refine⟨_,A5J hu hn hu' (fun w'=>A74 h w' hl he h0 h1 h2 hcap),?_⟩;refine .ref (some m) g1 fun m' hm' => ?_;cases hm';refine⟨h5,fun _=>⟨by omega,?_⟩⟩;rcases h8 with⟨rfl,rfl⟩|⟨h8,rfl,h9,h10⟩
     ·exact .inl ⟨by omega,by omega⟩
     ·by_cases hcl:cap=l.toNat
      ·exact .inl ⟨by omega,by omega⟩
      ·refine .inr ⟨h8,?_,by omega,?_⟩
       ·rw[G6 hcl,g2.sz,hsz];simp[A2d,A06,G4]
       ·have:off+l.toNat+(cap-l.toNat)=off+cap:=by omega
        rw[this];exact h10
   ·exact hsz.elim
  ·exact hc.elim
 ·obtain⟨z1,z2⟩:=hc;cases r with
  |slO0 _ ad=>exact⟨_,B85 h hu hn hu' z1 z2,.slO0 _ _⟩
 ·obtain⟨z1,z2⟩:=hc;cases r with
  |val=>exact⟨_,B85 h hu hn hu' z1 z2,.val _⟩
 ·exact hc.elim
theorem C6X(h:H4 C s a w N M L){t e:TypeId}{x lo hi mx:Operand}(hu:P.underlying t=some (.slice e))(hn:P.cellsOf e≠0)(hc:B09 (s.ev x))(z1:A3G s lo)(z2:A3G s hi)(z3:A3G s mx) :
  ∃ v,W4 P a (.slice t x (some lo) (some hi) (some mx)) v∧Rep w N M emp v []:=by
 have sb:∀ (w':World) (k:IntKind) (y:Nat) c,(Instr.sliceBound (.int k 0) y c).run P w'=.ok 0 w':=fun w' k y c=>by simp[Instr.sliceBound,asIntOf]
 obtain⟨k1,e1⟩:=A48 h z1;obtain⟨k2,e2⟩:=A48 h z2;obtain⟨k3,e3⟩:=A48 h z3;have hx:∃ ad len cap,a.eval x=.slice ad len cap:=by
  have r:=h.ev x;generalize hv:s.ev x=av at *
  generalize a.eval x=u at *
  cases av with
  |sl own sz rows=>obtain⟨ad,cap,rfl⟩:=r.sl_inv;exact⟨_,_,_,rfl⟩
  |ref j ver off len=>cases r with|ref=>exact⟨_,_,_,rfl⟩
  |val v =>
   unfold B09 at hc;split at hc
   ·rename_i heq;cases heq
   ·rename_i heq;cases heq
   ·rename_i heq;cases heq;cases r;exact⟨_,_,_,rfl⟩
   ·exact hc.elim
  |_=>exact hc.elim
 obtain⟨ad,len,cap,hx⟩:=hx;have hb:∀ w',(Instr.sliceBounds true len cap ((some lo).map a.eval) ((some hi).map a.eval) ((some mx).map a.eval)).run P w'=.ok (0,0,0) w':=by
  intro w';unfold Instr.sliceBounds;simp[*]
 exact⟨_,A5J hu hn hx hb,.slO0 _ _⟩
theorem F5.append0{xs ys:List AV}{vs:List Value}(h:F5 w N M (xs++ys) vs []):∃ v1 v2,vs=v1++v2∧F5 w N M xs v1 []∧F5 w N M ys v2 []:=by
 obtain⟨v1,v2,K1,K2,e1,e2,r1,r2⟩:=h.append;obtain⟨rfl,rfl⟩:=G9.1 e2.symm;exact⟨v1,v2,e1,r1,r2⟩
theorem A2b{t:TypeId}{i:TypeInfo}(h:P.info? t=some i):(typeInfo t).run P w=.ok i w:=by simp[typeInfo,h]
theorem B34{x:AV}{v:Value}(r:Rep w N M x v [])(h1:x.cell1=true):v.oneCell'=true∧v.cells = #[v]∧x.cells=[x]:=by
 cases x with
 |val u =>
  obtain rfl:v=u:=by cases r;rfl
  clear r;cases v<;>first|exact⟨rfl,rfl,rfl⟩|cases h1
 |sl own sz rows=>obtain⟨a',cap,rfl⟩:=r.sl_inv;exact⟨rfl,rfl,rfl⟩
 |ref=>cases r;exact⟨rfl,rfl,rfl⟩
 |ptr=>cases r;exact⟨rfl,rfl,rfl⟩
 |ipt=>cases r;exact⟨rfl,rfl,rfl⟩
 |fn=>cases r;exact⟨rfl,rfl,rfl⟩
 |any=>cases h1
 |agg=>cases h1
 |tup=>cases h1
theorem A2Q{x:AV}{v:Value}{n:Nat}(r:Rep w N M x v [])(hf:x.fits n=true):∃ vs,v.cells=⟨vs⟩∧F5 w N M x.cells vs []∧vs.length=n∧x.cells.length=n∧∀ u∈vs,u.oneCell'=true:=by
 have one:∀ {x:AV} {v:Value},Rep w N M x v []→x.cell1=true→v.oneCell'=true∧v.cells = #[v]∧x.cells=[x]:=fun r h=>B34 r h;by_cases hag:∃ cs,x=.agg cs
 ·obtain⟨cs,rfl⟩:=hag;cases r with
  |agg r =>
   rename_i vs;simp only[AV.fits,A6,j7] at hf;refine⟨vs,rfl,r,by rw[r.length,hf.1],hf.1,?_⟩;have:∀ (cs:List AV) (vs:List Value),F5 w N M cs vs []→cs.all AV.cell1=true→∀ u∈vs,u.oneCell'=true:=by
    intro cs;induction cs with
    |nil=>intro vs r _ u hu;cases r;cases hu
    |cons c cs ih =>
     intro vs r hc u hu;generalize hK:([]:List Nat)=K at r;cases r with
     |cons hx ht =>
      obtain⟨rfl,rfl⟩:=G9.1 hK.symm;simp only[d3,A6] at hc;rcases D8.1 hu with rfl|hu
      ·exact(one hx hc.1).1
      ·exact ih _ ht hc.2 u hu
   exact this cs vs r hf.2
 ·have hf':n=1∧x.cell1=true:=by
   cases x<;>first|(exact absurd ⟨_,rfl⟩ hag)|(simpa[AV.fits] using hf)
  obtain⟨rfl,hf'⟩:=hf';obtain⟨h1,h2,h3⟩:=one r hf';refine⟨[v],by rw[h2],?_,rfl,by rw[h3];rfl,by simpa using h1⟩;rw[h3];exact .cons (L1:=[]) (L2:=[]) r .nil
theorem B6q:∀ (ns:List Value) (vs:List Value) (off:Nat),off+ns.length≤vs.length →
  (ns.zipIdx.foldl (fun (cs:Array Value) (p:Value×Nat)=>cs.setIfInBounds (off+p.2) p.1) ⟨vs⟩)=⟨vs.take off++(ns++vs.drop (off+ns.length))⟩:=by
 have gen:∀ (ns:List Value) (vs:List Value) (off k:Nat),off+k+ns.length≤vs.length →
   ((ns.zipIdx k).foldl (fun (cs:Array Value) (p:Value×Nat)=>cs.setIfInBounds (off+p.2) p.1) ⟨vs⟩)=⟨vs.take (off+k)++(ns++vs.drop (off+k+ns.length))⟩:=by
  intro ns;induction ns with
  |nil=>intro vs off k h;simp
  |cons n ns ih =>
   intro vs off k h;simp only[B5] at h;rw[List.zipIdx_cons,Q1];simp only[List.setIfInBounds_toArray];rw[ih (vs.set (off+k) n) off (k+1) (by simp;omega)];congr 1;rw[show off+(k+1)=off+k+1 from by omega];rw[T6 (by simp;omega),A3A,List.take_set_of_le (by omega),List.drop_set_of_lt (by omega)]
   simp only[F9,B5,Y9,I2];rw[show off+k+1+ns.length=off+k+(ns.length+1) from by omega]
 intro ns vs off h;exact gen ns vs off 0 (by simpa using h)
theorem B4m(h:H4 C s a w N M L){fs:Array Field}(places:Nat→Option (Nat×Nat)) :
  ∀ (ps:List (Nat×Operand)) (ls:List (Nat×Nat×Operand)) (z:List AV) (zs:List Value),v8 (ps.map (A7m P fs))=some ls→(∀ i f,fs[i]? = some f→places i=some (f.offset,P.cellsOf f.type)) →
   F5 w N M z zs []→B1g s z.length ls→∃ us,Instr.fill places ⟨zs⟩ (ps.map fun (p:Nat×Operand)=>(p.1,a.eval p.2))=some ⟨us⟩∧F5 w N M (lay s z ls) us []
 |[],ls,z,zs,hl,_,hz,_=>by
  simp only[U3,v8,C3] at hl;subst hl;exact⟨zs,rfl,hz⟩
 |(i,x) :: ps,ls,z,zs,hl,hp,hz,hc=>by
  simp only[F6,A7m] at hl;cases hf:fs[i]? with
  |none=>simp[hf,v8] at hl
  |some f =>
   simp only[hf,v8] at hl;cases hl2:v8 (ps.map (A7m P fs)) with
   |none=>rw[hl2] at hl;cases hl
   |some l2 =>
    rw[hl2] at hl;simp only[F8,C3] at hl;subst hl;obtain⟨c1,c2,c3⟩:=hc;obtain⟨vs,f1,f2,f3,f4,f5⟩:=A2Q (h.ev x) c1;have hzl:=hz.length;simp only[F6,Instr.fill,hp i f hf,f1,n7,f3];have e:(decide (P.cellsOf f.type≠P.cellsOf f.type)||decide (f.offset+P.cellsOf f.type>zs.length))=false:=by simp;omega
    have e2:vs.toArray.zipIdx.foldl (fun (cs:Array Value) (x:Value×Nat)=>cs.setIfInBounds (f.offset+x.2) x.1) ⟨zs⟩=⟨zs.take f.offset++(vs++zs.drop (f.offset+vs.length))⟩:=by
     rw[← B6q vs zs f.offset (by omega)];rw[← A4V];simp
    rw[G6 (by simpa using e)];have hz2:F5 w N M (z.take f.offset++((s.ev x).cells++z.drop (f.offset+P.cellsOf f.type))) (zs.take f.offset++(vs++zs.drop (f.offset+vs.length))) []:=by
     have s1:∀ n,F5 w N M (z.take n) (zs.take n) []∧F5 w N M (z.drop n) (zs.drop n) []:=by
      intro n;have e3:=G3 n z;have hz':=hz;rw[← e3] at hz';obtain⟨v1,v2,e4,r1,r2⟩:=hz'.append0;have l1:=r1.length;rcases D9 z.length n with hn|hn
      ·have:z.take n=z:=S0 (by omega);have hd:z.drop n=[]:=O7 (by omega);rw[this,hd,S0 (by omega),O7 (by omega)];exact⟨hz,.nil⟩
      ·rw[E7,X4 hn] at l1;rw[e4,A1U l1,A1T l1];exact⟨r1,r2⟩
     rw[f3];exact F5.join (L1:=[]) (L2:=[]) (s1 _).1 (F5.join (L1:=[]) (L2:=[]) f2 (s1 _).2)
    have:=B4m h places ps l2 _ _ hl2 hp hz2 (by
     have:(z.take f.offset++((s.ev x).cells++z.drop (f.offset+P.cellsOf f.type))).length=z.length:=by simp[f4];omega
     rw[this];exact c3)
    obtain⟨us,u1,u2⟩:=this;refine⟨us,?_,u2⟩;rw[← u1];congr 1
theorem C6V(h:H4 C s a w N M L){t:TypeId}{ps:Array (Nat×Operand)}{fs:Array Field}{i:TypeInfo}{z:Value}{ls:List (Nat×Nat×Operand)}(hu:P.underlying t=some (.struct fs))(hi:P.info? t=some i)(hz:i.zero=some z)
  (hl:v8 (ps.toList.map (A7m P fs))=some ls) (hfs:∀ f∈fs,(P.info? f.type).isSome=true) (hc:B1g s (z.cells.toList.map AV.val).length ls) :
  ∃ v,W4 P a (.build t ps) v∧Rep w N M (.agg (lay s (z.cells.toList.map .val) ls)) v []:=by
 have places:∀ w',(fs.mapM fun (f:Field)=>(do pure (f.offset,← sizeOf f.type):Sem (Nat×Nat))).run P w'=.ok (fs.map fun f=>(f.offset,P.cellsOf f.type)) w':=by
  intro w';rw[← V5 (xs:=fs)] at hfs ⊢;generalize fs.toList=l at hfs;rw[List.mapM_toArray];have:∀ l:List Field,(∀ f∈l,(P.info? f.type).isSome=true)→(l.mapM fun (f:Field)=>(do pure (f.offset,← sizeOf f.type):Sem (Nat×Nat))).run P w'=.ok (l.map fun f=>(f.offset,P.cellsOf f.type)) w':=by
   intro l;induction l with
   |nil=>intro _;simp
   |cons f l ih =>
    intro hf;obtain⟨info,hinfo⟩:=n6.1 (hf f (by simp));have h1:(do pure (f.offset,← sizeOf f.type):Sem (Nat×Nat)).run P w'=.ok (f.offset,P.cellsOf f.type) w':=by simp[sizeOf,typeInfo,hinfo,Program.cellsOf]
    rw[List.mapM_cons,Sem.run_bind,h1,Result.andThen_ok,Sem.run_bind,ih (fun g hg=>hf g (by simp[hg]))];rfl
  rw[Sem.run_map,this l (fun f hf=>hfs f (by simpa using hf))];simp
 have hr:=F5.vals w N M z.cells.toList;obtain⟨us,u1,u2⟩:=B4m h (P:=P) (fs:=fs) (fun i=>(fs.map fun (f:Field)=>(f.offset,P.cellsOf f.type))[i]?) ps.toList ls (z.cells.toList.map .val) z.cells.toList hl (fun i f hf=>by simp[hf]) hr hc;refine⟨.agg ⟨us⟩,fun w' o ho => ?_,.agg u2⟩
 have e4:execOp a.eval o=(do pure (.value (← Instr.build t (ps.map fun (p:Nat×Operand)=>(p.1,a.eval p.2))))):=by unfold execOp;rw[ho]
 rw[e4];have e5:(ps.map fun (p:Nat×Operand)=>(p.1,a.eval p.2)).toList=ps.toList.map fun (p:Nat×Operand)=>(p.1,a.eval p.2):=by simp
 simp only[Instr.build,Sem.run_bind,zeroValue,A2b hi,Result.andThen_ok,hz,Sem.run_pure,run_underlying hu,places,e5];have e6:(⟨z.cells.toList⟩:Array Value)=z.cells:=rfl;rw[e6] at u1;rw[u1];rfl
theorem B3g(h:H4 C s a w N M L)(sz:Nat) :
  ∀ (ps:List (Nat×Operand)) (z:List AV) (zs:List Value),
   F5 w N M z zs []→B1g s z.length (ps.map (B2x sz))→∃ us,Instr.fill (fun i=>some (i*sz,sz)) ⟨zs⟩ (ps.map fun (p:Nat×Operand)=>(p.1,a.eval p.2))=some ⟨us⟩∧F5 w N M (lay s z (ps.map (B2x sz))) us []
 |[],z,zs,hz,_=>⟨zs,rfl,hz⟩
 |(i,x) :: ps,z,zs,hz,hc=>by
  obtain⟨c1,c2,c3⟩:=hc;obtain⟨vs,f1,f2,f3,f4,f5⟩:=A2Q (h.ev x) c1;have hzl:=hz.length;simp only[F6,Instr.fill,f1,n7,f3];have e:(decide (sz≠sz)||decide (i*sz+sz>zs.length))=false:=by simp;omega
  have e2:vs.toArray.zipIdx.foldl (fun (cs:Array Value) (x:Value×Nat)=>cs.setIfInBounds (i*sz+x.2) x.1) ⟨zs⟩=⟨zs.take (i*sz)++(vs++zs.drop (i*sz+vs.length))⟩:=by
   rw[← B6q vs zs (i*sz) (by omega)];rw[← A4V];simp
  rw[G6 (by simpa using e)];have hz2:F5 w N M (z.take (i*sz)++((s.ev x).cells++z.drop (i*sz+sz))) (zs.take (i*sz)++(vs++zs.drop (i*sz+vs.length))) []:=by
   have s1:∀ n,F5 w N M (z.take n) (zs.take n) []∧F5 w N M (z.drop n) (zs.drop n) []:=by
    intro n;have e3:=G3 n z;have hz':=hz;rw[← e3] at hz';obtain⟨v1,v2,e4,r1,r2⟩:=hz'.append0;have l1:=r1.length;rcases D9 z.length n with hn|hn
    ·have:z.take n=z:=S0 (by omega);have hd:z.drop n=[]:=O7 (by omega);rw[this,hd,S0 (by omega),O7 (by omega)];exact⟨hz,.nil⟩
    ·rw[E7,X4 hn] at l1;rw[e4,A1U l1,A1T l1];exact⟨r1,r2⟩
   rw[f3];exact F5.join (L1:=[]) (L2:=[]) (s1 _).1 (F5.join (L1:=[]) (L2:=[]) f2 (s1 _).2)
  obtain⟨us,u1,u2⟩:=B3g h sz ps _ _ hz2 (by
   have:(z.take (i*sz)++((s.ev x).cells++z.drop (i*sz+sz))).length=z.length:=by simp[f4];omega
   rw[this];exact c3)
  refine⟨us,?_,u2⟩;rw[← u1];congr 1
theorem C6z(h:H4 C s a w N M L){t e:TypeId}{ps:Array (Nat×Operand)}{len:Nat}{i:TypeInfo}{z:Value}(hu:P.underlying t=some (.array len e))(hi:P.info? t=some i)(hz:i.zero=some z)(hn:P.cellsOf e≠0)
  (hc:B1g s (z.cells.toList.map AV.val).length (ps.toList.map (B2x (P.cellsOf e)))) :
  ∃ v,W4 P a (.build t ps) v∧Rep w N M (.agg (lay s (z.cells.toList.map .val) (ps.toList.map (B2x (P.cellsOf e))))) v []:=by
 obtain⟨info,hi',hs⟩:=n5 (P:=P) (t:=e) rfl hn;have hr:=F5.vals w N M z.cells.toList;obtain⟨us,u1,u2⟩:=B3g h (P.cellsOf e) ps.toList (z.cells.toList.map .val) z.cells.toList hr hc;refine⟨.agg ⟨us⟩,fun w' o ho => ?_,.agg u2⟩;have e4:execOp a.eval o=(do pure (.value (← Instr.build t (ps.map fun (p:Nat×Operand)=>(p.1,a.eval p.2))))):=by unfold execOp;rw[ho]
 rw[e4];have e5:(ps.map fun (p:Nat×Operand)=>(p.1,a.eval p.2)).toList=ps.toList.map fun (p:Nat×Operand)=>(p.1,a.eval p.2):=by simp
 have hso:(sizeOf e).run P w'=.ok (P.cellsOf e) w':=by simp[sizeOf,typeInfo,hi',hs]
 simp only[Instr.build,Sem.run_bind,zeroValue,A2b hi,Result.andThen_ok,hz,Sem.run_pure,run_underlying hu,hso,e5];have e6:(⟨z.cells.toList⟩:Array Value)=z.cells:=rfl;rw[e6] at u1;rw[u1];rfl
end
open Go Go.RowKit
theorem A67{w:World}{b o:Nat}{c:Array Value}{e:TypeId}{fz:Nat×Nat}(h:w.heap[b]? = some (.cells c e fz)):w.cell? ⟨b,o,none⟩=c[o]? := by
 simp[World.cell?,h]
theorem A15.cell{w:World}{z b n:Nat}(h:A15 w z b n){o:Nat}(ho:o<n):(w.cell? ⟨b,o,none⟩).isSome=true∧w.frozen? ⟨b,o,none⟩=false:=by
 obtain⟨c,e,fz,h1,h2,h3⟩:=h;constructor
 ·rw[A67 h1];simp;omega
 ·obtain⟨lo,hi⟩:=fz;simp only[World.frozen?,h1];exact h3.1 o (by omega)
structure d6 (w w':World) (c:Array Value) (e:TypeId) (fz:Nat×Nat):Prop where
 heap:w'.heap=w.heap.push (.cells c e fz)
 os:w'.os=w.os
 tape:w'.tape=w.tape
 output:w'.output=w.output
section
variable {w w':World} {c:Array Value} {e:TypeId} {fz:Nat×Nat}
theorem d6.old(h:d6 w w' c e fz){b:Nat}(hb:b<w.heap.size):w'.heap[b]? = w.heap[b]? := by
 rw[h.heap,Array.getElem?_push,G6 (by omega)]
theorem d6.new(h:d6 w w' c e fz):w'.heap[w.heap.size]? = some (.cells c e fz):=by
 rw[h.heap,Array.getElem?_push,E9 rfl]
theorem d6.size(h:d6 w w' c e fz):w'.heap.size=w.heap.size+1:=by rw[h.heap];simp
theorem A5q{w:World}{b:Nat}{x:Obj}(h:w.heap[b]? = some x):b<w.heap.size:=by
 rcases D9 b w.heap.size with h'|h'
 ·exact h'
 ·rw[i9 h'] at h;cases h
theorem d6.shp(h:d6 w w' c e fz):Shp w w':=fun b c' e' fz' hb=>⟨c',by rw[h.old (A5q hb)];exact hb,rfl⟩
theorem d6.fr(h:d6 w w' c e fz)(X:List Nat):Fr X w w' :=
 ⟨h.os,h.tape,h.output,by rw[h.size];omega,fun k hk _=>h.old hk,h.shp⟩
theorem d6.same(h:d6 w w' c e fz){b:Nat}(hb:b<w.heap.size):t2 w w' b:=fun _=>World.cell?_of_block (h.old hb)
end
section
variable {P:Program} {C:Ctx} {s:AS} {a:Act} {w w':World} {N:NT} {M:MT} {L:List (Nat×Nat)}
theorem H4.alloc(h:H4 C s a w N M L){c:Array Value}{e:TypeId}{fz:Nat×Nat}(hp:d6 w w' c e fz){k:Blk}{vs:List Value}
  (hcl:∀ y∈k.rows,y.cells.length=k.sz) (hr:F5 w N M (k.rows.flatMap AV.cells) vs []) (hv:∀ i,i<vs.length→c[i]? = vs[i]?) (hsz:k.rows.length*k.sz≤c.size)
  (hfz:Mk k.sz c.size fz) (hlo:k.lo=0∧k.fz=0) :
  ∃ M' m,H4 C { s with hp:=s.hp++[some k] } a w' N M' (L++[(w.heap.size,0)])∧M' s.hp.length=some (some m)∧m.b=w.heap.size∧m.o=0∧m.len=k.rows.length∧m.sz=k.sz∧m.virt=false ∧
   (∀ x v,Rep w N M x v []→Rep w' N M' x v []):=by
 let m:Cn:={ b:=w.heap.size,o:=0,sz:=k.sz,len:=k.rows.length,fr:=0,virt:=false }
 let M':MT:=fun i=>if i=s.hp.length then some (some m) else M i
 have hun:=h.un s.hp.length (B9 _);have g:Gr w w' N N M M':=⟨hp.shp,fun b o hn=>hp.same (h.nlt b o hn) o,fun _ _ hn=>hn,fun j x hx=>by
  have hne:j≠s.hp.length:=fun e=>by rw[e,hun] at hx;cases hx
  exact⟨x,by simp[M',hne,hx],fun m' hm'=>⟨m',hm',.inl rfl⟩⟩⟩
 have hrr:∀ x v,Rep w N M x v []→Rep w' N M' x v []:=fun x v hx=>hx.gr g (fun _ hb=>by cases hb);have hL:∀ p∈L,t2 w w' p.1:=fun p hpL=>hp.same (h.own p hpL).1;have hp1:HR w' N M' 0 s.hp L:=h.hp.gr g hL fun i _ hi=>by
  have hne:i≠s.hp.length:=by omega
  simp[M',hne]
 have hbr:BR w' N M' k m []:=by
  refine⟨rfl,rfl,P1 _,hcl,?_,(fun e=>(by cases e)),(fun _=>⟨c,e,fz,hp.new,by simpa[m] using hsz,hfz⟩),by rw[hlo.1];exact P1 _,fun i hi=>by rw[hlo.2] at hi;omega,fun _=>rfl⟩;refine I0.of_values (hr.gr g (fun _ hb=>by cases hb)) fun i hi => ?_;show w'.cell? ⟨w.heap.size,0+i,none⟩=_;rw[A67 hp.new,E1];exact hv i hi
 refine⟨M',m,?_,by simp[M'],rfl,rfl,rfl,rfl,rfl,hrr⟩;refine⟨h.df,h.sl.gr g (fun _ hb=>by cases hb),?_,?_,?_,?_,h.nup,h.ndn,h.fr.trans (hp.fr []) (fun _ hy=>by cases hy) (fun b o hn=>g.cell b o (h.nup b o hn)),?_,?_,fun i hi=>h.mz i (by simp only[A5,J5] at hi;omega)⟩
 ·have:=HR.join hp1 (HR.live (k:=0+s.hp.length) (by simp[M']) hbr (HR.nil _));simpa[H0,m] using this
 ·rw[G0,J3];refine⟨h.nd,by simp,fun x hx y hy e => ?_⟩;simp only[F6,U3,C1] at hy;subst hy;subst e;obtain⟨p,hp',e⟩:=C5.1 hx;have:=(h.own p hp').1;omega
 ·intro p hpL;rcases C9.1 hpL with hpL|hpL
  ·obtain⟨h1,h2,h3⟩:=h.own p hpL;exact⟨by rw[hp.size];omega,h2,h3⟩
  ·simp only[C1] at hpL;subst hpL;refine⟨by rw[hp.size];simp,.inl h.fr.size,fun o hn => ?_⟩;have:=h.nlt _ _ hn;simp at this
 ·intro b o hn;have:=h.nlt b o hn;rw[hp.size];omega
 ·intro i hi;simp only[A5,J5] at hi;have hne:i≠s.hp.length:=by omega
  simp only[M',hne,E5];exact h.un i (by omega)
 ·intro i m1 m0 h1 h0;by_cases hi:i=s.hp.length
  ·subst hi;simp only[M',H1,C3] at h1;rw[h.mz s.hp.length (B9 _)] at h0;cases h0
  ·simp only[M',hi,E5] at h1;exact h.mv i m1 m0 h1 h0
theorem C1g{A B K K':List Nat}(h:(A++(K++B)).Nodup)(hk:K'.Nodup)(hs:∀ x∈K',x∈K∨(x ∉ A∧x ∉ B)):(A++(K'++B)).Nodup:=by
 rw[J3] at h ⊢;obtain⟨h1,h2,h3⟩:=h;rw[J3] at h2;obtain⟨h4,h5,h6⟩:=h2;refine⟨h1,?_,?_⟩
 ·rw[J3];refine⟨hk,h5,fun x hx y hy e => ?_⟩;rcases hs x hx with h|h
  ·exact h6 x h y hy e
  ·subst e;exact h.2 hy
 ·intro x hx y hy e;rcases C9.1 hy with hy|hy
  ·rcases hs y hy with h|h
   ·exact h3 x hx y (by simp[h]) e
   ·subst e;exact h.1 hx
  ·exact h3 x hx y (by simp[hy]) e
structure Upd (w w':World) (m m':Cn) (L1 L1':List Nat):Prop where
 os:w'.os=w.os
 tape:w'.tape=w.tape
 output:w'.output=w.output
 size:w.heap.size≤w'.heap.size
 shp:Shp w w'
 block:∀ b,b<w.heap.size→(b≠m.b∨m.virt=true∨w.heap.size≤m'.b)→w'.heap[b]? = w.heap[b]?
 fz:∀ o,o<m.fr→m.virt=false→w'.cell? ⟨m.b,o,none⟩=w.cell? ⟨m.b,o,none⟩
 same:m'=m∨m.len<m'.len
 virt:m'.virt=false
 at_:(m'.b=m.b∧m.virt=false∧m'.fr=m.fr)∨(w.heap.size≤m'.b∧m'.b<w'.heap.size)
 sub:∀ x∈L1',x∈L1
 nd:L1.Nodup→L1'.Nodup
theorem H4.upd(h:H4 C s a w N M L){j:Nat}{k:Blk}(hj:s.hp[j]? = some (some k)){m:Cn}{L1:List Nat}{A B:List (Nat×Nat)}{p q:HP}(e1:s.hp=p++some k :: q)(e2:j=p.length)(e3:L=A++(H0 m L1++B))
  (hp1:HR w N M 0 p A) (hM:M j=some (some m)) (hbr:BR w N M k m L1) (hq:HR w N M (j+1) q B)
  {k':Blk} {m':Cn} {L1':List Nat} (u:Upd w w' m m' L1 L1')
  (hnew:∀ M',(∀ x v K,Rep w N M x v K→(∀ b∈K,t2 w w' b)→Rep w' N M' x v K)→M' j=some (some m')→BR w' N M' k' m' L1') :
  ∃ M',H4 C { s with hp:=s.hp.set j (some k') } a w' N M' (A++(H0 m' L1'++B))∧M' j=some (some m')∧(∀ x v,Rep w N M x v []→Rep w' N M' x v []):=by
 let M':MT:=fun i=>if i=j then some (some m') else M i
 have hnodup:∀ x∈A.map Prod.fst,x ∉ (H0 m L1).map Prod.fst∧x ∉ B.map Prod.fst:=by
  intro x hx;have:=h.nd;rw[e3,G0,J3] at this;exact⟨fun hy=>this.2.2 x hx x (by simp only[G0,C9];exact .inl hy) rfl,fun hy=>this.2.2 x hx x (by simp only[G0,C9];exact .inr hy) rfl⟩
 have hnodup2:((H0 m L1).map Prod.fst).Nodup∧∀ x∈B.map Prod.fst,x ∉ (H0 m L1).map Prod.fst:=by
  have:=h.nd;rw[e3,G0,J3] at this;have h2:=this.2.1;rw[G0,J3] at h2;exact⟨h2.1,fun x hx hy=>h2.2.2 x hy x hx rfl⟩
 have hother:∀ pr∈L,(m.virt=false→pr.1≠m.b)→t2 w w' pr.1:=by
  intro pr hpr hne o;refine World.cell?_of_block (u.block _ (h.own pr hpr).1 ?_);cases hv:m.virt with
  |true=>exact .inr (.inl rfl)
  |false=>exact .inl (hne hv)
 have hA:∀ pr∈A,t2 w w' pr.1:=fun pr hpr=>hother pr (by rw[e3];simp[hpr]) fun hv e=>by
  refine(hnodup pr.1 (C5.2 ⟨pr,hpr,rfl⟩)).1 ?_;simp[H0,hv,e]
 have hB:∀ pr∈B,t2 w w' pr.1:=fun pr hpr=>hother pr (by rw[e3];simp[hpr]) fun hv e=>by
  refine hnodup2.2 pr.1 (C5.2 ⟨pr,hpr,rfl⟩) ?_;simp[H0,hv,e]
 have hcell:∀ b o,N b o→w'.cell? ⟨b,o,none⟩=w.cell? ⟨b,o,none⟩:=by
  intro b o hn;by_cases hb:b=m.b∧m.virt=false
  ·obtain⟨rfl,hv⟩:=hb;have hown:=(h.own (m.b,m.fr) (by rw[e3];simp[H0,hv])).2.2 o hn;exact u.fz o hown hv
  ·refine World.cell?_of_block (u.block b (h.nlt b o hn) ?_);by_cases e:b=m.b
   ·exact .inr (.inl (by cases hv:m.virt<;>simp_all))
   ·exact .inl e
 have g:Gr w w' N N M M':=⟨u.shp,hcell,fun _ _ hn=>hn,fun i x hx=>by
  by_cases hi:i=j
  ·subst hi;rw[hM] at hx;cases hx;exact⟨some m',by simp[M'],fun m2 hm2=>by cases hm2;exact⟨m,rfl,u.same.imp (fun e=>by rw[e]) id⟩⟩
  ·exact⟨x,by simp[M',hi,hx],fun m2 hm2=>⟨m2,hm2,.inl rfl⟩⟩⟩
 have hrr:∀ x v K,Rep w N M x v K→(∀ b∈K,t2 w w' b)→Rep w' N M' x v K:=fun x v K hx hK=>hx.gr g hK;have hown':∀ pr∈H0 m' L1',pr∈H0 m L1∨(w.heap.size≤pr.1∧pr.1<w'.heap.size∧pr.1=m'.b):=by
  intro pr hpr;simp only[H0,u.virt,E0,E5,D8,C5] at hpr;rcases hpr with rfl|⟨b,hb,rfl⟩
  ·rcases u.at_ with⟨h1,h2,h3⟩|h1
   ·exact .inl (by simp[H0,h2,h1,h3])
   ·exact .inr ⟨h1.1,h1.2,rfl⟩
  ·have:=u.sub b hb;cases hv:m.virt with
   |false=>exact .inl (by simp[H0,hv,this])
   |true =>
    have hr:=hbr.vt hv;have hrep:=hbr.rep;rw[hr] at hrep;cases hrep;cases this
 have hlt:∀ pr∈L,pr.1<w.heap.size:=fun pr hpr=>(h.own pr hpr).1;have hj':j<s.hp.length:=by rw[e1,e2];simp
 refine⟨M',⟨h.df,h.sl.gr g (fun _ hb=>by cases hb),?_,?_,?_,?_,h.nup,h.ndn,?_,?_,?_,?_⟩,by simp[M'],fun x v hx=>hrr x v [] hx (fun _ hb=>by cases hb)⟩
 ·show HR w' N M' 0 (s.hp.set j (some k')) _;rw[e1,e2,A1n _ _ (B9 _),R7,A2k];have hq':HR w' N M' (j+1) q B:=hq.gr g hB fun i hi _=>by
   have:i≠j:=by omega
   simp[M',this]
  refine HR.join (hp1.gr g hA fun i _ hi => ?_) ?_
  ·have:i≠j:=by omega
   simp[M',this]
  ·rw[E1,← e2];exact HR.live (by simp[M']) (hnew M' hrr (by simp[M'])) hq'
 ·have:=h.nd;rw[e3] at this;simp only[G0] at this ⊢;refine C1g this ?_ ?_
  ·simp only[H0,u.virt,E0,E5,F6,H7,H9];have e4:(L1'.map (Prod.fst ∘ fun b=>(b,0)))=L1':=by
    have:(Prod.fst ∘ fun b:Nat=>(b,0))=id:=rfl;rw[this,A0q]
   rw[e4];constructor
   ·intro hm;have h1:=u.sub _ hm;cases hv:m.virt with
    |true =>
     have hr:=hbr.vt hv;have hrep:=hbr.rep;rw[hr] at hrep;cases hrep;cases h1
    |false =>
     rcases u.at_ with⟨h2,_,_⟩|⟨h2,_⟩
     ·have h3:=hnodup2.1;simp only[H0,hv,E0,E5,F6,H7,H9] at h3;refine h3.1 ?_;rw[← h2];exact C5.2 ⟨_,h1,rfl⟩
     ·have:=hlt (m'.b,0) (by rw[e3];simp[H0,hv,h1]);omega
   ·cases hv:m.virt with
    |true =>
     have hr:=hbr.vt hv;have hrep:=hbr.rep;rw[hr] at hrep;cases hrep;exact u.nd (by simp)
    |false =>
     have h3:=hnodup2.1;simp only[H0,hv,E0,E5,F6,H7,H9] at h3;have e5:(L1.map (Prod.fst ∘ fun b=>(b,0)))=L1:=by
      have:(Prod.fst ∘ fun b:Nat=>(b,0))=id:=rfl;rw[this,A0q]
     rw[e5] at h3;exact u.nd h3.2
  ·intro x hx;obtain⟨pr,hpr,rfl⟩:=C5.1 hx;rcases hown' pr hpr with h1|⟨h1,h2,h3⟩
   ·exact .inl (C5.2 ⟨pr,h1,rfl⟩)
   ·refine .inr ⟨fun hm => ?_,fun hm => ?_⟩
    ·obtain⟨p2,hp2,e⟩:=C5.1 hm;have:=hlt p2 (by rw[e3];simp[hp2]);omega
    ·obtain⟨p2,hp2,e⟩:=C5.1 hm;have:=hlt p2 (by rw[e3];simp[hp2]);omega
 ·intro pr hpr;have hold:∀ pr∈L,pr.1<w'.heap.size∧(C.w0.heap.size≤pr.1∨pr.1∈C.X)∧∀ o,N pr.1 o→o<pr.2:=fun pr hpr=>by
   obtain⟨h1,h2,h3⟩:=h.own pr hpr;exact⟨P7 h1 u.size,h2,h3⟩
  rcases C9.1 hpr with h1|h1
  ·exact hold pr (by rw[e3];simp[h1])
  ·rcases C9.1 h1 with h1|h1
   ·rcases hown' pr h1 with h2|⟨h2,h3,h4⟩
    ·exact hold pr (by rw[e3];simp[h2])
    ·refine⟨h3,.inl (S2 h.fr.size h2),fun o hn => ?_⟩;have:=h.nlt _ _ hn;omega
   ·exact hold pr (by rw[e3];simp[h1])
 ·intro b o hn;exact P7 (h.nlt b o hn) u.size
 ·refine h.fr.trans (Y:=if m.virt then [] else [m.b]) ⟨u.os,u.tape,u.output,u.size,fun b hb hx=>u.block b hb ?_,u.shp⟩ ?_ (fun b o hn=>hcell b o (h.nup b o hn))
  ·cases hv:m.virt with
   |true=>exact .inr (.inl rfl)
   |false=>rw[hv] at hx;exact .inl (by simpa using hx)
  ·intro y hy;cases hv:m.virt with
   |true=>rw[hv] at hy;cases hy
   |false =>
    rw[hv] at hy;simp only[E0,E5,C1] at hy;subst hy;exact((h.own (m.b,m.fr) (by rw[e3];simp[H0,hv])).2.1).symm
 ·intro i hi;simp only[G1] at hi;have:i≠j:=by omega
  simp only[M',this,E5];exact h.un i hi
 ·intro i m1 m0 h1 h0;by_cases hi:i=j
  ·subst hi;simp only[M',H1,C3] at h1;subst h1;obtain⟨h5,h6⟩:=h.mv i m m0 hM h0;rcases u.same with e|e
   ·rw[e];exact⟨h5,h6⟩
   ·exact⟨by omega,fun hl=>by omega⟩
  ·simp only[M',hi,E5] at h1;exact h.mv i m1 m0 h1 h0
 ·intro i hi;simp only[G1] at hi;exact h.mz i hi
end
open Go Go.RowKit
def A1g(ag:Bool)(z:List AV):AV:=if ag then .agg z else z.headD .any
def AS.new(s:AS)(d:Option Tmp)(k:Blk)(x:AV):AS:=AS.put { s with hp:=s.hp++[some k] } d x
def A20(old:AV)(cs:List AV):AV :=
 match old with
 |.agg _=>.agg cs
 |_=>match cs with
  |[c]=>c
  |cs=>.agg cs
def A9j(s:AS):List (Nat×Operand)→List AV→List AV
 |[],rows=>rows
 |(i,x) :: ps,rows=>A9j s ps (rows.set i (s.ev x))
def B3C(s:AS)(sz n:Nat):List (Nat×Operand)→Prop
 |[]=>True
 |(i,x) :: ps=>i<n∧(s.ev x).fits sz=true∧B3C s sz n ps
def u7(t:ByteArray):List AV:=t.data.toList.map fun b=>.val (.int .u8 b.toNat)
def v9(s:AS)(sz:Nat):AV→Option (List AV)
 |.sl _ sz' rows=>if sz'=sz∨rows=[] then some rows else none
 |.ref j ver off len=>match s.hp.at j ver with
  |some b=>if b.sz=sz then some (sub b.rows off len) else none
  |none=>none
 |.val (.slice none 0 0)=>some []
 |.val (.string t)=>if sz=1 then some (u7 t) else none
 |_=>none
def bareRows(rows:List AV):Prop:=∀ r∈rows,r.cells.all (fun c=>c.bare1&&c.cell1)=true
def B9j:AV→Bool
 |.sl true _ []=>true
 |.val (.slice none 0 0)=>true
 |_=>false
def v7(K:IntKind)(us:List Int):List AV:=us.map fun n=>.val (.int K n)
def B7K:AV→Prop
 |.val (.string _)=>False
 |_=>True
def ae(s:AS)(d:Option Tmp)(K:AS→Prop):NO→Prop
 |.al z=>K (s.new d ⟨z.length,0,[.agg z],0⟩ (.ptr s.hp.length 1 0 0))
 |.bx n x=>(s.ev x).fits n=true∧K (s.new d ⟨n,0,[.agg (s.ev x).cells],0⟩ (.ptr s.hp.length 1 0 0))
 |.bsl sz n ag z ps=>B3C s sz n ps∧K (s.new d ⟨sz,0,A9j s ps (List.replicate n (A1g ag z)),0⟩ (.ref s.hp.length n 0 n))
 |.mk sz by_ ag z l c=>match s.ev l,s.ev c with
  |.val (.int _ n),.val (.int _ m)=>n=m∧0≤n∧n*by_≤140737488355328∧n≤9223372036854775807∧K (s.new d ⟨sz,0,List.replicate n.toNat (A1g ag z),0⟩ (.ref s.hp.length n.toNat 0 n.toNat))
  |_,_=>False
 |.st n x v=>match s.ev x with
  |.ptr j ver row off=>match s.hp.at j ver with
   |some b=>b.lo≤row∧(s.ev v).fits n=true∧off+n≤(b.rows.getD row .any).cells.length ∧
     K (AS.put { s with hp:=s.hp.set j (some { b with rows:=b.rows.set row (A20 (b.rows.getD row .any) ((b.rows.getD row .any).cells.take off++((s.ev v).cells++(b.rows.getD row .any).cells.drop (off+n)))) }) } d .any)
   |none=>False
  |_=>False
 |.app str sz by_ x y=>(match s.ev y with | .val (.string _)=>str=true|_=>str=false)∧match v9 s sz (s.ev y) with
  |some rows=>bareRows rows∧(match s.ev x with
   |.ref j ver off len=>match s.hp.at j ver with
    |some b=>off=0∧len=ver∧b.sz=sz∧(ver+rows.length)*by_≤140737488355328 ∧
      K (AS.put { s with hp:=s.hp.set j (some { b with rows:=b.rows++rows,fz:=0 }) } d (.ref j (ver+rows.length) 0 (ver+rows.length)))
    |none=>False
   |x=>B9j x=true∧rows.length*by_≤140737488355328∧K (s.new d ⟨sz,0,rows,0⟩ (.ref s.hp.length rows.length 0 rows.length)))
  |none=>False
 |.csb x=>match s.ev x with
  |.val (.string t)=>K (s.new d ⟨1,0,u7 t,0⟩ (.ref s.hp.length t.size 0 t.size))
  |_=>False
 |.cpy x y=>match s.ev x with
  |.ref j ver off len=>match s.hp.at j ver with
   |some b=>∃ k us0 us,b.rows=v7 k us0∧b.sz=1∧b.lo≤off∧v9 s 1 (s.ev y)=some (v7 k us)∧B7K (s.ev y) ∧
     K (AS.put { s with hp:=s.hp.set j (some { b with rows:=v7 k (us0.take off++(us.take (min us.length len)++us0.drop (off+min us.length len))) }) } d (.val (goInt ((min us.length len:Nat):Int))))
   |none=>False
  |_=>False
 |.isn neg x=>(match s.ev x with | .sl _ _ _=>True | .val (.slice none 0 0)=>True|_=>False)∧∀ t:Bool,(t=true→B3t (s.ev x)=.val (.int .i64 0))→K (s.put d (.val (.bool (neg != t))))
 |_=>False
def A40(P:Program)(C:Ctx)(a:Act)(w:World)(op:Op)(dst:Option Tmp)(q:Bool)(K:AS→Prop):Prop :=
 ∀ o:Oper,o.op=op→o.dst=dst→∃ s' v w',K s'∧M8 C s' (a.put dst v) w'∧(q=true→c7 w w')∧((execOp a.eval o).run P w=.ok (.value v) w'∨(v=undef∧(execOp a.eval o).run P w=.ok .skip w'))
section
variable {P:Program} {C:Ctx} {s:AS} {a:Act} {w w':World} {N:NT} {M:MT} {L:List (Nat×Nat)}
theorem H4.newPut(h:H4 C s a w N M L){c:Array Value}{e:TypeId}{fz:Nat×Nat}(hp:d6 w w' c e fz){k:Blk}{vs:List Value}
  (hcl:∀ y∈k.rows,y.cells.length=k.sz) (hr:F5 w N M (k.rows.flatMap AV.cells) vs []) (hv:∀ i,i<vs.length→c[i]? = vs[i]?) (hsz:k.rows.length*k.sz≤c.size)
  (hfz:Mk k.sz c.size fz) (hlo:k.lo=0∧k.fz=0) {d:Option Tmp} {x:AV} {v:Value}
  (hx:∀ M' m,M' s.hp.length=some (some m)→m.b=w.heap.size→m.o=0→m.len=k.rows.length→m.sz=k.sz→m.virt=false→Rep w' N M' x v []) :
  M8 C (s.new d k x) (a.put d v) w':=by
 obtain⟨M',m,h1,h2,h3,h4,h5,h6,h7,h8⟩:=h.alloc hp hcl hr hv hsz hfz hlo;exact⟨N,M',_,h1.put d (hx M' m h2 h3 h4 h5 h6 h7)⟩
theorem i8(w:World)(c:Array Value)(e:TypeId):d6 w { w with heap:=w.heap.push (.cells c e) } c e (0,0):=⟨rfl,rfl,rfl,rfl⟩
theorem d6.keeps{c:Array Value}{e:TypeId}{fz:Nat×Nat}(h:d6 w w' c e fz):c7 w w':=by
 rintro ⟨b,o,p⟩ v hv;have hb:b<w.heap.size:=by
  rcases D9 b w.heap.size with h|h
  ·exact h
  ·simp[World.cell?,i9 h] at hv
 rw[← hv];exact World.cell?_of_block (h.old hb)
theorem A5W{z:Nat}(n:Nat):Mk z n (0,0):=⟨fun i _=>by simp,.inr (P1 _)⟩
theorem B8T{k:Nat}{M':MT}{m:Cn}(h2:M' k=some (some m))(h3:m.b=w.heap.size)(h4:m.o=0)(h5:m.len=1)(h7:m.virt=false):Rep w' N M' (.ptr k 1 0 0) (.pointer (some ⟨w.heap.size,0,none⟩)) []:=by
 refine .ptr (some m) h2 fun m' hm => ?_;cases hm;exact⟨by omega,fun _=>⟨by omega,h7,by simp[h3,h4]⟩⟩
theorem B0w{k n cap:Nat}{M':MT}{m:Cn}(h2:M' k=some (some m))(h3:m.b=w.heap.size)(h4:m.o=0)(h5:m.len=n)(h7:m.virt=false)(hc:n≤cap)(hr:A15 w' m.sz w.heap.size (cap*m.sz)):Rep w' N M' (.ref k n 0 n) (.slice (some ⟨w.heap.size,0,none⟩) n cap) []:=by
 refine .ref (some m) h2 fun m' hm => ?_;cases hm;refine⟨by omega,fun _=>⟨by omega,.inr ⟨h7,by simp[h3,h4],hc,?_⟩⟩⟩;rw[h3,h4];simpa using hr
theorem C7f(h:H4 C s a w N M L){t:TypeId}{i:TypeInfo}{z:Value}(hi:P.info? t=some i)(hz:i.zero=some z){d:Option Tmp}{K:AS→Prop}(hc:ae s d K (.al (z.cells.toList.map .val))):A40 P C a w (.alloc t) d true K:=by
 intro o ho hd;have e4:execOp a.eval o=(do pure (.value (← Instr.alloc t true (.tuple #[])))):=by unfold execOp;rw[ho]
 refine⟨_,.pointer (some ⟨w.heap.size,0,none⟩),{ w with heap:=w.heap.push (.cells z.cells t) },hc,?_,fun _=>(i8 w _ _).keeps,.inl ?_⟩
 ·refine h.newPut (i8 w z.cells t) (vs:=z.cells.toList) ?_ ?_ ?_ ?_ (A5W _) ⟨rfl,rfl⟩ ?_
  ·intro y hy;simp at hy;subst hy;simp[AV.cells]
  ·simpa[AV.cells] using F5.vals w N M z.cells.toList
  ·intro i _;simp
  ·simp
  ·intro M' m h2 h3 h4 h5 _ h7;exact B8T h2 h3 h4 (by simpa using h5) h7
 ·rw[e4];simp[Instr.alloc,zeroValue,A2b hi,hz,newVar,newRow]
theorem C8e(h:H4 C s a w N M L){t:TypeId}{n:Nat}{x:Operand}{d:Option Tmp}{K:AS→Prop}(hc:ae s d K (.bx n x)):A40 P C a w (.box t x) d true K:=by
 intro o ho hd;obtain⟨c1,c2⟩:=hc;obtain⟨vs,f1,f2,f3,f4,f5⟩:=A2Q (h.ev x) c1;have e4:execOp a.eval o=(do pure (.value (← Instr.box t (a.eval x)))):=by unfold execOp;rw[ho]
 refine⟨_,.pointer (some ⟨w.heap.size,0,none⟩),{ w with heap:=w.heap.push (.cells ⟨vs⟩ t) },c2,?_,fun _=>(i8 w _ _).keeps,.inl ?_⟩
 ·refine h.newPut (i8 w ⟨vs⟩ t) (vs:=vs) ?_ ?_ ?_ ?_ (A5W _) ⟨rfl,rfl⟩ ?_
  ·intro y hy;simp at hy;subst hy;simpa[AV.cells] using f4
  ·simpa[AV.cells] using f2
  ·intro i _;simp
  ·simp[f3]
  ·intro M' m h2 h3 h4 h5 _ h7;exact B8T h2 h3 h4 (by simpa using h5) h7
 ·rw[e4];simp[Instr.box,newVar,newRow,f1]
end
open Go Go.RowKit
theorem B8e{old:AV}{cs:List AV}(h:∀ c,cs=[c]→c.cell1=true∨∃ d,old=.agg d):(A20 old cs).cells=cs:=by
 unfold A20;split
 ·rfl
 ·rename_i hn;split
  ·rename_i c;rcases h c rfl with h1|⟨d,h1⟩
   ·cases c<;>first|rfl|cases h1
   ·exact absurd h1 (hn d)
  ·rfl
theorem B18{x:AV}{n:Nat}(h:x.fits n=true):x.cells.length=n∧x.cells.all AV.cell1=true:=by
 cases x<;>simp[AV.fits] at h<;>simp[AV.cells,h]
 exact h.2
theorem B1T{ag:Bool}{z:List AV}{sz:Nat}(h:z.length=sz)(h1:ag=false→sz=1∧∀ c∈z,c.cells=[c]):(A1g ag z).cells=z:=by
 cases ag with
 |true=>rfl
 |false =>
  obtain⟨h2,h3⟩:=h1 rfl;cases z with
  |nil=>simp at h;omega
  |cons c z =>
   cases z with
   |cons _ _=>simp at h;omega
   |nil=>simp[A1g,h3]
section
variable {P:Program} {C:Ctx} {s:AS} {a:Act} {w w':World} {N:NT} {M:MT} {L:List (Nat×Nat)}
theorem A4b{z:List AV}{zs:List Value}(h:F5 w N M z zs []):∀ n,F5 w N M ((List.replicate n z).flatten) ((List.replicate n zs).flatten) []
 |0=>by simpa using F5.nil
 |n+1=>by
  rw[A1N,A1N,A2L,A2L];exact F5.join (L1:=[]) (L2:=[]) h (A4b h n)
theorem A65{z:AV}(n:Nat):(List.replicate n z).flatMap AV.cells=(List.replicate n z.cells).flatten:=by
 induction n with
 |zero=>rfl
 |succ n ih=>rw[A1N,F0,ih,A1N,A2L]
theorem B7H(zs:List Value)(n:Nat):((Array.range (n*zs.length)).map fun i=>(⟨zs⟩:Array Value)[i % zs.length]!)=⟨(List.replicate n zs).flatten⟩:=by
 induction n with
 |zero=>simp
 |succ n ih =>
  by_cases hz:zs.length=0
  ·have:zs=[]:=G7.1 hz;subst this;simp
  apply Array.ext';have e2:=congrArg Array.toList ih;simp only[A1A,Array.toList_range] at e2 ⊢;rw[A2j,List.range_add,G0,e2,List.replicate_succ',List.flatten_append];congr 1;simp only[H7,A2L,List.flatten_nil,D5];apply A1B
  ·simp
  ·intro i h1 h2;simp at h1;simp[Nat.add_mod,Nat.mod_eq_of_lt h1,h1]
theorem B4r(h:H4 C s a w N M L){sz:Nat}(hsz:sz≠0){n:Nat}:∀ (ps:List (Nat×Operand)) (rows:List AV) (zs:List Value),rows.length=n→(∀ y∈rows,y.cells.length=sz)→F5 w N M (rows.flatMap AV.cells) zs []→B3C s sz n ps →
  ∃ us,Instr.fill (fun i=>some (i*sz,sz)) ⟨zs⟩ (ps.map fun (p:Nat×Operand)=>(p.1,a.eval p.2))=some ⟨us⟩∧F5 w N M ((A9j s ps rows).flatMap AV.cells) us []∧(A9j s ps rows).length=n∧(∀ y∈A9j s ps rows,y.cells.length=sz)
 |[],rows,zs,hn,hcl,hr,_=>⟨zs,rfl,hr,hn,hcl⟩
 |(i,x) :: ps,rows,zs,hn,hcl,hr,hc=>by
  obtain⟨c1,c2,c3⟩:=hc;obtain⟨vs,f1,f2,f3,f4,f5⟩:=A2Q (h.ev x) c2;have hzl:zs.length=n*sz:=by rw[hr.length,v5 hcl,hn]
  have hi:i*sz+sz≤n*sz:=by
   rw[← A2j];exact O2 _ c1
  have hcl2:∀ y∈rows.set i (s.ev x),y.cells.length=sz:=by
   intro y hy;rcases H5 hy with h1|rfl
   ·exact hcl y h1
   ·exact f4
  have hr2:F5 w N M ((rows.set i (s.ev x)).flatMap AV.cells) (zs.take (i*sz)++(vs++zs.drop (i*sz+vs.length))) []:=by
   have e:rows=rows.take i++rows[i] :: rows.drop (i+1):=by rw[Z5 (by omega),G3]
   have e2:rows.set i (s.ev x)=rows.take i++s.ev x :: rows.drop (i+1):=by rw[Q2,E9 (by omega)]
   rw[e,O1,F0] at hr;obtain⟨v1,v2,e3,r1,r2⟩:=hr.append0;obtain⟨v3,v4,e4,r3,r4⟩:=r2.append0;have l1:v1.length=i*sz:=by rw[r1.length,A3m hcl i (by omega)]
   have l3:v3.length=sz:=by rw[r3.length];exact hcl _ (C2 _)
   rw[e2,O1,F0,e3,e4,f3,A1U l1];refine F5.join (L1:=[]) (L2:=[]) r1 (F5.join (L1:=[]) (L2:=[]) f2 ?_);have:(v1++(v3++v4)).drop (i*sz+sz)=v4:=by
    rw[← F9];exact A1T (by simp[l1,l3])
   rw[this];exact r4
  obtain⟨us,u1,u2,u3,u4⟩:=B4r h hsz ps (rows.set i (s.ev x)) _ (by simpa using hn) hcl2 hr2 c3;refine⟨us,?_,u2,u3,u4⟩;rw[← u1];simp only[F6,Instr.fill,f1,n7,f3];have e:(decide (sz≠sz)||decide (i*sz+sz>zs.length))=false:=by simp;omega
  have e2:vs.toArray.zipIdx.foldl (fun (cs:Array Value) (x:Value×Nat)=>cs.setIfInBounds (i*sz+x.2) x.1) ⟨zs⟩=⟨zs.take (i*sz)++(vs++zs.drop (i*sz+vs.length))⟩:=by
   rw[← B6q vs zs (i*sz) (by omega),← A4V];simp
  rw[G6 (by simpa using e)];rw[← f3] at e2 ⊢;exact congrArg (fun z=>Instr.fill (fun i=>some (i*vs.length,vs.length)) z (ps.map fun (p:Nat×Operand)=>(p.1,a.eval p.2))) e2
theorem C61(h:H4 C s a w N M L){t e:TypeId}{n:Nat}{ps:Array (Nat×Operand)}{i:TypeInfo}{z:Value}(hu:P.underlying t=some (.slice e))(hi:P.info? e=some i)(hz:i.zero=some z)(hs:z.cells.size=i.size)(h0:i.size≠0)
  (hag:∀ c∈(z.cells.toList.map AV.val),K9 P e=false→c.cells=[c]) (hsc:K9 P e=false→i.size=1) (hn:n*i.size≤16777216)
  {d:Option Tmp} {K:AS→Prop} (hc:ae s d K (.bsl i.size n (K9 P e) (z.cells.toList.map .val) ps.toList)):A40 P C a w (.buildSlice t n ps) d true K:=by
 intro o ho hd;obtain⟨c1,c2⟩:=hc;have hzc:(A1g (K9 P e) (z.cells.toList.map .val)).cells=z.cells.toList.map .val:=B1T (by simpa using hs) fun h1=>⟨hsc h1,fun c hc=>hag c hc h1⟩;have hcl:∀ y∈List.replicate n (A1g (K9 P e) (z.cells.toList.map .val)),y.cells.length=i.size:=by
  intro y hy;rw[A2l hy,hzc];simpa using hs
 have hr:F5 w N M ((List.replicate n (A1g (K9 P e) (z.cells.toList.map .val))).flatMap AV.cells) ((List.replicate n z.cells.toList).flatten) []:=by
  rw[A65,hzc];exact A4b (F5.vals w N M z.cells.toList) n
 obtain⟨us,u1,u2,u3,u4⟩:=B4r h h0 ps.toList _ _ (by simp) hcl hr c1;have e4:execOp a.eval o=(do pure (.value (← Instr.buildSlice t n (ps.map fun (p:Nat×Operand)=>(p.1,a.eval p.2))))):=by unfold execOp;rw[ho]
 have hul:us.length=n*i.size:=by rw[u2.length,v5 u4,u3]
 refine⟨_,.slice (some ⟨w.heap.size,0,none⟩) n n,{ w with heap:=w.heap.push (.cells ⟨us⟩ e) },c2,?_,fun _=>(i8 w _ _).keeps,.inl ?_⟩
 ·refine h.newPut (i8 w ⟨us⟩ e) (vs:=us) u4 u2 (fun i _=>by simp) (by rw[u3];simp[hul]) (A5W _) ⟨rfl,rfl⟩ ?_;intro M' m h2 h3 h4 h5 h6 h7;refine B0w h2 h3 h4 (by rw[h5];exact u3) h7 (B9 _) ⟨⟨us⟩,e,(0,0),(i8 w _ _).new,?_,A5W _⟩;rw[h6];simp[hul]
 ·rw[e4];have e5:(ps.map fun (p:Nat×Operand)=>(p.1,a.eval p.2)).toList=ps.toList.map fun (p:Nat×Operand)=>(p.1,a.eval p.2):=by simp
  have e7:n*i.size≠0→((Array.range (n*i.size)).map fun j=>z.cells[j % z.cells.size]!)=⟨(List.replicate n z.cells.toList).flatten⟩:=by
   intro _;have:=B7H z.cells.toList n;rw[A1O,hs] at this;rw[← this,hs]
  have e8:n*i.size=0→((Array.range (n*i.size)).map fun j=>(#[]:Array Value)[j % (#[]:Array Value).size]!)=⟨(List.replicate n z.cells.toList).flatten⟩:=by
   intro hz0;have:n=0:=by
    rcases Nat.mul_eq_zero.1 hz0 with h1|h1
    ·exact h1
    ·exact absurd h1 h0
   subst this;simp
  simp only[Instr.buildSlice,Sem.run_bind,run_underlying hu,Result.andThen_ok,sizeOf,A2b hi,Sem.run_pure];rw[Sem.run_ite,G6 (by omega)];by_cases hz0:n*i.size=0
  ·simp only[hz0,H1,Sem.run_bind,Sem.run_pure,Result.andThen_ok];have:=e8 hz0;rw[hz0] at this;rw[this,e5,u1];simp only[Sem.run_bind,newRow,run_newObj,Result.andThen_ok,Sem.run_pure]
  ·simp only[hz0,E5,Sem.run_bind,Sem.run_pure,Result.andThen_ok,zeroValue,A2b hi,hz];rw[e7 hz0,e5,u1];simp only[Sem.run_bind,newRow,run_newObj,Result.andThen_ok,Sem.run_pure]
end
end Go.Proofs.YtkmhopbmpeiofaaGreat.Nx
