/- Calls and blocks of abstract values: sound, with no condition beyond those each lemma names. -/
import Derived.Laws.BytesArg
import Derived.Lib.ConvBytes
import Derived.Test.YtkmhopbmpeiofaaGreatNxd
set_option linter.unusedVariables false
set_option linter.unusedSimpArgs false
namespace Go.Proofs.YtkmhopbmpeiofaaGreat.Nx
open Go Go.RowKit
section
variable {P:Program} {C:Ctx} {s:AS} {a:Act} {w w':World} {N:NT} {M:MT} {L:List (Nat×Nat)}
theorem A8J:∀ {rows:List AV} {l:List UInt8},A3e rows=some l→∃ ns:List Int,rows=ns.map (fun n=>AV.val (.int .u8 n))∧l=ns.map fun n=>UInt8.ofNat n.toNat
 |[],l,h=>by cases h;exact⟨[],rfl,rfl⟩
 |x :: xs,l,h=>by
  unfold A3e at h;split at h
  ·rename_i h0;cases h0
  ·rename_i n ys e;cases e;obtain⟨l',h1,rfl⟩:=T7.1 h;obtain⟨ns,rfl,rfl⟩:=A8J h1;exact⟨n :: ns,rfl,rfl⟩
  ·cases h
theorem B1n:∀ {us:List Value} {vs:List Value} {K:List Nat},F5 w N M (us.map .val) vs K→vs=us
 |[],_,_,r=>by cases r;rfl
 |u :: us,_,_,r=>by
  cases r with
  |cons hx ht =>
   cases hx;rw[B1n ht]
theorem C6Y(h:H4 C s a w N M L){src dst e:TypeId}{x:Operand}(hs:P.underlying src=some (.slice e))(he:P.underlying e=some (.int .u8))(hd:P.underlying dst=some .string)(hc:apc s (.cbs x)) :
  ∃ v,A4L P a w (.convert src dst x) v∧Rep w N M (apv s (.cbs x)) v []:=by
 have run:∀ (w':World) (o:Oper) (v:Value),o.op=.convert src dst x→(convert src dst (a.eval x)).run P w'=.ok v w'→(execOp a.eval o).run P w'=.ok (.value v) w':=fun w' o v ho hv=>by
  have e1:execOp a.eval o=(do pure (.value (← convert src dst (a.eval x)))):=by unfold execOp;rw[ho]
  rw[e1,Sem.run_bind,hv];rfl
 have r:=h.ev x;have key:∀ (sz:Nat) (rows:List AV),A7c s (s.ev x)=some (sz,rows)→∃ ad len cap,a.eval x=.slice ad len cap∧((len=0∧rows=[])∨∃ b o K,ad=some ⟨b,o,none⟩∧len=rows.length∧I0 w N M b o (rows.flatMap AV.cells) K):=by
  intro sz rows hr;generalize s.ev x=z at r hr;generalize a.eval x=u at r;unfold A7c at hr;split at hr
  ·rename_i own sz' rows';cases hr;cases r with
   |slI0 _ ad cap=>exact⟨_,_,_,rfl,.inl ⟨rfl,rfl⟩⟩
   |slO0 _ ad=>exact⟨_,_,_,rfl,.inl ⟨rfl,rfl⟩⟩
   |slI r hcl hN hcap=>exact⟨_,_,_,rfl,.inr ⟨_,_,_,rfl,rfl,r⟩⟩
  ·rename_i j ver off len;obtain⟨b,hbk,e1⟩:=T7.1 hr;cases e1;obtain⟨hl,m,L1,h1,h2,h3,h4⟩:=h.blk hbk;cases r with
   |ref mm hM hm =>
    rename_i ad cap;rw[h1] at hM;cases hM;obtain⟨h5,h6⟩:=hm m rfl;obtain⟨h7,h8⟩:=h6 (by rw[h2.len,hl]);have hln:off+len≤b.rows.length:=by rw[← h2.len];exact h7
    have hsl:=A68 hln;rcases h8 with⟨rfl,rfl⟩|⟨h8,rfl,h9,h10⟩
    ·exact⟨_,_,_,rfl,.inl ⟨rfl,G7.1 hsl⟩⟩
    ·obtain⟨K1,K2,K3,hK,r'⟩:=h2.rep.rows h2.cl off len hln;rw[← A13 hln] at r';refine⟨_,_,_,rfl,.inr ⟨_,_,K2,rfl,hsl.symm,?_⟩⟩;rw[h2.sz];exact r'
  ·cases hr;cases r;exact⟨_,_,_,rfl,.inl ⟨rfl,rfl⟩⟩
  ·cases hr
 simp only[apc] at hc;split at hc
 ·rename_i sz rows hr;obtain⟨l,hl⟩:=n6.1 hc;obtain⟨ns,rfl,rfl⟩:=A8J hl;obtain⟨ad,len,cap,hv,hk⟩:=key sz _ hr;refine⟨.string (strOfNums ns),fun w' hw o ho=>run w' o _ ho ?_,?_⟩
  ·rw[hv];rcases hk with⟨rfl,hn⟩|⟨b,o',K,rfl,rfl,r'⟩
   ·obtain rfl:ns=[]:=by simpa using hn
    rw[run_convert_bytes_string w' src dst e _ _ _ hs he hd];cases ad with
    |none=>rfl
    |some ad=>rw[run_bytesToString w' ad 0 cap [] (by simp[loadCells,loadCellsFrom])];rfl
   ·refine run_convert_bytes_arg w' src e hs he b o' _ cap ns (by simp) (fun i hi => ?_) dst hd;obtain⟨vs,r1,r2,r3⟩:=r'.values;have ec:(ns.map fun n=>AV.val (.int .u8 n)).flatMap AV.cells=(ns.map fun n=>Value.int .u8 n).map .val:=by
     generalize ns=l;induction l with
     |nil=>rfl
     |cons x l ih=>simp[AV.cells] at ih ⊢; exact ih
    rw[ec] at r1;have:=B1n r1;subst this;simp only[C7] at hi;have hi2:i<((ns.map fun n=>AV.val (.int .u8 n)).flatMap AV.cells).length:=by rw[ec];simpa using hi
    have hc2:=r3 i hi2;refine hw _ _ (hc2.trans ?_);simp[List.getD,hi]
  ·simp only[apv,hr,hl];exact .val _
 ·exact hc.elim
theorem B0A(h:H4 C s a w N M L){op:Op}{no:NO}(hn:nOp P op=some no)(hc:apc s no):∃ v,(A4L P a w op v∧(no.looks=false→W4 P a op v))∧Rep w N M (apv s no) v []:=by
 have tl:∀ {op:Op} {v:Value},W4 P a op v→A4L P a w op v∧(no.looks=false→W4 P a op v):=fun ht=>⟨fun w' _ o ho=>ht w' o ho,fun _=>ht⟩;have te:∀ {op:Op} {x:AV},(∃ v,W4 P a op v∧Rep w N M x v [])→∃ v,(A4L P a w op v∧(no.looks=false→W4 P a op v))∧Rep w N M x v []:=fun⟨v,h1,h2⟩=>⟨v,tl h1,h2⟩
 have mv:∀ x,(∀ o:Oper,o.op=op→execOp a.eval o=pure (.value (a.eval x)))→∃ v,(A4L P a w op v∧(no.looks=false→W4 P a op v))∧Rep w N M (s.ev x) v []:=fun x hx=>te ⟨a.eval x,fun w' o ho=>by rw[hx o ho];rfl,h.ev x⟩;cases op with
 |move x=>cases hn;exact mv _ fun o ho=>by unfold execOp;rw[ho]
 |assign x=>cases hn;exact mv _ fun o ho=>by unfold execOp;rw[ho]
 |pick c x y =>
  cases hn;simp only[apc] at hc;split at hc
  ·rename_i b hb;refine⟨if b then a.eval x else a.eval y,tl fun w' o ho => ?_,?_⟩
   ·have e:execOp a.eval o=(do pure (.value (if ← asBool (a.eval c) then a.eval x else a.eval y))):=by unfold execOp;rw[ho]
    rw[e,h.evv hb];rfl
   ·simp only[apv,hb];cases b
    ·exact h.ev y
    ·exact h.ev x
  ·exact hc.elim
 |binOp b t x y yt =>
  simp only[nOp] at hn;unfold C4M at hn;split at hn
  ·cases hn;exact te (B8r h hc)
  ·cases hn;exact te (B8r h hc)
  ·rename_i hu;split at hn
   ·cases hn;simp only[apc] at hc;split at hc
    ·rename_i u c hx hy;exact⟨_,tl (B8V (neg:=false) h hu hx hy),by simp only[apv,hx,hy];exact .val _⟩
    ·exact hc.elim
   ·cases hn;simp only[apc] at hc;split at hc
    ·rename_i u c hx hy;exact⟨_,tl (B8V (neg:=true) h hu hx hy),by simp only[apv,hx,hy];exact .val _⟩
    ·exact hc.elim
   ·cases hn
  ·rename_i fs hu;split at hn
   ·cases hn
   ·rename_i hg;split at hn
    ·rename_i ks hk;split at hn
     ·cases hn;simp only[apc] at hc;split at hc
      ·rename_i xs ys hx hy;exact⟨_,tl (B8s (neg:=false) h hu (by simpa using hg) hk hx hy hc.1 hc.2),by simp only[apv,hx,hy];exact .val _⟩
      ·exact hc.elim
     ·cases hn;simp only[apc] at hc;split at hc
      ·rename_i xs ys hx hy;exact⟨_,tl (B8s (neg:=true) h hu (by simpa using hg) hk hx hy hc.1 hc.2),by simp only[apv,hx,hy];exact .val _⟩
      ·exact hc.elim
     ·cases hn
    ·cases hn
  ·cases hn
 |unOp u t x=>cases hn;exact te (C7b h hc)
 |convert src dst x =>
  simp only[nOp] at hn;unfold C3w at hn;split at hn
  ·rename_i hs hd;cases hn;exact te (C6l h hs hd hc)
  ·rename_i e hs hd;split at hn
   ·rename_i he;cases hn;obtain⟨v,h1,h2⟩:=C6Y (P:=P) h hs he hd hc;exact⟨v,⟨h1,fun hl=>by cases hl⟩,h2⟩
   ·cases hn
  ·cases hn
 |fieldAddr t x i =>
  simp only[nOp] at hn;unfold C4h at hn;split at hn
  ·rename_i fs hu;split at hn
   ·rename_i f hf;split at hn
    ·cases hn
    ·rename_i h0;cases hn;exact te (C6a h hu hf h0 hc)
   ·cases hn
  ·cases hn
 |field t x i =>
  simp only[nOp] at hn;unfold C2V at hn;split at hn
  ·rename_i fs hu;split at hn
   ·rename_i f hf;split at hn
    ·cases hn
    ·rename_i h0;cases hn;simp only[not_or] at h0;cases hd:P.underlying f.type with
     |none=>exact absurd hd h0.2
     |some d=>exact te (C6M h hu hf h0.1 hd hc)
   ·cases hn
  ·cases hn
 |indexAddr t x i =>
  simp only[nOp] at hn;unfold C34 at hn;split at hn
  ·rename_i e hu;split at hn
   ·cases hn
   ·rename_i h0;cases hn;exact te (C68 h hu h0 hc)
  ·rename_i len e hu;split at hn
   ·cases hn
   ·rename_i h0;cases hn;exact te (C6P h hu h0 hc)
  ·cases hn
 |index t x i =>
  simp only[nOp] at hn;unfold C3y at hn;split at hn
  ·rename_i hu;cases hn;simp only[apc] at hc;split at hc
   ·rename_i u k n hx hi;exact⟨_,tl (C6L h hu hx hi hc.1 hc.2),by simp only[apv,hx,hi];exact .val _⟩
   ·exact hc.elim
  ·rename_i len e hu;split at hn
   ·cases hn
   ·rename_i h0;cases hn;simp only[not_or] at h0;cases hd:P.underlying e with
    |none=>exact absurd hd h0.2
    |some d=>exact te (C6y h hu h0.1 hd hc)
  ·cases hn
 |extract x i =>
  cases hn;simp only[apc] at hc;split at hc
  ·rename_i vs hx;obtain⟨v,h1,h2⟩:=C6u (P:=P) h hx hc;exact⟨v,tl h1,by simp only[apv,hx];exact h2⟩
  ·exact hc.elim
 |slice t x lo hi mx =>
  simp only[nOp] at hn;unfold C4r at hn;split at hn
  ·rename_i e hu;split at hn
   ·cases hn
   ·rename_i h0;split at hn
    ·cases hn;exact te (C6D h hu h0 hc)
    ·split at hn
     ·cases hn;obtain⟨c1,c2,c3,c4⟩:=hc;exact te (C6X h hu h0 c1 c2 c3 c4)
     ·cases hn
  ·rename_i hu;split at hn
   ·cases hn;simp only[apc] at hc;split at hc
    ·rename_i u hx;split at hc
     ·rename_i l e hl he;exact⟨_,tl (C6v h hu hx hl he hc.1 hc.2.1 hc.2.2),by simp only[apv,hx,hl,he];exact .val _⟩
     ·exact hc.elim
    ·exact hc.elim
   ·cases hn
  ·cases hn
 |nilCheck x=>cases hn;exact te (C6K h hc)
 |makeFunc fn first cap =>
  simp only[nOp] at hn;unfold C31 at hn;split at hn
  ·split at hn
   ·rename_i f h0;cases hn;have:first = #[]:=Array.eq_empty_of_size_eq_zero h0;subst this;exact te (C6N h)
   ·cases hn
  ·cases hn
 |build t ps =>
  simp only[nOp] at hn;unfold C3v at hn;split at hn
  ·rename_i fs i hu hi;split at hn
   ·rename_i z l hz hl;split at hn
    ·rename_i hall;cases hn;exact te (C6V h hu hi hz hl (fun f hf=>by simpa using (Array.all_eq_true_iff_forall_mem.1 hall) f hf) hc)
    ·cases hn
   ·cases hn
  ·rename_i len e i hu hi;split at hn
   ·rename_i z hz;split at hn
    ·cases hn
    ·rename_i h0;cases hn;exact te (C6z h hu hi hz h0 hc)
   ·cases hn
  ·cases hn
 |load t x =>
  simp only[nOp] at hn;unfold nLd at hn;split at hn
  ·cases hn
  ·rename_i h0;split at hn
   ·rename_i d hd;cases hn;obtain⟨v,h1,h2⟩:=C2G h h0 hd hc;exact⟨v,⟨h1,fun e=>by cases e⟩,h2⟩
   ·cases hn
 |call c =>
  simp only[nOp] at hn;unfold C3H at hn;obtain⟨callee,args,tys⟩:=c;simp only at hn;split at hn
  ·rename_i b;split at hn
   ·rename_i x t h1 h2;have e1:args = #[x]:=by rw[← V5 (xs:=args),h1]
    have e2:tys = #[t]:=by rw[← V5 (xs:=tys),h2]
    subst e1;subst e2;split at hn
    ·rename_i hu;cases hn;simp only[apc] at hc;split at hc
     ·rename_i u hx;exact⟨_,tl (C6H h hu hx),by simp only[apv,hx];exact .val _⟩
     ·exact hc.elim
    ·rename_i hu;cases hn;exact te (C6f h hu hc)
    ·cases hn
   ·rename_i x y h1;have e1:args = #[x,y]:=by rw[← V5 (xs:=args),h1]
    subst e1;cases hn;simp only[apc] at hc;split at hc
    ·rename_i k u k' c hx hy;subst hc;exact⟨_,tl (B8E (mx:=false) h hx hy),by simp only[apv,hx,hy];exact .val _⟩
    ·exact hc.elim
   ·rename_i x y h1;have e1:args = #[x,y]:=by rw[← V5 (xs:=args),h1]
    subst e1;cases hn;simp only[apc] at hc;split at hc
    ·rename_i k u k' c hx hy;subst hc;exact⟨_,tl (B8E (mx:=true) h hx hy),by simp only[apv,hx,hy];exact .val _⟩
    ·exact hc.elim
   ·cases hn
  ·cases hn
 |_=>cases hn
end
open Go Go.RowKit
section
variable {P:Program} {C:Ctx} {s:AS} {a:Act} {w w':World} {N:NT} {M:MT} {L:List (Nat×Nat)}
theorem A2e(K:IntKind):∀ us:List Int,(v7 K us).flatMap AV.cells=v7 K us
 |[]=>rfl
 |u :: us=>by
  show(AV.val (Value.int K u)).cells++(v7 K us).flatMap AV.cells=_;rw[A2e K us];rfl
theorem A8b{K:IntKind}{b:Nat}:∀ {us:List Int} {o:Nat} {L:List Nat},I0 w N M b o (v7 K us) L→L=[]∧∀ i v,us[i]? = some v→w.cell? ⟨b,o+i,none⟩=some (Value.int K v)
 |[],o,L,h=>by
  cases h;exact⟨rfl,fun i v e=>by simp at e⟩
 |u :: us,o,L,h=>by
  cases h with
  |cons h1 h2 h3 =>
   obtain⟨e,h4⟩:=A8b h3;cases h2 with
   |val v =>
    refine⟨by rw[e];rfl,fun i v hv => ?_⟩;cases i with
    |zero=>simp only[E8,C3] at hv;rw[← hv];exact h1
    |succ i =>
     have:=h4 i v (by simpa using hv);rw[show o+(i+1)=o+1+i from by omega];exact this
theorem B0I{K:IntKind}{b:Nat}:∀ {us:List Int} {o:Nat},(∀ i v,us[i]? = some v→w.cell? ⟨b,o+i,none⟩=some (Value.int K v))→I0 w N M b o (v7 K us) []
 |[],o,h=>.nil _ _
 |u :: us,o,h=>by
  refine .cons (L1:=[]) (L2:=[]) (v:=Value.int K u) (by simpa using h 0 u rfl) (.val _) (B0I fun i v hv => ?_);have:=h (i+1) v (by simpa using hv);rw[show o+1+i=o+(i+1) from by omega];exact this
theorem A2U(K:IntKind)(us:List Int):(v7 K us).length=us.length:=C7 _
theorem C0h(K:IntKind)(us:List Int):∀ y∈v7 K us,y.cells.length=1:=fun y hy=>by
 obtain⟨u,_,rfl⟩:=C5.1 hy;rfl
theorem B6W(b o i:Nat):Addr.add ⟨b,o,none⟩ i=⟨b,o+i,none⟩:=by
 unfold Addr.add;split
 ·rename_i h;rw[h];rfl
 ·rfl
theorem C6r(h:H4 C s a w N M L){y:Operand}{K:IntKind}{us:List Int}(hr:v9 s 1 (s.ev y)=some (v7 K us))(hs:B7K (s.ev y)) :
  ∃ ad cap,a.eval y=.slice ad us.length cap∧∀ i v,us[i]? = some v→∃ x,ad=some x∧w.cell? (x.add i)=some (Value.int K v):=by
 have r:=h.ev y;have hval:∀ u,s.ev y=.val u→a.eval y=u:=fun u e=>h.evv e;generalize a.eval y=u at r hval;have nil:us=[]→∀ ad cap,u=.slice ad 0 cap→∃ ad cap,u=.slice ad us.length cap∧∀ i v,us[i]? = some v→∃ x,ad=some x∧w.cell? (x.add i)=some (Value.int K v):=fun e ad cap e2=>by
  subst e;exact⟨ad,cap,e2,fun i v hv=>by simp at hv⟩
 have nil':∀ {x:List AV},x=[]→v7 K us=x→us=[]:=fun e1 e2=>by
  rw[e1] at e2;exact List.map_eq_nil_iff.1 e2
 unfold v9 at hr;split at hr
 ·rename_i own sz' rows' hy;rw[hy] at r;split at hr
  ·have hr:=P3 hr;subst hr;generalize hz:v7 K us=z at r;cases r with
   |slI0 _ ad cap=>exact nil (nil' rfl hz) _ _ rfl
   |slO0 _ ad=>exact nil (nil' rfl hz) _ _ rfl
   |slI r hcl hN hcap =>
    rename_i b o cap;rw[← hz,A2e] at r;obtain⟨_,hc⟩:=A8b r;exact⟨_,cap,by rw[← hz,A2U],fun i v hv=>⟨_,rfl,by rw[B6W];exact hc i v hv⟩⟩
  ·cases hr
 ·rename_i j ver off len hy;rw[hy] at r;split at hr
  ·rename_i b hbk;split at hr
   ·rename_i hsz;have hr:=P3 hr;obtain⟨hl,m,L1,h1,h2,h3,h4⟩:=h.blk hbk;cases r with
    |ref mm hM hm =>
     rename_i ad cap;rw[h1] at hM;cases hM;obtain⟨h5,h6⟩:=hm m rfl;obtain⟨h7,h8⟩:=h6 (by rw[h2.len,hl]);have hln:off+len≤b.rows.length:=by rw[← h2.len];exact h7
     have hsl:=A68 hln;have hlu:us.length=len:=by rw[← hsl,hr,A2U]
     rcases h8 with⟨h0,rfl⟩|⟨h8,rfl,h9,h10⟩
     ·subst h0;exact nil (G7.1 hlu) _ _ rfl
     ·obtain⟨K1,K2,K3,hK,r'⟩:=h2.rep.rows h2.cl off len hln;rw[← A13 hln,hr,A2e] at r';obtain⟨_,hc⟩:=A8b r';refine⟨_,cap,by rw[hlu],fun i v hv=>⟨_,rfl,?_⟩⟩;have:=hc i v hv;rw[h2.sz,B6W];exact this
   ·cases hr
  ·cases hr
 ·rename_i hy;have hr:=P3 hr;exact nil (nil' rfl hr.symm) _ _ (hval _ hy)
 ·rename_i t hy;rw[hy] at hs;exact hs.elim
 ·cases hr
theorem B36{o:Oper}{x y:Operand}{t u:TypeId}(ho:o.op=.call { callee:=.builtin .copy,args := #[x,y],argTypes := #[t,u] }){v:Value}{w':World}
  (h:(Builtin.copy_ #[t,u] o.type #[a.eval x,a.eval y]).run P w=.ok v w'):(execOp a.eval o).run P w=.ok (.value v) w':=by
 have e:execOp a.eval o=(do let d ← resolve a.eval { callee:=.builtin .copy,args := #[x,y],argTypes := #[t,u] } o.type;invoke d.target d.args):=by unfold execOp;rw[ho]
 rw[e];simp[resolve,invoke,builtin,h]
theorem C6p{us0 us:List Int}{off n i:Nat}(h:off+n≤us0.length)(hn:n≤us.length):(us0.take off++(us.take n++us0.drop (off+n)))[i]? = if off≤i∧i<off+n then us[i-off]? else us0[i]? := by
 have l1:(us0.take off).length=off:=by rw[E7];omega
 have l2:(us.take n).length=n:=by rw[E7];omega
 rw[A0j,l1];by_cases h1:i<off
 ·rw[E9 h1,G6 (by omega),A59 h1]
 ·rw[G6 h1,A0j,l2];by_cases h2:i-off<n
  ·rw[E9 h2,E9 (by omega),A59 h2]
  ·rw[G6 h2,G6 (by omega),m3];congr 1;omega
theorem C6g(h:H4 C s a w N M L){t u e:TypeId}{x y:Operand}(ht:P.underlying t=some (.slice e))(hi:(P.info? e).map (·.size)=some 1)
  {d:Option Tmp} {K:AS→Prop} (hc:ae s d K (.cpy x y)):A40 P C a w (.call { callee:=.builtin .copy,args := #[x,y],argTypes := #[t,u] }) d false K:=by
 intro o ho hd;simp only[ae] at hc;split at hc
 ·rename_i j ver off len hx;split at hc
  ·rename_i b hbk;obtain⟨k,us0,us,c1,c2,c3,c4,c5,c6⟩:=hc;obtain⟨sad,scap,hy,hsc⟩:=C6r h c4 c5;obtain⟨hl,_,_,_,_,_,g4⟩:=h.blk hbk;obtain⟨p,q,A,B,m,L1,e1,e2,e3,hp1,hM,hbr,hq⟩:=h.hp.focus g4;rw[E1] at hM hq;have r:=h.ev x;rw[hx] at r;generalize hxv:a.eval x=xv at r;cases r with
   |ref mm hM' hm =>
    rename_i ad cap;rw[hM] at hM';cases hM';obtain⟨h5,h6⟩:=hm m rfl;obtain⟨h7,h8⟩:=h6 (by rw[hbr.len,hl]);have hl0:us0.length=ver:=by rw[← hl,c1,A2U]
    have hml:m.len=us0.length:=by rw[hbr.len,hl,hl0]
    have hmz:m.sz=1:=by rw[hbr.sz,c2]
    have hn:min us.length len=Nat.min us.length len:=rfl;by_cases h0:Nat.min us.length len=0
    ·refine⟨_,goInt 0,w,c6,?_,(fun e=>by cases e),.inl (B36 ho (by rw[hxv,hy];exact run_copy_none w t u o.type e ad sad len cap us.length scap ht hi h0))⟩;rw[hn,h0];have:us0.take off++(us.take 0++us0.drop (off+0))=us0:=by rw[A2F,I2,H2,G3]
     rw[this,← c1];have hset:s.hp.set j (some { b with rows:=b.rows })=s.hp:=by
      have hjl:j<s.hp.length:=(B4.1 g4).1;apply A1a;intro i;rw[G5];by_cases hij:j=i
      ·subst hij;rw[E9 rfl,E9 hjl,g4]
      ·rw[G6 hij]
     rw[hset];exact⟨N,M,L,h.put d (.val _)⟩
    ·obtain⟨sA,rfl⟩:∃ sA,sad=some sA:=by
      have:0<us.length:=by
       rcases A2n us.length with h1|h1
       ·rw[h1] at h0;simp at h0
       ·exact h1
      obtain⟨x,hx,_⟩:=hsc 0 us[0] (D1 this);exact⟨x,hx⟩
     have hlen:len≠0:=fun e=>h0 (by rw[e];exact Nat.min_zero _);rcases h8 with⟨h9,_⟩|⟨hv,rfl,h9,h10⟩
     ·exact absurd h9 hlen
     generalize hN:Nat.min us.length len=n at *
     have hn1:n≤us.length:=by rw[← hN];exact Nat.min_le_left _ _
     have hn2:n≤len:=by rw[← hN];exact Nat.min_le_right _ _
     rw[hn] at c6;rw[hmz,A6Z] at hxv;have hroom:=hbr.rm hv;rw[hmz,A6Z] at hroom
     let cs:List Value:=(us.take n).map fun v=>Value.int k v
     have hcl:cs.length=n:=by show((us.take n).map _).length=n;rw[C7,E7];omega
     have hcg:∀ i,cs[i]? = if i<n then(us[i]?).map (fun v=>Value.int k v) else none:=fun i=>by
      show((us.take n).map _)[i]? = _;rw[H3,A0W];split<;>rfl
     have hex:∀ i,i<cs.length→(w.cell? ⟨m.b,m.o+off+i,none⟩).isSome=true:=fun i hi=>(hroom.cell (by omega)).1;have hfr:∀ i,i<cs.length→w.frozen? ⟨m.b,m.o+off+i,none⟩=false:=fun i hi=>(hroom.cell (by omega)).2;obtain⟨s1,s2,s3,s4,s5,s6⟩:=A1D m.b cs (m.o+off) w;have hcell:=fun i=>d2 hex i;have hrep:=hbr.rep;rw[c1,A2e] at hrep;obtain⟨hL1,hold⟩:=A8b hrep;subst hL1
     have hff:m.fr≤m.o+off:=by
      have h1:=hbr.fr;rw[c2,A6Z] at h1;omega
     have up:Upd w (w.setCells m.b (m.o+off) cs) m m [] []:=by
      refine⟨s4,s5,s6,by rw[s1];exact B9 _,s3,fun b hb hne => ?_,fun o ho _ => ?_,.inl rfl,hv,.inl ⟨rfl,hv,rfl⟩,fun _ h=>h,fun h=>h⟩
      ·have hmb:m.b<w.heap.size:=by
        obtain⟨c,e,fz,h1,_⟩:=hroom;exact A5q h1
       refine s2 b ?_;rcases hne with h1|h1|h1
       ·exact h1
       ·rw[hv] at h1;cases h1
       ·omega
      ·rw[hcell,G6 (by omega)]
     have hlen2:(us0.take off++(us.take n++us0.drop (off+n))).length=us0.length:=by
      simp only[A5,E7,I4];omega
     obtain⟨M',hcd,_,_⟩:=h.upd g4 e1 e2 e3 hp1 hM hbr hq up (k':={ b with rows:=v7 k (us0.take off++(us.take n++us0.drop (off+n))) }) fun M' hk hMj=>by
      refine⟨by rw[hml];simp only[A2U,hlen2],by rw[hmz,c2],hbr.fr,by rw[c2];exact C0h _ _,?_,(fun e=>by rw[hv] at e;cases e),fun _=>(hbr.rm hv).gr s3,by simp only[A2U,hlen2];rw[← hml,hbr.len];exact hbr.lo,hbr.fz,hbr.f0⟩;show I0 _ N M' m.b m.o ((v7 k _).flatMap AV.cells) [];rw[A2e];refine B0I fun i v hv' => ?_;rw[C6p (by omega) hn1] at hv'
      rw[hcell,hcl];by_cases hin:off≤i∧i<off+n
      ·rw[E9 hin] at hv';rw[E9 (by omega),hcg,E9 (by omega),show m.o+i-(m.o+off)=i-off from by omega,hv'];rfl
      ·rw[G6 hin] at hv';rw[G6 (by omega)];exact hold i v hv'
     have hrun:(Builtin.copy_ #[t,u] o.type #[a.eval x,a.eval y]).run P w=.ok (goInt cs.length) (w.setCells m.b (m.o+off) cs):=by
      rw[hxv,hy];refine run_copy_cells w t u o.type e m.b (m.o+off) len cap sA us.length scap cs ht hi (by rw[hcl,hN]) (fun i v hv' => ?_) hex hfr (fun v hv' => ?_)
      ·rw[hcg] at hv';split at hv'
       ·cases hu:us[i]? with
        |none=>rw[hu] at hv'; cases hv'
        |some z =>
         rw[hu] at hv';cases hv';obtain⟨xx,e5,e6⟩:=hsc i z hu;cases e5;exact e6
       ·cases hv'
      ·obtain⟨z,_,rfl⟩:=C5.1 hv';rfl
     refine⟨_,goInt n,w.setCells m.b (m.o+off) cs,c6,⟨N,M',_,hcd.put d (.val _)⟩,(fun e=>by cases e),.inl (B36 ho (by rw[hrun,hcl]))⟩
  ·exact hc.elim
 ·exact hc.elim
end
open Go Go.RowKit
theorem B6M(w:World)(e:TypeId)(t:ByteArray):d6 w (Lib.bytesWorld w e t) (Lib.bytesCells w e t) e ((Lib.bytesCells w e t).size,(Lib.bytesCells w e t).size+1):=by
 refine⟨?_,rfl,rfl,rfl⟩;apply Array.ext
 ·rw[Lib.bytesWorld_size,Array.size_push]
 ·intro i h1 h2;rcases D9 i w.heap.size with h|h
  ·have h3:=Lib.bytesWorld_at_old w e t i h;rw[T3 h1,T3 h] at h3;rw[Array.getElem_push_lt h];exact P3 h3
  ·have:i=w.heap.size:=by rw[Lib.bytesWorld_size] at h1;omega
   subst this;have h3:=Lib.bytesWorld_at_new w e t;rw[T3 h1] at h3;rw[Array.getElem_push_eq];exact P3 h3
section
variable {P:Program} {C:Ctx} {s:AS} {a:Act} {w w':World} {N:NT} {M:MT} {L:List (Nat×Nat)}
theorem C6w(h:H4 C s a w N M L){src dst e:TypeId}{x:Operand}(hs:P.underlying src=some .string)(hd:P.underlying dst=some (.slice e))(he:P.underlying e=some (.int .u8))
  {d:Option Tmp} {K:AS→Prop} (hc:ae s d K (.csb x)):A40 P C a w (.convert src dst x) d true K:=by
 intro o ho _;simp only[ae] at hc;split at hc
 ·rename_i t ht;have hx:a.eval x=.string t:=h.evv ht;have e4:execOp a.eval o=(do pure (.value (← convert src dst (a.eval x)))):=by unfold execOp;rw[ho]
  have hpu:=B6M w e t;have hge:t.size≤grownCap w t.size 0 e:=grownCap_ge w _ _ _;have hcs:(Lib.bytesCells w e t).size=grownCap w t.size 0 e:=by
   have:t.data.size=t.size:=rfl;simp[Lib.bytesCells,this];omega
  have hbl:(u7 t).length=t.size:=by unfold u7;rw[C7];rfl
  have hfl:(u7 t).flatMap AV.cells=(t.data.toList.map fun b=>Value.int .u8 b.toNat).map AV.val:=by
   unfold u7;rw[H7];generalize t.data.toList=l;induction l with
   |nil=>rfl
   |cons b l ih=>rw[F6,F0,ih];rfl
  have hnf:Mk 1 (Lib.bytesCells w e t).size ((Lib.bytesCells w e t).size,(Lib.bytesCells w e t).size+1):=⟨fun i hi=>by simp;omega,.inl rfl⟩;refine⟨_,.slice (some ⟨w.heap.size,0,none⟩) t.size (grownCap w t.size 0 e),Lib.bytesWorld w e t,hc,?_,fun _=>hpu.keeps,.inl ?_⟩
  ·refine h.newPut hpu (vs:=t.data.toList.map fun b=>Value.int .u8 b.toNat) (fun y hy => ?_) (by rw[hfl];exact F5.vals w N M _) (fun i hi => ?_) (by rw[hbl,hcs];simpa using hge) hnf ⟨rfl,rfl⟩ ?_
   ·unfold u7 at hy;obtain⟨b,_,rfl⟩:=C5.1 hy;rfl
   ·have hi':i<t.data.size:=by simpa using hi
    unfold Lib.bytesCells;rw[j6 (by simpa using hi')];simp
   ·intro M' m h2 h3 h4 h5 h6 h7;refine B0w h2 h3 h4 (by rw[h5];exact hbl) h7 hge ⟨_,e,_,hpu.new,?_,by rw[h6];exact hnf⟩;rw[h6,hcs];simp
  ·rw[e4,hx];simp only[Sem.run_bind,Lib.run_convert_string_bytes w src dst e t hs hd he,Result.andThen_ok,Sem.run_pure]
 ·exact hc.elim
end
open Go Go.RowKit
def C1k(P:Program)(t:TypeId):Option (List AV) :=
 match P.info? t with
 |some i=>match i.zero with
  |some z=>some (z.cells.toList.map .val)
  |none=>none
 |none=>none
def A90(P:Program)(t:TypeId):Option (Nat×Nat×Bool×List AV) :=
 match P.underlying t with
 |some (.slice e)=>match P.info? e with
  |some i=>match i.zero with
   |some z=>if z.cells.size=i.size∧i.size≠0∧i.bytes≠0∧(K9 P e=false→i.size=1) then some (i.size,i.bytes,K9 P e,z.cells.toList.map .val) else none
   |none=>none
  |none=>none
 |_=>none
def B3n(P:Program):Op→Option NO
 |.alloc t=>match C1k P t with|some z=>some (.al z)|none=>none
 |.box t x=>some (.bx (P.cellsOf t) x)
 |.buildSlice t n ps=>match A90 P t with
  |some (sz,_,ag,z)=>if n*sz≤16777216 then some (.bsl sz n ag z ps.toList) else none
  |none=>none
 |.makeSlice t l c=>match A90 P t with
  |some (sz,by_,ag,z)=>some (.mk sz by_ ag z l c)
  |none=>none
 |.store t x v=>if P.cellsOf t=0 then none else some (.st (P.cellsOf t) x v)
 |.binOp .eql t x (.const (.slice none 0 0)) _=>match P.underlying t with|some (.slice _)=>some (.isn false x)|_=>none
 |.binOp .neq t x (.const (.slice none 0 0)) _=>match P.underlying t with|some (.slice _)=>some (.isn true x)|_=>none
 |.call { callee:=.builtin .append,args,argTypes }=>match args.toList,argTypes.toList with
  |[x,y],[t,u]=>match A90 P t with
   |some (sz,by_,_,_)=>match P.underlying u with
    |some .string=>some (.app true sz by_ x y)
    |some (.slice _)=>some (.app false sz by_ x y)
    |_=>none
   |none=>none
  |_,_=>none
 |.call { callee:=.builtin .copy,args,argTypes }=>match args.toList,argTypes.toList with
  |[x,y],[t,_]=>match A90 P t with
   |some (sz,_,_,_)=>match sz with
    |1=>some (.cpy x y)
    |_=>none
   |none=>none
  |_,_=>none
 |.convert src dst x=>match P.underlying src,P.underlying dst with
  |some .string,some (.slice e)=>match P.underlying e with
   |some (.int .u8)=>some (.csb x)
   |_=>none
  |_,_=>none
 |.panic _=>some .dead
 |.makeInterface _ _=>some .dead
 |_=>none
section
variable {P:Program} {C:Ctx} {s:AS} {a:Act} {w w':World} {N:NT} {M:MT} {L:List (Nat×Nat)}
theorem A5j{t:TypeId}{sz by_:Nat}{ag:Bool}{z:List AV}(h:A90 P t=some (sz,by_,ag,z)) :
  ∃ e i zv,P.underlying t=some (.slice e)∧P.info? e=some i∧i.zero=some zv∧zv.cells.size=i.size∧i.size≠0∧i.bytes≠0∧(K9 P e=false→i.size=1)∧sz=i.size∧by_=i.bytes∧ag=K9 P e∧z=zv.cells.toList.map .val:=by
 unfold A90 at h;split at h
 ·rename_i e hu;split at h
  ·rename_i i hi;split at h
   ·rename_i zv hz;split at h
    ·rename_i hc;cases h;exact⟨e,i,zv,hu,hi,hz,hc.1,hc.2.1,hc.2.2.1,hc.2.2.2,rfl,rfl,rfl,rfl⟩
    ·cases h
   ·cases h
  ·cases h
 ·cases h
theorem C04(h:H4 C s a w N M L){op:Op}{no:NO}(hn:B3n P op=some no){d:Option Tmp}{K:AS→Prop}(hc:ae s d K no):A40 P C a w op d no.quiet K:=by
 have hag:∀ {zv:Value} {e:TypeId},∀ c∈(zv.cells.toList.map AV.val),K9 P e=false→c.cells=[c]:=by
  intro zv e c hc _;obtain⟨v,_,rfl⟩:=C5.1 hc;rfl
 unfold B3n at hn;split at hn
 ·rename_i t;unfold C1k at hn;split at hn
  ·rename_i z hz;cases hn;split at hz
   ·rename_i i hi;split at hz
    ·rename_i zv hzv;cases hz;exact C7f h hi hzv hc
    ·cases hz
   ·cases hz
  ·cases hn
 ·cases hn;exact C8e h hc
 ·split at hn
  ·rename_i sz by_ ag z hr;obtain⟨e,i,zv,hu,hi,hz,h1,h2,h3,h4,rfl,rfl,rfl,rfl⟩:=A5j hr;split at hn
   ·rename_i hle;cases hn;exact C61 h hu hi hz h1 h2 (hag) h4 hle hc
   ·cases hn
  ·cases hn
 ·split at hn
  ·rename_i sz by_ ag z hr;obtain⟨e,i,zv,hu,hi,hz,h1,h2,h3,h4,rfl,rfl,rfl,rfl⟩:=A5j hr;cases hn;exact C7d h hu hi hz h1 h2 hag h4 hc
  ·cases hn
 ·split at hn
  ·cases hn
  ·rename_i h0;cases hn;exact C8j h rfl h0 hc
 ·split at hn
  ·rename_i hu;cases hn;exact B8y (neg:=false) h hu hc
  ·cases hn
 ·split at hn
  ·rename_i hu;cases hn;exact B8y (neg:=true) h hu hc
  ·cases hn
 ·rename_i args tys;split at hn
  ·rename_i x y t u h1 h2;have e1:args = #[x,y]:=by rw[← V5 (xs:=args),h1]
   have e2:tys = #[t,u]:=by rw[← V5 (xs:=tys),h2]
   subst e1;subst e2;split at hn
   ·rename_i sz by_ ag z hr;obtain⟨e,i,zv,hu,hi,hz,h1,h2,h3,h4,rfl,rfl,rfl,rfl⟩:=A5j hr;split at hn
    ·rename_i hk;cases hn;exact B8Y h hu hi hz h1 h3 (str:=true) hk hc
    ·rename_i e' hk;cases hn;exact B8Y h hu hi hz h1 h3 (str:=false) ⟨e',hk⟩ hc
    ·cases hn
   ·cases hn
  ·cases hn
 ·rename_i args tys;split at hn
  ·rename_i x y t u h1 h2;have e1:args = #[x,y]:=by rw[← V5 (xs:=args),h1]
   have e2:tys = #[t,u]:=by rw[← V5 (xs:=tys),h2]
   subst e1;subst e2;split at hn
   ·rename_i sz by_ ag z hr;obtain⟨e,i,zv,hu,hi,hz,h1,h2,h3,h4,hsz,rfl,rfl,rfl⟩:=A5j hr;split at hn
    ·cases hn;exact C6g h hu (by rw[hi,F8,← hsz]) hc
    ·cases hn
   ·cases hn
  ·cases hn
 ·split at hn
  ·rename_i e h1 h2;split at hn
   ·rename_i h3;cases hn;exact C6w h h1 h2 h3 hc
   ·cases hn
  ·cases hn
 ·cases hn;exact False.elim hc
 ·cases hn;exact False.elim hc
 ·cases hn
end
open Go Go.RowKit
mutual
def ren(f:Nat→Nat):AV→AV
 |.any=>.any
 |.val x=>.val x
 |.agg cs=>.agg (m8 f cs)
 |.tup cs=>.tup (m8 f cs)
 |.sl o sz rows=>.sl o sz (m8 f rows)
 |.ref j v o l=>.ref (f j) v o l
 |.ptr j v r o=>.ptr (f j) v r o
 |.ipt cs=>.ipt (m8 f cs)
 |.fn g cs=>.fn g (m8 f cs)
def m8(f:Nat→Nat):List AV→List AV
 |[]=>[]
 |x :: xs=>ren f x :: m8 f xs
end
theorem v6(f:Nat→Nat):∀ xs:List AV,m8 f xs=xs.map (ren f)
 |[]=>rfl
 |x :: xs=>by rw[m8,v6 f xs];rfl
theorem A6g(f:Nat→Nat)(x:AV):(ren f x).cells=m8 f x.cells:=by
 cases x<;>simp[ren,AV.cells,m8]
theorem A56(f:Nat→Nat):∀ rows:List AV,(m8 f rows).flatMap AV.cells=m8 f (rows.flatMap AV.cells)
 |[]=>rfl
 |x :: xs=>by rw[m8,F0,F0,A6g,A56 f xs,v6,v6,v6,G0]
theorem Z4(f:Nat→Nat)(xs:List AV):(m8 f xs).length=xs.length:=by rw[v6];simp
section
variable {w:World} {N:NT} {M M':MT} {f:Nat→Nat}
mutual
theorem Rep.ren(hM:∀ j x,M' j=some x→M (f j)=some x){x:AV}{v:Value}{K:List Nat}:Rep w N M' x v K→Rep w N M (ren f x) v K
 |.any v=>.any v
 |.val v=>.val v
 |.agg h=>.agg (h.ren hM)
 |.tup h=>.tup (h.ren hM)
 |.fn h=>.fn (h.ren hM)
 |.slI0 sz a cap=>.slI0 sz a cap
 |.slI (rows:=rows) h hl hN hc=>by
  have h':=h.ren hM;rw[← A56] at h';have:=Rep.slI (cap:=_) h' (fun y hy=>by
   rw[v6] at hy;obtain⟨y',hy',rfl⟩:=C5.1 hy;rw[A6g,Z4];exact hl y' hy') (by rw[Z4];exact hN) (by rw[Z4];exact hc)
  rw[Z4] at this;exact this
 |.slO0 sz a=>.slO0 sz a
 |.slO (rows:=rows) h hl hc hr=>by
  have h':=h.ren hM;rw[← A56] at h';have:=Rep.slO (cap:=_) h' (fun y hy=>by
   rw[v6] at hy;obtain⟨y',hy',rfl⟩:=C5.1 hy;rw[A6g,Z4];exact hl y' hy') (by rw[Z4];exact hc) hr
  rw[Z4] at this;exact this
 |.ref mm h1 h2=>.ref mm (hM _ _ h1) h2
 |.ptr mm h1 h2=>.ptr mm (hM _ _ h1) h2
 |.ipt h hN=>.ipt (h.ren hM) (by rw[Z4];exact hN)
theorem F5.ren(hM:∀ j x,M' j=some x→M (f j)=some x){xs:List AV}{vs:List Value}{K:List Nat}:F5 w N M' xs vs K→F5 w N M (m8 f xs) vs K
 |.nil=>.nil
 |.cons h t=>.cons (h.ren hM) (t.ren hM)
theorem I0.ren(hM:∀ j x,M' j=some x→M (f j)=some x){b o:Nat}{xs:List AV}{K:List Nat}:I0 w N M' b o xs K→I0 w N M b o (m8 f xs) K
 |.nil b o=>.nil b o
 |.cons hc h t=>.cons hc (h.ren hM) (t.ren hM)
end
end
mutual
def ci:AV→Bool
 |.any=>true
 |.val _=>true
 |.agg cs=>ciL cs
 |.tup cs=>ciL cs
 |.sl own _ rows => !own&&ciL rows
 |.ref .. => false
 |.ptr .. => false
 |.ipt cs=>ciL cs
 |.fn _ cs=>ciL cs
def ciL:List AV→Bool
 |[]=>true
 |x :: xs=>ci x&&ciL xs
end
theorem A1e:∀ xs:List AV,ciL xs=xs.all ci
 |[]=>rfl
 |x :: xs=>by rw[ciL,A1e xs];rfl
mutual
theorem B7C(f:Nat→Nat):∀ (x:AV),ci x=true→ren f x=x
 |.any,_=>rfl
 |.val _,_=>rfl
 |.agg cs,h=>by rw[ren,A3x f cs (by simpa[ci] using h)]
 |.tup cs,h=>by rw[ren,A3x f cs (by simpa[ci] using h)]
 |.sl o sz rows,h=>by rw[ren,A3x f rows (by simp only[ci,A6] at h;exact h.2)]
 |.ipt cs,h=>by rw[ren,A3x f cs (by simpa[ci] using h)]
 |.fn g cs,h=>by rw[ren,A3x f cs (by simpa[ci] using h)]
theorem A3x(f:Nat→Nat):∀ (xs:List AV),ciL xs=true→m8 f xs=xs
 |[],_=>rfl
 |x :: xs,h=>by
  simp only[ciL,A6] at h;rw[m8,B7C f x h.1,A3x f xs h.2]
end
section
variable {w:World} {N:NT} {M M':MT}
mutual
theorem Rep.ciM{x:AV}{v:Value}{K:List Nat}:Rep w N M x v K→ci x=true→Rep w N M' x v K
 |.any v,_=>.any v
 |.val v,_=>.val v
 |.agg h,k=>.agg (h.ciM (by simpa[ci] using k))
 |.tup h,k=>.tup (h.ciM (by simpa[ci] using k))
 |.fn h,k=>.fn (h.ciM (by simpa[ci] using k))
 |.slI0 sz a cap,_=>.slI0 sz a cap
 |.slI (rows:=rows) h hl hN hc,k=>.slI (h.ciM (by
   simp only[ci,A6,A1e] at k;rw[A1e,D6];intro c hc';obtain⟨r,hr,hc'⟩:=J6.1 hc';have:=(D6.1 k.2) r hr;cases r<;>simp only[AV.cells,C1] at hc'<;>first|(subst hc'; exact this)|skip
   simp only[ci,A1e] at this;exact(D6.1 this) c hc')) hl hN hc
 |.slO0 sz a,_=>.slO0 sz a
 |.slO (rows:=rows) h hl hc hr,k=>by simp[ci] at k
 |.ref _ _ _,k=>by simp[ci] at k
 |.ptr _ _ _,k=>by simp[ci] at k
 |.ipt h hN,k=>.ipt (h.ciM (by simpa[ci] using k)) hN
theorem F5.ciM{xs:List AV}{vs:List Value}{K:List Nat}:F5 w N M xs vs K→ciL xs=true→F5 w N M' xs vs K
 |.nil,_=>.nil
 |.cons h t,k=>by
  simp only[ciL,A6] at k;exact .cons (h.ciM k.1) (t.ciM k.2)
theorem I0.ciM{b o:Nat}{xs:List AV}{K:List Nat}:I0 w N M b o xs K→ciL xs=true→I0 w N M' b o xs K
 |.nil b o,_=>.nil b o
 |.cons hc h t,k=>by
  simp only[ciL,A6] at k;exact .cons hc (h.ciM k.1) (t.ciM k.2)
end
end
mutual
def m9:AV→Bool
 |.any=>true
 |.val _=>true
 |.agg cs=>i7 cs
 |.tup cs=>i7 cs
 |.sl own _ rows=>(own||rows.isEmpty)&&i7 rows
 |.ref .. => true
 |.ptr .. => true
 |.ipt cs=>cs.isEmpty
 |.fn _ cs=>i7 cs
def i7:List AV→Bool
 |[]=>true
 |x :: xs=>m9 x&&i7 xs
end
theorem d4:∀ xs:List AV,i7 xs=xs.all m9
 |[]=>rfl
 |x :: xs=>by rw[i7,d4 xs];rfl
theorem A6Y{rows:List AV}(h:i7 rows=true):i7 (rows.flatMap AV.cells)=true:=by
 rw[d4] at h;rw[d4,D6];intro c hc';obtain⟨r,hr,hc'⟩:=J6.1 hc';have:=(D6.1 h) r hr;cases r<;>simp only[AV.cells,C1] at hc'<;>first|(subst hc'; exact this)|skip
 simp only[m9,d4] at this;exact(D6.1 this) c hc'
section
variable {w:World} {N N':NT} {M:MT}
mutual
theorem Rep.freshN{x:AV}{v:Value}{K:List Nat}:Rep w N M x v K→m9 x=true→Rep w N' M x v K
 |.any v,_=>.any v
 |.val v,_=>.val v
 |.agg h,k=>.agg (h.freshN (by simpa[m9] using k))
 |.tup h,k=>.tup (h.freshN (by simpa[m9] using k))
 |.fn h,k=>.fn (h.freshN (by simpa[m9] using k))
 |.slI0 sz a cap,_=>.slI0 sz a cap
 |.slI (rows:=rows) h hl hN hc,k=>by
  simp only[m9,p9,A6,A3g] at k;obtain⟨rfl,_⟩:=k;exact .slI0 _ _ _
 |.slO0 sz a,_=>.slO0 sz a
 |.slO (rows:=rows) h hl hc hr,k=>.slO (h.freshN (A6Y (by simp only[m9,A6] at k;exact k.2))) hl hc hr
 |.ref mm h1 h2,_=>.ref mm h1 h2
 |.ptr mm h1 h2,_=>.ptr mm h1 h2
 |.ipt (cs:=cs) h hN,k=>by
  simp only[m9,A3g] at k;subst k;exact .ipt (.nil _ _) (fun i hi=>by simp at hi)
theorem F5.freshN{xs:List AV}{vs:List Value}{K:List Nat}:F5 w N M xs vs K→i7 xs=true→F5 w N' M xs vs K
 |.nil,_=>.nil
 |.cons h t,k=>by
  simp only[i7,A6] at k;exact .cons (h.freshN k.1) (t.freshN k.2)
theorem I0.freshN{b o:Nat}{xs:List AV}{K:List Nat}:I0 w N M b o xs K→i7 xs=true→I0 w N' M b o xs K
 |.nil b o,_=>.nil b o
 |.cons hc h t,k=>by
  simp only[i7,A6] at k;exact .cons hc (h.freshN k.1) (t.freshN k.2)
end
end
end Go.Proofs.YtkmhopbmpeiofaaGreat.Nx
namespace Go.Proofs.YtkmhopbmpeiofaaGreat.Nx
open Go Go.RowKit
def vw(hp:HP):Nat→AV→AV
 |0,x=>if ci x then x else imm x
 |n+1,x=>if ci x then x else match x with
  |.agg cs=>.agg (cs.map (vw hp n))
  |.tup cs=>.tup (cs.map (vw hp n))
  |.fn f cs=>.fn f (cs.map (vw hp n))
  |.sl _ sz rows=>.sl false sz (rows.map (vw hp n))
  |.ipt cs=>.ipt (cs.map (vw hp n))
  |.ref j ver off len=>match hp.at j ver with
   |some b=>.sl false b.sz ((sub b.rows off len).map (vw hp n))
   |none=>.any
  |.ptr j ver row off=>match hp.at j ver with
   |some b=>if row<ver then .ipt (((b.rows.getD row .any).cells.drop off).map (vw hp n)) else .any
   |none=>.any
  |x=>x
theorem A0F{hp:HP}{n:Nat}{x:AV}(h:ci x=true):vw hp n x=x:=by
 cases n<;>simp[vw,h]
section
variable {w:World} {N N':NT} {M M':MT}
theorem Rep.nn(hN:∀ b o,N b o→N' b o){x:AV}{v:Value}{K:List Nat}(h:Rep w N M x v K):Rep w N' M x v K :=
 h.gr ⟨fun _ c _ _ h=>⟨c,h,rfl⟩,fun _ _ _=>rfl,hN,fun _ x h=>⟨x,h,fun m hm=>⟨m,hm,.inl rfl⟩⟩⟩ (fun _ _ _=>rfl)
mutual
theorem Rep.ciK{x:AV}{v:Value}{K:List Nat}:Rep w N M x v K→ci x=true→K=[]
 |.any v,_=>rfl
 |.val v,_=>rfl
 |.agg h,k=>h.ciK (by simpa[ci] using k)
 |.tup h,k=>h.ciK (by simpa[ci] using k)
 |.fn h,k=>h.ciK (by simpa[ci] using k)
 |.slI0 sz a cap,_=>rfl
 |.slI _ _ _ _,_=>rfl
 |.slO0 sz a,_=>rfl
 |.slO (rows:=rows) h hl hc hr,k=>by simp[ci] at k
 |.ref _ _ _,k=>rfl
 |.ptr _ _ _,k=>rfl
 |.ipt h hN,k=>rfl
theorem F5.ciK{xs:List AV}{vs:List Value}{K:List Nat}:F5 w N M xs vs K→ciL xs=true→K=[]
 |.nil,_=>rfl
 |.cons h t,k=>by
  simp only[ciL,A6] at k;rw[h.ciK k.1,t.ciK k.2];rfl
end
theorem F5.mapG{g:AV→AV}(hg:∀ x v K,Rep w N M x v K→(∀ b∈K,∀ o,N' b o)→Rep w N' M' (g x) v []){xs:List AV}{vs:List Value}{K:List Nat}(h:F5 w N M xs vs K)(hK:∀ b∈K,∀ o,N' b o):F5 w N' M' (xs.map g) vs []:=by
 induction xs generalizing vs K with
 |nil=>cases h;exact .nil
 |cons x xs ih =>
  cases h with
  |cons h t=>exact .cons (L1:=[]) (L2:=[]) (hg _ _ _ h fun b hb=>hK b (by simp[hb])) (ih t fun b hb=>hK b (by simp[hb]))
theorem I0.mapG{g:AV→AV}(hg:∀ x v K,Rep w N M x v K→(∀ b∈K,∀ o,N' b o)→Rep w N' M' (g x) v []){b o:Nat}{xs:List AV}{K:List Nat}(h:I0 w N M b o xs K)(hK:∀ b∈K,∀ o,N' b o):I0 w N' M' b o (xs.map g) []:=by
 induction xs generalizing o K with
 |nil=>cases h;exact .nil _ _
 |cons x xs ih =>
  cases h with
  |cons hc h t=>exact .cons (L1:=[]) (L2:=[]) hc (hg _ _ _ h fun b hb=>hK b (by simp[hb])) (ih t fun b hb=>hK b (by simp[hb]))
theorem I0.mapR{g:AV→AV}(hg:∀ b o y K,I0 w N M b o y.cells K→(∀ b∈K,∀ o,N' b o)→I0 w N' M' b o (g y).cells [])(hl:∀ y:AV,(g y).cells.length=y.cells.length){b o:Nat}{rows:List AV}{K:List Nat}(h:I0 w N M b o (rows.flatMap AV.cells) K)(hK:∀ b∈K,∀ o,N' b o) :
  I0 w N' M' b o ((rows.map g).flatMap AV.cells) []:=by
 induction rows generalizing o K with
 |nil=>cases h;exact .nil _ _
 |cons x xs ih =>
  rw[F0] at h;obtain⟨K1,K2,rfl,h1,h2⟩:=h.append;rw[F6,F0];refine I0.join (L1:=[]) (L2:=[]) (hg _ _ _ _ h1 fun b hb=>hK b (by simp[hb])) ?_;rw[hl];exact ih h2 fun b hb=>hK b (by simp[hb])
theorem A0A(hp:HP):∀ (n:Nat) (x:AV),(vw hp n x).cells.length=x.cells.length
 |0,x=>by
  unfold vw;split
  ·rfl
  ·exact A8K x
 |n+1,x=>by
  unfold vw;split
  ·rfl
  ·split<;>first|(simp[AV.cells];done)|(split<;>first|(simp[AV.cells];done)|(split<;>simp[AV.cells]))
theorem HR.blk{hp:HP}{L:List (Nat×Nat)}(h:HR w N M 0 hp L){j ver:Nat}{b:Blk}(e:hp.at j ver=some b):b.rows.length=ver∧∃ m L1,M j=some (some m)∧BR w N M b m L1∧(∀ p∈H0 m L1,p∈L):=by
 unfold HP.at at e;split at e
 ·rename_i b' hj;split at e
  ·rename_i hl;cases e;obtain⟨p,q,A,B,m,L1,h1,h2,h3,h4,h5,h6,h7⟩:=h.focus hj;exact⟨hl,m,L1,by simpa using h5,h6,fun x hx=>by rw[h3];simp[hx]⟩
  ·cases e
 ·cases e
theorem B6H{hp:HP}{L:List (Nat×Nat)}(H:HR w N M 0 hp L)(hN:∀ b o,N b o→N' b o)(hL:∀ p∈L,∀ o,N' p.1 o):∀ (n:Nat) (x:AV) (v:Value) (K:List Nat),Rep w N M x v K→(∀ b∈K,∀ o,N' b o)→Rep w N' M' (vw hp n x) v []:=by
 intro n;induction n with
 |zero =>
  intro x v K h hK;unfold vw;split
  ·rename_i hc;obtain rfl:=h.ciK hc;exact(h.nn hN).ciM hc
  ·exact h.imm hN hK
 |succ n ih =>
  have ihc:∀ b o (y:AV) K,I0 w N M b o y.cells K→(∀ b∈K,∀ o,N' b o)→I0 w N' M' b o (vw hp n y).cells []:=by
   intro b o y K h hK;by_cases hag:∃ cs,y=.agg cs
   ·obtain⟨cs,rfl⟩:=hag;obtain⟨vs,r1,r2,r3⟩:=I0.values h;have hl:=r1.length;have r4:=ih (.agg cs) (.agg ⟨vs⟩) K (.agg r1) hK;have hkind:∃ cs',vw hp n (.agg cs)=.agg cs':=by
     cases n with
     |zero=>unfold vw;split;exact⟨_,rfl⟩;exact⟨_,rfl⟩
     |succ n=>unfold vw;split;exact⟨_,rfl⟩;exact⟨_,rfl⟩
    obtain⟨cs',e⟩:=hkind;rw[e] at r4 ⊢;cases r4 with
    |agg r4 =>
     refine I0.of_values r4 fun i hi => ?_;exact r3 i (by rw[← r2];exact hi)
   ·have e1:y.cells=[y]:=by cases y<;>first|rfl|exact absurd ⟨_,rfl⟩ hag
    have e2:(vw hp n y).cells=[vw hp n y]:=by
     have:=A0A hp n y;cases hv:vw hp n y<;>first|rfl|skip
     rename_i cs;exfalso;clear ih this;cases n with
     |zero =>
      unfold vw at hv;split at hv
      ·exact hag ⟨_,hv⟩
      ·cases y<;>simp only[imm] at hv<;>first|(cases hv;done)|exact hag ⟨_,rfl⟩
     |succ n =>
      unfold vw at hv;split at hv
      ·exact hag ⟨_,hv⟩
      ·cases y<;>simp only at hv<;>first|(cases hv;done)|exact hag ⟨_,rfl⟩|skip
       all_goals (split at hv<;>first|(cases hv;done)|skip)
       all_goals (split at hv<;>cases hv)
    rw[e1] at h;rw[e2];cases h with
    |cons hc h t =>
     cases t;simp only[D5] at hK;exact .cons (L1:=[]) (L2:=[]) hc (ih _ _ _ h hK) (.nil _ _)
  intro x v K h hK;unfold vw;split
  ·rename_i hc;obtain rfl:=h.ciK hc;exact(h.nn hN).ciM hc
  ·cases h with
   |any=>exact .any _
   |val=>exact .val _
   |agg h=>exact .agg (h.mapG ih hK)
   |tup h=>exact .tup (h.mapG ih hK)
   |fn h=>exact .fn (h.mapG ih hK)
   |slI0 sz a cap=>exact .slI0 _ _ _
   |slI h hl hN1 hc =>
    rename_i sz rows b o cap hnci;have:=Rep.slI (M:=M') (cap:=cap) (h.mapR ihc (A0A hp n) (fun b hb=>by cases hb)) (fun y hy=>by
     obtain⟨y',hy',rfl⟩:=C5.1 hy;rw[A0A];exact hl y' hy') (by rw[C7];exact fun i hi=>hN _ _ (hN1 i hi)) (by rw[C7];exact hc)
    rw[C7] at this;exact this
   |slO0 sz a=>exact .slI0 _ _ _
   |slO h hl hc hr =>
    rename_i sz rows b o cap L1 hnci;have:=Rep.slI (M:=M') (cap:=cap) (h.mapR ihc (A0A hp n) (fun b hb=>hK b (by simp[hb]))) (fun y hy=>by
     obtain⟨y',hy',rfl⟩:=C5.1 hy;rw[A0A];exact hl y' hy') (fun i _=>hK b (by simp) _) (by rw[C7];exact hc)
    rw[C7] at this;exact this
   |ref mm hM hm =>
    rename_i j ver off len a cap hnci;simp only;split
    ·rename_i b hb;obtain⟨hlb,m,L1,g1,g2,g3⟩:=H.blk hb;rw[g1] at hM;cases hM;obtain⟨h5,h6⟩:=hm m rfl;obtain⟨h7,h8⟩:=h6 (by rw[g2.len,hlb]);rw[g2.len] at h7;rcases h8 with⟨rfl,rfl⟩|⟨h8,rfl,h9,h10⟩
     ·have:sub b.rows off 0=[]:=by rw[A13 (by omega)];simp
      rw[this];exact .slI0 _ _ _
     ·obtain⟨K1,K2,K3,hKe,r⟩:=g2.rep.rows g2.cl off len (by omega);rw[← A13 (by omega)] at r;have hown:∀ p∈(m.b,m.fr) :: L1.map (fun b=>(b,0)),p∈L:=fun p hp=>g3 p (by simp only[H0,h8];exact hp);have hK2:∀ b∈K2,∀ o,N' b o:=fun b' hb'=>hL (b',0) (hown _ (by rw[hKe];simp[hb']));have hlen:=A68 (rows:=b.rows) (off:=off) (len:=len) (by omega)
      have:=Rep.slI (M:=M') (cap:=cap) (r.mapR ihc (A0A hp n) hK2) (fun y hy=>by
       obtain⟨y',hy',rfl⟩:=C5.1 hy;rw[A0A];rw[A13 (by omega)] at hy';exact g2.cl y' (R3 (Q0 hy'))) (fun i _=>hL (m.b,m.fr) (hown _ (by simp)) _) (by rw[C7,hlen];exact h9)
      rw[C7,hlen,← g2.sz] at this;rw[← g2.sz];exact this
    ·exact .any _
   |ptr mm hM hm =>
    rename_i j ver row off a hnci;simp only;split
    ·rename_i b hb;obtain⟨hlb,m,L1,g1,g2,g3⟩:=H.blk hb;split
     ·rename_i hrow;rw[g1] at hM;cases hM;obtain⟨h5,h6⟩:=hm m rfl;obtain⟨h7,h8,rfl⟩:=h6 (by rw[g2.len,hlb]);have hown:∀ p∈(m.b,m.fr) :: L1.map (fun b=>(b,0)),p∈L:=fun p hp=>g3 p (by simp only[H0,h8];exact hp);have e:=G3 row b.rows;have hlt:row<b.rows.length:=by omega
      have hrep:=g2.rep;rw[B7J hlt] at hrep;obtain⟨LA,LR,hLe,r1,r2⟩:=hrep.append;rw[A3m g2.cl row (by omega)] at r2;obtain⟨LM,LB,hLe2,r3,r4⟩:=r2.append;have e5:=G3 off (b.rows.getD row .any).cells;by_cases hoff:off≤(b.rows.getD row .any).cells.length
      ·rw[← e5] at r3;obtain⟨L3,L4,hLe3,r5,r6⟩:=r3.append;rw[E7,X4 hoff] at r6;refine .ipt ?_ (fun i _=>hL (m.b,m.fr) (hown _ (by simp)) _);rw[g2.sz];exact r6.mapG ih fun b' hb'=>hL (b',0) (hown _ (by rw[hLe,hLe2,hLe3];simp[hb']))
      ·rw[O7 (by omega)];exact .ipt (.nil _ _) (fun i _=>hL (m.b,m.fr) (hown _ (by simp)) _)
     ·exact .any _
    ·exact .any _
   |ipt h hN1=>exact .ipt (h.mapG ih (fun b hb=>by cases hb)) (by rw[C7];exact fun i hi=>hN _ _ (hN1 i hi))
end
open Go Go.RowKit
section
variable {w:World} {N:NT} {M M':MT} {f:Nat→Nat} {n:Nat}
end
end Go.Proofs.YtkmhopbmpeiofaaGreat.Nx
