/- Abstract states and the heap they stand for: sound, with no condition beyond those each lemma names. -/
import Derived.Laws.StructEq
import Derived.Test.YtkmhopbmpeiofaaGreatNxa
set_option linter.unusedVariables false
set_option linter.unusedSimpArgs false
namespace Go.Proofs.YtkmhopbmpeiofaaGreat.Nx
open Go Go.RowKit
theorem toList_inj{a c:ByteArray}:(a.toList==c.toList)=decide (a=c):=by
 rw[Bool.eq_iff_iff];simp only[j7,D7];constructor
 ·intro h;rw[ByteArray.toList_eq,ByteArray.toList_eq] at h;exact WideShapes.bytes_inj h
 ·intro h;rw[h]
theorem A49{P:Program}{w:World}(b:BinOp)(t:TypeId)(x y:Operand)(u v:Value)(h:(match u,v with | .nilIface,.nilIface=>False | .agg _,.agg _=>False|_,_=>True)):(eqGuard b t x y u v).run P w=.ok () w:=by
 unfold eqGuard;cases u<;>cases v<;>simp at h<;>cases b<;>simp[pure]
theorem C1P{P:Program}{w w':World}{b:BinOp}{t:TypeId}{x y:AV}{vx vy:Value}{N:NT}{M:MT}
  (hx:Rep w N M x vx []) (hy:Rep w N M y vy []) (hc:A5V b x y) (xo yo:Operand) :
  ∃ v,((do eqGuard b t xo yo vx vy;binOp b t vx vy:Sem Value)).run P w'=.ok v w'∧Rep w N M (A1M b x y) v []:=by
 unfold A5V at hc;split at hc
 ·cases hx;cases hy;rename_i k a k' c;have hg:=A49 (P:=P) (w:=w') b t xo yo (.int k a) (.int k' c) trivial;rw[Sem.run_bind,hg,Result.andThen_ok];cases b
  case quo=>obtain⟨rfl,hne⟩:=hc;exact⟨_,by simp only[binOp,Op.intDiv,ne_eq,A8G,E5,hne];rfl,by simp only[A1M,B2i];exact .val _⟩
  case rem=>obtain⟨rfl,hne⟩:=hc;exact⟨_,by simp only[binOp,Op.intDiv,ne_eq,A8G,E5,hne];rfl,by simp only[A1M];exact .val _⟩
  case shl=>exact⟨_,by simp only[binOp,Op.shift,show ¬ c<0 from by omega,E5];rfl,by simp only[A1M];exact .val _⟩
  case shr=>exact⟨_,by simp only[binOp,Op.shift,show ¬ c<0 from by omega,E5];rfl,by simp only[A1M];exact .val _⟩
  all_goals
   simp only at hc;subst hc
   first
   |exact⟨_,by simp only[binOp,Op.intArith,ne_eq,A8G,E5];rfl,by simp only[A1M,B2i];exact .val _⟩
   |exact⟨_,by simp only[binOp,Op.intBits,ne_eq,A8G,E5];rfl,by simp only[A1M];exact .val _⟩
   |exact⟨_,by simp only[binOp,Op.intCmp,ne_eq,A8G,E5,beq_eq_decide,bne,gt_iff_lt,ge_iff_le];rfl,by simp only[A1M];exact .val _⟩
 ·cases hx;cases hy;rename_i u c;have hg:=A49 (P:=P) (w:=w') b t xo yo (.string u) (.string c) trivial;rw[Sem.run_bind,hg,Result.andThen_ok];cases b<;>simp only at hc
  case add =>
   refine⟨_,by simp only[binOp,Op.stringOp];rw[G6 (by simp[IntKind.max,IntKind.bits,IntKind.signed];omega)];rfl,by simp only[A1M];exact .val _⟩
  all_goals exact⟨_,by simp only[binOp,Op.stringOp,toList_inj];rfl,by simp only[A1M];exact .val _⟩
 ·exact hc.elim
theorem C3R{b:BinOp}{x y:AV}(hc:A5V b x y):∃ u,A1M b x y=.val u:=by
 unfold A5V at hc;split at hc
 ·cases b<;>exact⟨_,rfl⟩
 ·cases b<;>first|exact⟨_,rfl⟩|exact hc.elim
 ·exact hc.elim
theorem C6e{P:Program}{w:World}{b:BinOp}{t:TypeId}{x y:AV}{vx vy:Value}{N:NT}{M:MT}
  (hx:Rep w N M x vx []) (hy:Rep w N M y vy []) (hc:A5V b x y) (xo yo:Operand) :
  ∃ v,(∀ w',((do eqGuard b t xo yo vx vy;binOp b t vx vy:Sem Value)).run P w'=.ok v w')∧Rep w N M (A1M b x y) v []:=by
 obtain⟨u,hu⟩:=C3R hc;refine⟨u,fun w' => ?_,by rw[hu];exact .val _⟩;obtain⟨v,h1,h2⟩:=C1P (P:=P) (w':=w') (t:=t) hx hy hc xo yo;rw[hu] at h2;cases h2;exact h1
theorem C2L{P:Program}{w:World}{neg:Bool}{t:TypeId}{a c:Bool}(hb:P.underlying t=some .bool)(xo yo:Operand) :
  ((do eqGuard (if neg then .neq else .eql) t xo yo (.bool a) (.bool c);binOp (if neg then .neq else .eql) t (.bool a) (.bool c):Sem Value)).run P w=.ok (.bool (neg != (a==c))) w:=by
 have hg:=A49 (P:=P) (w:=w) (if neg then .neq else .eql) t xo yo (.bool a) (.bool c) trivial
 rw[Sem.run_bind,hg,Result.andThen_ok];cases neg
 ·have:=run_eql_bool (P:=P) (w:=w) t a c hb;simp only[E0,E5,this];cases a<;>cases c<;>rfl
 ·have:=run_neq_bool (P:=P) (w:=w) t a c hb;simp only[H1,this];cases a<;>cases c<;>rfl
open Go Go.RowKit
def B6m(P:Program)(g:TypeId→Option (List CK)):Nat→List Field→Option (List CK)
 |_,[]=>some []
 |off,f :: fs =>
  if f.name = "_" ∨ f.offset ≠ off then none else
  match g f.type with
  |some ks=>if P.cellsOf f.type≠ks.length then none else(B6m P g (off+ks.length) fs).map (ks ++ ·)
  |none=>none
def A1E(P:Program):Nat→TypeId→Option (List CK)
 |0,_=>none
 |d+1,t =>
  match P.underlying t with
  |some (.int k)=>some [.i k]
  |some .bool=>some [.b]
  |some .string=>some [.s]
  |some (.struct fs)=>if P.stoodInHeld t then none else B6m P (A1E P d) 0 fs.toList
  |_=>none
def A9A(P:Program)(d:Nat)(off:Nat)(fs:List Field):Option (List CK):=B6m P (A1E P d) off fs
theorem B9t(P:Program)(d off:Nat):A9A P d off []=some []:=rfl
theorem B76 (P : Program) (d off : Nat) (f : Field) (fs : List Field) : A9A P d off (f :: fs) = (if f.name = "_" ∨ f.offset ≠ off then none else
  match A1E P d f.type with
  |some ks=>if P.cellsOf f.type≠ks.length then none else(A9A P d (off+ks.length) fs).map (ks ++ ·)
  |none=>none):=rfl
def FK:List CK→List Value→Prop
 |[],[]=>True
 |.i k :: ks,.int k' _ :: xs=>k=k'∧FK ks xs
 |.b :: ks,.bool _ :: xs=>FK ks xs
 |.s :: ks,.string _ :: xs=>FK ks xs
 |_,_=>False
def eqU:List Value→List Value→Bool
 |.int _ a :: xs,.int _ b :: ys=>decide (a=b)&&eqU xs ys
 |.bool a :: xs,.bool b :: ys=>(a==b)&&eqU xs ys
 |.string a :: xs,.string b :: ys=>decide (a=b)&&eqU xs ys
 |_,_=>true
theorem FK.len:∀ {ks:List CK} {xs:List Value},FK ks xs→xs.length=ks.length
 |[],[],_=>rfl
 |[],_ :: _,h=>h.elim
 |.i _ :: _,[],h=>h.elim
 |.b :: _,[],h=>h.elim
 |.s :: _,[],h=>h.elim
 |.i k :: ks,x :: xs,h=>by cases x<;>first|exact h.elim|(simp[FK.len h.2])
 |.b :: ks,x :: xs,h=>by cases x<;>first|exact h.elim|(have h':FK ks xs:=h;simp[FK.len h'])
 |.s :: ks,x :: xs,h=>by cases x<;>first|exact h.elim|(have h':FK ks xs:=h;simp[FK.len h'])
theorem FK.split:∀ {ks ls:List CK} {xs:List Value},FK (ks++ls) xs→FK ks (xs.take ks.length)∧FK ls (xs.drop ks.length)
 |[],ls,xs,h=>⟨by simp[FK],by simpa using h⟩
 |.i k :: ks,ls,[],h=>h.elim
 |.b :: ks,ls,[],h=>h.elim
 |.s :: ks,ls,[],h=>h.elim
 |.i k :: ks,ls,x :: xs,h=>by
  cases x<;>first|exact h.elim|(obtain⟨h1,h2⟩:=FK.split (ks:=ks) h.2;exact⟨by simp only[B5,u5];exact⟨h.1,h1⟩,by simpa using h2⟩)
 |.b :: ks,ls,x :: xs,h=>by
  cases x<;>first|exact h.elim|(have h':FK (ks++ls) xs:=h;obtain⟨h1,h2⟩:=FK.split (ks:=ks) h'; exact⟨by simp only[B5,u5];exact h1,by simpa using h2⟩)
 |.s :: ks,ls,x :: xs,h=>by
  cases x<;>first|exact h.elim|(have h':FK (ks++ls) xs:=h;obtain⟨h1,h2⟩:=FK.split (ks:=ks) h'; exact⟨by simp only[B5,u5];exact h1,by simpa using h2⟩)
theorem A6x:∀ {ks:List CK} {ls:List CK} {xs ys:List Value},FK (ks++ls) xs→FK (ks++ls) ys→eqU xs ys=(eqU (xs.take ks.length) (ys.take ks.length)&&eqU (xs.drop ks.length) (ys.drop ks.length))
 |[],ls,xs,ys,h,k=>by simp[eqU]
 |.i k :: ks,ls,[],_,h,_=>h.elim
 |.b :: ks,ls,[],_,h,_=>h.elim
 |.s :: ks,ls,[],_,h,_=>h.elim
 |.i k :: ks,ls,_ :: _,[],_,h=>h.elim
 |.b :: ks,ls,_ :: _,[],_,h=>h.elim
 |.s :: ks,ls,_ :: _,[],_,h=>h.elim
 |.i k :: ks,ls,x :: xs,y :: ys,h,h'=>by
  cases x<;>first|exact h.elim|(cases y<;>first|exact h'.elim|(simp only[eqU,B5,u5,A30,A6x (ks:=ks) h.2 h'.2,A4u]))
 |.b :: ks,ls,x :: xs,y :: ys,h,h'=>by
  cases x<;>first|exact h.elim|(cases y<;>first|exact h'.elim|(have a:FK (ks++ls) xs:=h;have b:FK (ks++ls) ys:=h'; simp only[eqU,B5,u5,A30,A6x (ks:=ks) a b,A4u]))
 |.s :: ks,ls,x :: xs,y :: ys,h,h'=>by
  cases x<;>first|exact h.elim|(cases y<;>first|exact h'.elim|(have a:FK (ks++ls) xs:=h;have b:FK (ks++ls) ys:=h'; simp only[eqU,B5,u5,A30,A6x (ks:=ks) a b,A4u]))
def atT(P:Program)(t:TypeId)(xs:List Value):Value :=
 match P.underlying t with
 |some (.struct _)=>.agg ⟨xs⟩
 |_=>xs.headD undef
theorem n5{P:Program}{t:TypeId}{n:Nat}(h:P.cellsOf t=n)(hn:n≠0):∃ i,P.info? t=some i∧i.size=n:=by
 unfold Program.cellsOf at h;cases hi:P.info? t with
 |none=>simp[hi] at h;omega
 |some i=>exact⟨i,rfl,by simpa[hi] using h⟩
theorem B7O{P:Program}{w:World}{t:TypeId}{ks:List CK}{d:Nat}(hk:A1E P d t=some ks)(hc:P.cellsOf t=ks.length)(xs:List Value)(off:Nat)(hx:FK ks ((xs.drop off).take ks.length)) :
  (part t ⟨xs⟩ off).run P w=.ok (atT P t ((xs.drop off).take ks.length)) w:=by
 cases d with
 |zero=>simp[A1E] at hk
 |succ d =>
  rw[A1E] at hk;unfold part isAgg atT;split at hk
  ·rename_i k hu;cases hk;simp only[Sem.run_bind,run_underlying hu,Result.andThen_ok,Sem.run_pure,E0,E5,hu];have hl:=hx.len;simp only[J5,E7,I4] at hl;have h1:off<xs.length:=by omega
   have e:(⟨xs⟩:Array Value)[off]? = some xs[off]:=by simp[h1]
   rw[e];simp only[Sem.run_pure];congr 1;rw[X8 h1];rfl
  ·rename_i hu;cases hk;simp only[Sem.run_bind,run_underlying hu,Result.andThen_ok,Sem.run_pure,E0,E5,hu];have hl:=hx.len;simp only[J5,E7,I4] at hl;have h1:off<xs.length:=by omega
   have e:(⟨xs⟩:Array Value)[off]? = some xs[off]:=by simp[h1]
   rw[e];simp only[Sem.run_pure];congr 1;rw[X8 h1];rfl
  ·rename_i hu;cases hk;simp only[Sem.run_bind,run_underlying hu,Result.andThen_ok,Sem.run_pure,E0,E5,hu];have hl:=hx.len;simp only[J5,E7,I4] at hl;have h1:off<xs.length:=by omega
   have e:(⟨xs⟩:Array Value)[off]? = some xs[off]:=by simp[h1]
   rw[e];simp only[Sem.run_pure];congr 1;rw[X8 h1];rfl
  ·rename_i fs hu;have hi:(sizeOf t).run P w=.ok ks.length w:=by
    unfold Program.cellsOf at hc;cases hii:P.info? t with
    |none =>
     have:P.underlying t=none:=by simp[Program.underlying,hii]
     rw[this] at hu;cases hu
    |some i =>
     simp only[hii,F8,A58] at hc;simp[sizeOf,typeInfo,hii,hc]
   simp only[Sem.run_bind,run_underlying hu,Result.andThen_ok,Sem.run_pure,H1,hi,hu];congr 2;simp only[A3X,A1S];congr 2;omega
  ·cases hk
theorem A9M{P:Program}{w:World}{d D:Nat}(hT:∀ {t:TypeId} {ks:List CK} {xs ys:List Value},A1E P d t=some ks→FK ks xs→FK ks ys →
  (Op.equalIn D t (atT P t xs) (atT P t ys)).run P w=.ok (eqU xs ys) w):∀ {off:Nat} {fs:List Field} {ks:List CK} {xs ys:List Value},A9A P d off fs=some ks→FK ks (xs.drop off)→FK ks (ys.drop off) →
  (Op.eqFields D ⟨xs⟩ ⟨ys⟩ fs).run P w=.ok (eqU (xs.drop off) (ys.drop off)) w
 |off,[],ks,xs,ys,hk,hx,hy=>by
  rw[B9t] at hk;cases hk;generalize xs.drop off=a at *
  generalize ys.drop off=b at *
  cases a with
  |cons _ _=>exact hx.elim
  |nil=>simp[Op.eqFields,eqU]
 |off,f :: fs,ks,xs,ys,hk,hx,hy=>by
  rw[B76] at hk;split at hk
  ·cases hk
  ·rename_i hn;simp only[not_or,Decidable.not_not] at hn;obtain⟨hn,rfl⟩:=hn;split at hk
   ·rename_i k1 hk1;split at hk
    ·cases hk
    ·rename_i hc;simp only[ne_eq,Decidable.not_not] at hc;cases hks:A9A P d (f.offset+k1.length) fs with
     |none=>rw[hks] at hk;cases hk
     |some k2 =>
      rw[hks] at hk;cases hk;obtain⟨x1,x2⟩:=FK.split hx;obtain⟨y1,y2⟩:=FK.split hy;simp only[Op.eqFields,ne_eq,hn,not_false_eq_true,H1,Sem.run_bind,B7O hk1 hc xs f.offset x1,B7O hk1 hc ys f.offset y1,Result.andThen_ok,hT hk1 x1 y1];rw[A1m] at x2 y2;have ih:=A9M hT hks x2 y2;rw[A6x hx hy,A1m,A1m]
      cases eqU (List.take k1.length (List.drop f.offset xs)) (List.take k1.length (List.drop f.offset ys))
      ·simp
      ·simp[ih]
   ·cases hk
theorem B7X{P:Program}{w:World}(d:Nat):∀ {D:Nat} {t:TypeId} {ks:List CK} {xs ys:List Value},A1E P d t=some ks→d≤D→FK ks xs→FK ks ys →
  (Op.equalIn D t (atT P t xs) (atT P t ys)).run P w=.ok (eqU xs ys) w:=by
 induction d with
 |zero=>intro D t ks xs ys hk;simp[A1E] at hk
 |succ d ih =>
  intro D t ks xs ys hk hD hx hy;obtain⟨D,rfl⟩:∃ m,D=m+1:=⟨D-1,by omega⟩;rw[A1E] at hk;split at hk
  ·rename_i k hu;cases hk;cases xs with
   |nil=>exact hx.elim
   |cons x xs =>
    cases ys with
    |nil=>exact hy.elim
    |cons y ys =>
     cases x<;>first|exact hx.elim|skip
     cases y<;>first|exact hy.elim|skip
     rename_i k1 a k2 b;obtain⟨rfl,hx⟩:=hx;obtain⟨rfl,hy⟩:=hy;cases xs with
     |cons _ _=>exact hx.elim
     |nil =>
      simp only[atT,hu,A6E];rw[run_equalIn_int w D t k k a b hu];simp only[eqU,U6];rfl
  ·rename_i hu;cases hk;cases xs with
   |nil=>exact hx.elim
   |cons x xs =>
    cases ys with
    |nil=>exact hy.elim
    |cons y ys =>
     cases x<;>first|exact hx.elim|skip
     cases y<;>first|exact hy.elim|skip
     rename_i a b;have hx':FK [] xs:=hx;cases xs with
     |cons _ _=>exact hx'.elim
     |nil =>
      simp only[atT,hu,A6E];rw[run_equalIn_bool' w D t a b hu];simp[eqU]
  ·rename_i hu;cases hk;cases xs with
   |nil=>exact hx.elim
   |cons x xs =>
    cases ys with
    |nil=>exact hy.elim
    |cons y ys =>
     cases x<;>first|exact hx.elim|skip
     cases y<;>first|exact hy.elim|skip
     rename_i a b;have hx':FK [] xs:=hx;cases xs with
     |cons _ _=>exact hx'.elim
     |nil =>
      simp only[atT,hu,A6E];rw[run_equalIn_string w D t a b hu,toList_inj];simp[eqU]
  ·rename_i fs hu;split at hk
   ·cases hk
   ·rename_i hp;have hf:P.fieldsOf t=fs:=by simp[Program.fieldsOf,hu]
    simp only[atT,hu];rw[run_equalIn_struct w D t ⟨xs⟩ ⟨ys⟩ (by rw[hf];exact hu) (by simpa using hp),hf];have:=A9M (P:=P) (w:=w) (d:=d) (D:=D) (fun h1 h2 h3=>ih h1 (by omega) h2 h3) (off:=0) (fs:=fs.toList) (xs:=xs) (ys:=ys) hk (by simpa using hx) (by simpa using hy);simpa using this
  ·cases hk
open Go Go.RowKit
def K9(P:Program)(t:TypeId):Bool :=
 match P.underlying t with
 |some (.struct _)|some (.array _ _)=>true
 |_=>false
def v8{α:Type}:List (Option α)→Option (List α)
 |[]=>some []
 |none :: _=>none
 |some x :: xs=>(v8 xs).map (x :: ·)
def A7m(P:Program)(fs:Array Field):Nat×Operand→Option (Nat×Nat×Operand)
 |(i,x)=>match fs[i]? with
  |some f=>some (f.offset,P.cellsOf f.type,x)
  |none=>none
def B2x(sz:Nat):Nat×Operand→Nat×Nat×Operand
 |(i,x)=>(i*sz,sz,x)
def C4M(P:Program)(b:BinOp)(t:TypeId)(x y:Operand):Option NO :=
 match P.underlying t with
 |some (.int _)=>some (.bin b x y)
 |some .string=>some (.bin b x y)
 |some .bool=>match b with | .eql=>some (.eqb false x y) | .neq=>some (.eqb true x y)|_=>none
 |some (.struct _)=>if P.eqGuardType P.depth t then none else match A1E P 64 t with
  |some ks=>match b with | .eql=>some (.eqs ks false x y) | .neq=>some (.eqs ks true x y)|_=>none
  |none=>none
 |_=>none
def C3w(P:Program)(src dst:TypeId)(x:Operand):Option NO :=
 match P.underlying src,P.underlying dst with
 |some (.int _),some (.int k)=>some (.cvi k x)
 |some (.slice e),some .string=>match P.underlying e with
  |some (.int .u8)=>some (.cbs x)
  |_=>none
 |_,_=>none
def C4h(P:Program)(t:TypeId)(x:Operand)(i:Nat):Option NO :=
 match P.underlying t with
 |some (.struct fs)=>match fs[i]? with
  |some f=>if P.cellsOf f.type=0 then none else some (.fad f.offset x)
  |none=>none
 |_=>none
def C2V(P:Program)(t:TypeId)(x:Operand)(i:Nat):Option NO :=
 match P.underlying t with
 |some (.struct fs)=>match fs[i]? with
  |some f=>if P.cellsOf f.type=0∨P.underlying f.type=none then none else some (.fld f.offset (P.cellsOf f.type) (K9 P f.type) x)
  |none=>none
 |_=>none
def C34(P:Program)(t:TypeId)(x i:Operand):Option NO :=
 match P.underlying t with
 |some (.slice e)=>if P.cellsOf e=0 then none else some (.iad (P.cellsOf e) x i)
 |some (.array len e)=>if P.cellsOf e=0 then none else some (.aad (P.cellsOf e) len x i)
 |_=>none
def C3y(P:Program)(t:TypeId)(x i:Operand):Option NO:=match P.underlying t with
 |some .string=>some (.idx x i)
 |some (.array len e)=>if P.cellsOf e=0∨P.underlying e=none then none else some (.ixa (P.cellsOf e) len (K9 P e) x i)
 |_=>none
def C4r(P:Program)(t:TypeId)(x:Operand)(lo hi mx:Option Operand):Option NO :=
 match P.underlying t with
 |some (.slice e)=>if P.cellsOf e=0 then none else match mx with
  |none=>some (.slc (P.cellsOf e) x lo hi)
  |some m=>match lo,hi with
   |some l,some h=>some (.slz x l h m)
   |_,_=>none
 |some .string=>match mx with|none=>some (.sls x lo hi)|some _=>none
 |_=>none
def C31(fn:Fn)(first cap:Array Operand):Option NO :=
 match fn with
 |.func f=>if first.size=0 then some (.mkf f cap.toList) else none
 |_=>none
def C3v(P:Program)(t:TypeId)(ps:Array (Nat×Operand)):Option NO :=
 match P.underlying t,P.info? t with
 |some (.struct fs),some i=>match i.zero,v8 (ps.toList.map (A7m P fs)) with
  |some z,some l=>if fs.all (fun f=>(P.info? f.type).isSome) then some (.bld (z.cells.toList.map .val) l) else none
  |_,_=>none
 |some (.array _ e),some i=>match i.zero with
  |some z=>if P.cellsOf e=0 then none else some (.bld (z.cells.toList.map .val) (ps.toList.map (B2x (P.cellsOf e))))
  |none=>none
 |_,_=>none
def nLd(P:Program)(t:TypeId)(x:Operand):Option NO :=
 if P.cellsOf t=0 then none else match P.underlying t with
 |some _=>some (.ld (if K9 P t then P.cellsOf t else 1) (K9 P t) x)
 |none=>none
def C3H(P:Program)(c:Call):Option NO :=
 match c.callee with
 |.builtin b=>match b,c.args.toList,c.argTypes.toList with
  |.len,[x],[t]=>match P.underlying t with
   |some .string=>some (.lns x)
   |some (.slice _)=>some (.len x)
   |_=>none
  |.min,[x,y],_=>some (.mnx false x y)
  |.max,[x,y],_=>some (.mnx true x y)
  |_,_,_=>none
 |_=>none
def nOp(P:Program):Op→Option NO
 |.move x=>some (.mv x)
 |.assign x=>some (.mv x)
 |.pick c a b=>some (.pick c a b)
 |.binOp b t x y _=>C4M P b t x y
 |.unOp u _ x=>some (.un u x)
 |.convert src dst x=>C3w P src dst x
 |.fieldAddr t x i=>C4h P t x i
 |.field t x i=>C2V P t x i
 |.indexAddr t x i=>C34 P t x i
 |.index t x i=>C3y P t x i
 |.extract x i=>some (.ext x i)
 |.slice t x lo hi mx=>C4r P t x lo hi mx
 |.nilCheck x=>some (.nck x)
 |.makeFunc fn first cap=>C31 fn first cap
 |.build t ps=>C3v P t ps
 |.load t x=>nLd P t x
 |.call c=>C3H P c
 |_=>none
def c7(w w':World):Prop:=∀ x v,w.cell? x=some v→w'.cell? x=some v
theorem c7.refl(w:World):c7 w w:=fun _ _ h=>h
theorem c7.trans{a b c:World}(h:c7 a b)(k:c7 b c):c7 a c:=fun x v e=>k x v (h x v e)
def W4(P:Program)(a:Act)(op:Op)(v:Value):Prop:=∀ (w:World) (o:Oper),o.op=op→(execOp a.eval o).run P w=.ok (.value v) w
def A4L(P:Program)(a:Act)(w:World)(op:Op)(v:Value):Prop:=∀ w':World,c7 w w'→∀ o:Oper,o.op=op→(execOp a.eval o).run P w'=.ok (.value v) w'
section
variable {P:Program} {C:Ctx} {s:AS} {a:Act} {w:World} {N:NT} {M:MT} {L:List (Nat×Nat)}
theorem A8h(P:Program)(w:World)(ρ:Operand→Value){b:BinOp}{t yt:TypeId}{x y:Operand}{o:Oper}(ho:o.op=.binOp b t x y yt){v:Value}(h:((do eqGuard b t x y (ρ x) (ρ y);binOp b t (ρ x) (ρ y):Sem Value)).run P w=.ok v w) :
  (execOp ρ o).run P w=.ok (.value v) w:=by
 have e:execOp ρ o=(do pure (.value (← (do eqGuard b t x y (ρ x) (ρ y);binOp b t (ρ x) (ρ y))))):=by unfold execOp;rw[ho]
 rw[e,Sem.run_bind,h];rfl
theorem B8r(h:H4 C s a w N M L){b:BinOp}{t yt:TypeId}{x y:Operand}(hc:A5V b (s.ev x) (s.ev y)):∃ v,W4 P a (.binOp b t x y yt) v∧Rep w N M (A1M b (s.ev x) (s.ev y)) v []:=by
 obtain⟨v,h1,h2⟩:=C6e (P:=P) (t:=t) (h.ev x) (h.ev y) hc x y;exact⟨v,fun w' o ho=>A8h P _ _ ho (h1 w'),h2⟩
theorem B8V(h:H4 C s a w N M L){neg:Bool}{t yt:TypeId}{x y:Operand}(hu:P.underlying t=some .bool){u c:Bool}(hx:s.ev x=.val (.bool u))(hy:s.ev y=.val (.bool c)) :
  W4 P a (.binOp (if neg then .neq else .eql) t x y yt) (.bool (neg != (u==c))):=by
 rintro w' o ho;have h1:=C2L (P:=P) (w:=w') (neg:=neg) (a:=u) (c:=c) hu x y;exact A8h P _ _ ho (by rw[h.evv hx,h.evv hy];exact h1)
theorem FK.of_eqC:∀ {ks:List CK} {xs:List AV} {vs:List Value} {K:List Nat},eqC ks xs→F5 w N M xs vs K→FK ks vs
 |[],[],_,_,_,h=>by cases h;trivial
 |.i k :: ks,.val (.int k' n) :: xs,_,_,hc,h=>by
  cases h with
  |cons hx ht=>cases hx;exact⟨hc.1,FK.of_eqC hc.2 ht⟩
 |.b :: ks,.val (.bool n) :: xs,_,_,hc,h=>by
  cases h with
  |cons hx ht=>cases hx;have hc':eqC ks xs:=hc;have r:=FK.of_eqC hc' ht;exact r
 |.s :: ks,.val (.string n) :: xs,_,_,hc,h=>by
  cases h with
  |cons hx ht=>cases hx;have hc':eqC ks xs:=hc;have r:=FK.of_eqC hc' ht;exact r
theorem B0m:∀ {ks:List CK} {xs ys:List AV} {vs us:List Value} {K K':List Nat},eqC ks xs→eqC ks ys→F5 w N M xs vs K→F5 w N M ys us K'→eqV xs ys=eqU vs us
 |[],[],[],_,_,_,_,_,_,h,h'=>by cases h;cases h'; rfl
 |.i k :: ks,.val (.int k' n) :: xs,.val (.int k'' n') :: ys,_,_,_,_,hc,hc',h,h'=>by
  cases h with
  |cons hx ht =>
   cases h' with
   |cons hx' ht'=>cases hx;cases hx'; simp only[eqV,eqU,B0m hc.2 hc'.2 ht ht']
 |.b :: ks,.val (.bool n) :: xs,.val (.bool n') :: ys,_,_,_,_,hc,hc',h,h'=>by
  have c1:eqC ks xs:=hc;have c2:eqC ks ys:=hc';cases h with
  |cons hx ht =>
   cases h' with
   |cons hx' ht'=>cases hx;cases hx'; simp only[eqV,eqU,B0m c1 c2 ht ht']
 |.s :: ks,.val (.string n) :: xs,.val (.string n') :: ys,_,_,_,_,hc,hc',h,h'=>by
  have c1:eqC ks xs:=hc;have c2:eqC ks ys:=hc';cases h with
  |cons hx ht =>
   cases h' with
   |cons hx' ht'=>cases hx;cases hx'; simp only[eqV,eqU,B0m c1 c2 ht ht']
theorem B8s(h:H4 C s a w N M L){neg:Bool}{t yt:TypeId}{x y:Operand}{fs:Array Field}(hu:P.underlying t=some (.struct fs))(hg:P.eqGuardType P.depth t=false){ks:List CK}(hk:A1E P 64 t=some ks)
  {xs ys:List AV} (hx:s.ev x=.agg xs) (hy:s.ev y=.agg ys) (cx:eqC ks xs) (cy:eqC ks ys) :
  W4 P a (.binOp (if neg then .neq else .eql) t x y yt) (.bool (neg != eqV xs ys)):=by
 rintro w' o ho;refine A8h P _ _ ho ?_;have rx:=h.ev x;have ry:=h.ev y;rw[hx] at rx;rw[hy] at ry;generalize a.eval x=vx at *
 generalize a.eval y=vy at *
 cases rx with
 |agg rx =>
  cases ry with
  |agg ry =>
   rename_i vs us;have e1:∀ l,atT P t l=.agg ⟨l⟩:=fun l=>by simp[atT,hu]
   have h1:=B7X (P:=P) (w:=w') 64 (D:=10000) hk (by omega) (FK.of_eqC cx rx) (FK.of_eqC cy ry);rw[e1,e1] at h1;rw[B0m cx cy rx ry,Sem.run_bind,run_eqGuard_agg (P:=P) w' _ t x y _ _ hg,Result.andThen_ok];cases neg
   ·simp only[E0,E5,run_eql_struct,h1,Result.andThen_ok,bne,Bool.false_beq];cases eqU vs us<;>rfl
   ·simp only[H1,run_neq_struct,h1,Result.andThen_ok];cases eqU vs us<;>rfl
theorem C7b(h:H4 C s a w N M L){u:UnOp}{t:TypeId}{x:Operand}(hc:apc s (.un u x)):∃ v,W4 P a (.unOp u t x) v∧Rep w N M (apv s (.un u x)) v []:=by
 have key:∀ v,(∀ w,(Op.unary u (a.eval x)).run P w=.ok v w)→W4 P a (.unOp u t x) v:=fun v hv w' o ho=>by
  have e:execOp a.eval o=(do pure (.value (← Op.unary u (a.eval x)))):=by unfold execOp;rw[ho]
  rw[e,Sem.run_bind,hv];rfl
 simp only[apc] at hc;split at hc
 ·rename_i b e;refine⟨_,key (.bool !b) (fun w'=>by rw[h.evv e];rfl),?_⟩;simp only[apv,e];exact .val _
 ·rename_i k n e;refine⟨_,key (.int k (k.wrap (0-n))) (fun w'=>by rw[h.evv e];rfl),?_⟩;simp only[apv,e,B2i];exact .val _
 ·rename_i k n e;refine⟨_,key _ (fun w'=>by rw[h.evv e];rfl),?_⟩;simp only[apv,e];exact .val _
 ·exact hc.elim
theorem C6l(h:H4 C s a w N M L){src dst:TypeId}{k0 k:IntKind}{x:Operand}(hs:P.underlying src=some (.int k0))(hd:P.underlying dst=some (.int k))(hc:apc s (.cvi k x)):∃ v,W4 P a (.convert src dst x) v∧Rep w N M (apv s (.cvi k x)) v []:=by
 simp only[apc] at hc;split at hc
 ·rename_i k' n e;refine⟨.int k (k.wrap n),fun w' o ho => ?_,?_⟩
  ·have e1:execOp a.eval o=(do pure (.value (← convert src dst (a.eval x)))):=by unfold execOp;rw[ho]
   rw[e1,Sem.run_bind,h.evv e];unfold convert;rw[Sem.run_bind,run_underlying hs,Result.andThen_ok,Sem.run_bind,run_underlying hd,Result.andThen_ok];rfl
  ·simp only[apv,e,B2i];exact .val _
 ·exact hc.elim
theorem Rep.sl_inv{own:Bool}{sz:Nat}{rows:List AV}{v:Value}{K:List Nat}(h:Rep w N M (.sl own sz rows) v K):∃ a' cap,v=.slice a' rows.length cap:=by
 cases h with
 |slI0 _ a' cap=>exact⟨a',cap,rfl⟩
 |slI=>exact⟨_,_,rfl⟩
 |slO0 _ a'=>exact⟨a',0,rfl⟩
 |slO=>exact⟨_,_,rfl⟩
theorem A78{t:TypeId}{x:Operand}{n:Nat}(h:∀ w ty,(Builtin.len_ #[t] ty #[a.eval x]).run P w=.ok (.int .i64 n) w):W4 P a (.call { callee:=.builtin .len,args := #[x],argTypes := #[t] }) (.int .i64 n):=fun w' o ho=>by
 have e:execOp a.eval o=(do let d ← resolve a.eval { callee:=.builtin .len,args := #[x],argTypes := #[t] } o.type;invoke d.target d.args):=by unfold execOp;rw[ho]
 rw[e];simp[resolve,invoke,builtin,h]
theorem C6f(h:H4 C s a w N M L){t e:TypeId}{x:Operand}(hu:P.underlying t=some (.slice e))(hc:B09 (s.ev x)) :
  ∃ v,W4 P a (.call { callee:=.builtin .len,args := #[x],argTypes := #[t] }) v∧Rep w N M (B3t (s.ev x)) v []:=by
 have hx:=h.ev x;have key:∀ a' n cap,a.eval x=.slice a' n cap→∀ w ty,(Builtin.len_ #[t] ty #[a.eval x]).run P w=.ok (.int .i64 n) w:=fun a' n cap e w' ty=>by
  rw[e];simp[Builtin.len_,run_underlying hu,goInt]
 generalize hv:s.ev x=av at *
 cases av with
 |sl own sz rows =>
  obtain⟨a',cap,e⟩:=hx.sl_inv;exact⟨_,A78 (key _ _ _ e),.val _⟩
 |ref j ver off len =>
  generalize hu':a.eval x=u at hx;cases hx with
  |ref mm h1 h2=>exact⟨_,A78 (key _ _ _ hu'),.val _⟩
 |val u =>
  cases u<;>first|exact hc.elim|skip
  rename_i a' n cap;have e:=h.evv hv;unfold B09 at hc;split at hc
  ·rename_i heq;cases heq
  ·rename_i heq;cases heq
  ·rename_i heq;cases heq;exact⟨_,A78 (key _ _ _ e),.val _⟩
  ·exact hc.elim
 |_=>exact hc.elim
theorem C6H(h:H4 C s a w N M L){t:TypeId}{x:Operand}(hu:P.underlying t=some .string){u:ByteArray}(hc:s.ev x=.val (.string u)) :
  W4 P a (.call { callee:=.builtin .len,args := #[x],argTypes := #[t] }) (.int .i64 u.size) :=
 A78 fun w' ty=>by rw[h.evv hc];simp[Builtin.len_,run_underlying hu,goInt]
theorem B8E(h:H4 C s a w N M L){mx:Bool}{ts:Array TypeId}{x y:Operand}{k:IntKind}{u c:Int}(hx:s.ev x=.val (.int k u))(hy:s.ev y=.val (.int k c)) :
  W4 P a (.call { callee:=.builtin (if mx then .max else .min),args := #[x,y],argTypes:=ts }) (.int k (if mx then(if c>u then c else u) else(if c<u then c else u))):=fun w' o ho=>by
 have e:execOp a.eval o=(do let d ← resolve a.eval { callee:=.builtin (if mx then .max else .min),args := #[x,y],argTypes:=ts } o.type;invoke d.target d.args):=by unfold execOp;rw[ho]
 rw[e];cases mx
 ·simp[resolve,invoke,builtin,h.evv hx,h.evv hy,run_min_int2]
 ·simp[resolve,invoke,builtin,h.evv hx,h.evv hy,run_max_int2]
theorem C6u(h:H4 C s a w N M L){x:Operand}{i:Nat}{vs:List AV}(hx:s.ev x=.tup vs)(hi:i<vs.length):∃ v,W4 P a (.extract x i) v∧Rep w N M (vs.getD i .any) v []:=by
 have r:=h.ev x;rw[hx] at r;generalize hu:a.eval x=u at r;cases r with
 |tup r =>
  rename_i us;have hl:=r.length;refine⟨us.getD i undef,fun w' o ho => ?_,r.get i⟩;have e:execOp a.eval o=(do pure (.value (← Instr.extract (a.eval x) i))):=by unfold execOp;rw[ho]
  rw[e,hu];have hi':i<us.length:=by omega
  simp[Instr.extract,B3,hi']
theorem C6L(h:H4 C s a w N M L){x i:Operand}{t:TypeId}(ht:P.underlying t=some .string){u:ByteArray}{k:IntKind}{n:Int}(hx:s.ev x=.val (.string u))(hi:s.ev i=.val (.int k n))(h0:0≤n)(h1:n<u.size) :
  W4 P a (.index t x i) (.int .u8 (bt u n)):=fun w' o ho=>by
 have e:execOp a.eval o=(do pure (.value (← Instr.index t (a.eval x) (a.eval i)))):=by unfold execOp;rw[ho]
 rw[e,h.evv hx,h.evv hi];have hlt:n.toNat<u.size:=by omega
 have e2:u[n.toNat]? = some u[n.toNat]:=by simp[hlt]
 have e3:u.data[n.toNat]?.getD 0=u[n.toNat]:=by
  have hl:n.toNat<u.data.size:=hlt;rw[T3 hl];rfl
 simp[Instr.index,asIntOf,run_underlying ht,h0,e2,bt,e3]
theorem C6v(h:H4 C s a w N M L){x:Operand}{lo hi:Option Operand}{t:TypeId}(ht:P.underlying t=some .string){u:ByteArray}{l e:Int}(hx:s.ev x=.val (.string u))(hl:bd s 0 lo=some l)(he:bd s u.size hi=some e)(h0:0≤l)(h1:l≤e)(h2:e≤u.size) :
  W4 P a (.slice t x lo hi none) (.string (u.extract l.toNat e.toNat)):=fun w' o ho=>by
 have ee:execOp a.eval o=(do pure (.value (← Instr.sliceAt t (a.eval x) (lo.map a.eval) (hi.map a.eval) none))):=by unfold execOp;rw[ho];rfl
 have sb:∀ (k:IntKind) (n:Int) (y:Nat) c,0≤n→n≤y→(Instr.sliceBound (.int k n) y c).run P w'=.ok n.toNat w':=fun k n y c a b=>by simp[Instr.sliceBound,asIntOf,a,b]
 have hb:(Instr.sliceBounds false u.size u.size (lo.map a.eval) (hi.map a.eval) none).run P w'=.ok (l.toNat,e.toNat,u.size) w':=by
  unfold Instr.sliceBounds;cases hi with
  |none =>
   simp only[bd,C3] at he;subst he;cases lo with
   |none =>
    simp only[bd,C3] at hl;subst hl;simp
   |some lo =>
    simp only[bd] at hl;split at hl
    ·rename_i k n hlo;cases hl;simp[h.evv hlo,sb _ _ _ _ h0 h1]
    ·cases hl
  |some hi =>
   simp only[bd] at he;split at he
   ·rename_i k n hhi;cases he;cases lo with
    |none =>
     simp only[bd,C3] at hl;subst hl;simp[h.evv hhi,sb _ _ _ _ h1 h2]
    |some lo =>
     simp only[bd] at hl;split at hl
     ·rename_i k' n' hlo;cases hl;simp[h.evv hhi,h.evv hlo,sb _ _ _ _ (A3Y h0 h1) h2,sb _ _ e.toNat _ h0 (by omega)]
     ·cases hl
   ·cases he
 rw[ee,h.evv hx];simp[Instr.sliceAt,Instr.slice,run_underlying ht,hb]
end
end Go.Proofs.YtkmhopbmpeiofaaGreat.Nx
