/- The evaluator of typed data, and its reads: sound, with no condition beyond those each lemma names. -/
import Derived.Test.YtkmhopbmpeiofaaGreatNxg
set_option linter.unusedVariables false
set_option linter.unusedSimpArgs false
namespace Go.Proofs.YtkmhopbmpeiofaaGreat.Nx
open Go Go.RowKit
mutual
def flt(p:Nat→Bool):TV→TV
 |.own j=>bif p j then .own j else .any
 |.sub j o l=>bif p j then .sub j o l else .any
 |.ptr j r o=>bif p j then .ptr j r o else .any
 |.ag cs=>.ag (A18 p cs)
 |.tp cs=>.tp (A18 p cs)
 |.ipt cs=>.ipt (A18 p cs)
 |.fn f cs=>.fn f (A18 p cs)
 |.any=>.any
 |.v T x=>.v T x
 |.c v=>.c v
 |.nil=>.nil
 |.emp=>.emp
 |.ipv T x o=>.ipv T x o
def A18(p:Nat→Bool):List TV→List TV
 |[]=>[]
 |x :: xs=>flt p x :: A18 p xs
end
def TB.flt(p:Nat→Bool):TB→TB
 |.box cs=>.box (A18 p cs)
 |.arr T o L=>.arr T o L
 |.rws T R=>.rws T (R.map (A18 p))
 |.hol T L row off c=>.hol T L row off (Nx.flt p c)
 |.tld T L row cs=>.tld T L row (A18 p cs)
 |.log T L=>.log T L
 |.ara n k L=>.ara n k L
def A9c(p:Nat→Bool):List (Nat×TV)→List (Nat×TV)
 |[]=>[]
 |x :: u=>(x.1,flt p x.2) :: A9c p u
def Z8(p:Nat→Bool):THP→THP
 |[]=>[]
 |b :: hp=>b.map (TB.flt p) :: Z8 p hp
def TS.flt(t:TS)(p:Nat→Bool):TS:=⟨A9c p t.u,Z8 p t.hp⟩
def TS.new(t:TS)(bs:List TB):TS :=
 let n:=t.hp.length
 ⟨A9c (fun i=>Nat.blt i n) t.u,Z8 (fun i=>Nat.blt i n) t.hp++bs.map some⟩
def A0J(l:List Nat)(i:Nat):Bool:=l.any (Nat.beq i)
def setAll(hp:THP):List Nat→THP
 |[]=>hp
 |j :: l=>setAll (hp.set j none) l
def TS.kill(t:TS)(l:List Nat):TS :=
 let t':=t.flt fun i => !A0J l i
 ⟨t'.u,setAll t'.hp l⟩
def TS.grow(t:TS)(j:Nat)(b:TB):TS :=
 let t':=t.flt fun i => !Nat.beq i j
 ⟨t'.u,t'.hp.set j (some b)⟩
def d5:List Nat→Bool
 |[]=>true
 |x :: xs => !(xs.any (Nat.beq x))&&d5 xs
def k7(hp:THP):(T:Ty)→List TV→Option (Den T×List Nat×List TV)
 |.pr a b,cs=>match k7 hp a cs with
  |some (x,l,cs)=>match k7 hp b cs with
   |some (y,m,cs)=>some ((x,y),l++m,cs)
   |none=>none
  |none=>none
 |.st t,cs=>k7 hp t cs
 |.i k,c :: cs=>match c with | .v A x=>(match cst (.i k) x with|some x=>some (x,[],cs)|none=>none)|_=>none
 |.bl,c :: cs=>match c with | .v A x=>(match cst .bl x with|some x=>some (x,[],cs)|none=>none)|_=>none
 |.tx,c :: cs=>match c with | .v A x=>(match cst .tx x with|some x=>some (x,[],cs)|none=>none)|_=>none
 |.sl t,c :: cs=>match c with
  |.own j=>(match hp[j]? with
   |some (some (.arr A o L))=>bif (o||A.flat) then(match cst (A:=.sl A) (.sl t) L with|some x=>some (x,[j],cs)|none=>none) else none
   |_=>none)
  |.nil=>some ([],[],cs)
  |_=>none
 |.sv t,c :: cs=>match c with | .v A x=>(match cst (.sl t) x with|some x=>some (x,[],cs)|none=>none) | .nil=>some ([],[],cs)|_=>none
 |.ar _ _,_ :: _=>none
 |_,[]=>none
def A5n(hp:THP)(T:Ty):List (List TV)→Option (List (Den T)×List Nat)
 |[]=>some ([],[])
 |cs :: R=>match k7 hp T cs with
  |some (x,l,[])=>match A5n hp T R with
   |some (xs,m)=>some (x :: xs,l++m)
   |none=>none
  |_=>none
def A75(f:(T:Ty)→TV→Option (Den T×List Nat)):(T:Ty)→Den T→Nat→Nat→TV→Option (Den T×List Nat)
 |.st t,x,off,n,y=>bif (Nat.beq off 0&&Nat.beq n t.sz) then f (.st t) y else A75 f t x off n y
 |.pr a b,x,off,n,y=>bif Nat.ble (off+n) a.sz then(A75 f a x.1 off n y).map fun z=>((z.1,x.2),z.2) else bif Nat.ble a.sz off then(A75 f b x.2 (off-a.sz) n y).map fun z=>((x.1,z.1),z.2) else none
 |.i k,_,off,n,y=>bif (Nat.beq off 0&&Nat.beq n 1) then f (.i k) y else none
 |.bl,_,off,n,y=>bif (Nat.beq off 0&&Nat.beq n 1) then f .bl y else none
 |.tx,_,off,n,y=>bif (Nat.beq off 0&&Nat.beq n 1) then f .tx y else none
 |.sl t,_,off,n,y=>bif (Nat.beq off 0&&Nat.beq n 1) then f (.sl t) y else none
 |.sv t,_,off,n,y=>bif (Nat.beq off 0&&Nat.beq n 1) then f (.sv t) y else none
 |.ar _ _,_,_,_,_=>none
def fV(T:Ty)(y:TV):Option (Den T×List Nat):=(B2u T y).map fun z=>(z,[])
def fO(hp:THP)(T:Ty)(y:TV):Option (Den T×List Nat) :=
 match k7 hp T y.cs with
 |some (z,l,[])=>some (z,l)
 |_=>none
def B1A:(T:Ty)→Den T→Nat→Option ((t:Ty)×List (Den t))
 |.st t,x,off=>B1A t x off
 |.pr a b,x,off=>bif Nat.blt off a.sz then B1A a x.1 off else B1A b x.2 (off-a.sz)
 |.sl t,x,off=>bif Nat.beq off 0 then some ⟨t,x⟩ else none
 |_,_,_=>none
def B3J(t:TS)(j:Nat):TS :=
 match t.hp[j]? with
 |some (some (.hol T L row off (.own k)))=>bif (Nat.ble (off+1) T.sz&&f8 t.hp k) then
   (match A75 (fO t.hp) T (L.getD row (dft T)) off 1 (.own k) with
   |some (z,l)=>bif d5 (j :: l) then(({ t with hp:=t.hp.set j (some (.arr T true (L.set row z))) }:TS).kill l) else t
   |none=>t) else t
 |some (some (.tld T L row cs))=>(match k7 t.hp T cs with
  |some (z,l,[])=>bif (cs.all (TV.c1 t.hp)&&d5 (j :: l)) then(({ t with hp:=t.hp.set j (some (.arr T true (L.set row z))) }:TS).kill l) else t
  |_=>t)
 |_=>t
def B3K:Nat→TS→TS
 |0,t=>t
 |i+1,t=>B3K i (B3J t i)
def A0e(t:TS):TS:=B3K t.hp.length t
def B9r(hp:THP)(j:Nat):Bool :=
 match hp[j]? with
 |some (some (.hol _ _ _ _ _))=>true
 |some (some (.tld _ _ _ _))=>true
 |_=>false
def C5C(hp:THP):TV→Bool
 |.own j=>B9r hp j
 |.sub j _ _=>B9r hp j
 |.ptr j _ _=>B9r hp j
 |_=>false
def B3W(hp:THP):TV→Bool
 |.ag cs=>cs.any (C5C hp)
 |x=>C5C hp x
def B0y:NO→List Operand
 |.ld _ _ x=>[x]
 |.st _ x y=>[x,y]
 |.iad _ x _=>[x]
 |.app _ _ _ x y=>[x,y]
 |.len x=>[x]
 |.slc _ x _ _=>[x]
 |.call _ l=>l
 |.callv _ l=>l
 |_=>[]
def B9z(n:Nat)(t:TS)(x:Operand):TS :=
 match t.ev n x with
 |.ptr j row off=>match t.hp[j]? with
  |some (some (.arr T o L))=>bif (o && !T.flat) then
    (match B1A T (L.getD row (dft T)) off with
    |some ⟨t',xs⟩=>{ t.new [.arr t' true xs] with hp:=(t.new [.arr t' true xs]).hp.set j (some (.hol T L row off (.own t.hp.length))) }
    |none=>t) else t
  |_=>t
 |_=>t
abbrev TyO:=List (Nat×Ty)
def A6M:TyO→Nat→Option Ty
 |[],_=>none
 |p :: l,d=>bif Nat.beq p.1 d then some p.2 else A6M l d
def rsC(base:Nat):(T:Ty)→Den T→List TV×List TB
 |.sl t,x=>([.own base],[.arr t true x])
 |.pr a b,x=>((rsC base a x.1).1++(rsC (base+(rsC base a x.1).2.length) b x.2).1,(rsC base a x.1).2++(rsC (base+(rsC base a x.1).2.length) b x.2).2)
 |.st t,x=>rsC base t x
 |.i k,x=>([.v (.i k) x],[])
 |.bl,x=>([.v .bl x],[])
 |.tx,x=>([.v .tx x],[])
 |.sv t,x=>([.v (.sl t) x],[])
 |.ar n k,x=>(W8 (.ar n k) x,[])
def B91(n:Nat)(t:TS)(m:Nat)(x:Operand):TS :=
 match t.ev n x with
 |.ptr j row off=>(match t.hp[j]? with
  |some (some (.arr T o L))=>bif ((o && !T.flat)&&(Nat.beq off 0&&Nat.beq m T.sz)) then
    { t.new (rsC t.hp.length T (L.getD row (dft T))).2 with hp:=(t.new (rsC t.hp.length T (L.getD row (dft T))).2).hp.set j (some (.tld T L row (rsC t.hp.length T (L.getD row (dft T))).1)) } else t
  |_=>t)
 |_=>t
def B98(Θ:TyO)(n:Nat)(t:TS):Operand→TS
 |.tmp k=>match A6M Θ k with
  |some _=>(match t.get n k with
   |.sub j off len=>(match t.hp[j]? with
    |some (some (.arr T o L))=>bif (Nat.beq off 0&&(o||T.flat)) then((t.kill [j]).new [.arr T true (L.take len)]).put (some k) (.own t.hp.length) else t
    |_=>t)
   |_=>t)
  |none=>t
 |_=>t
def C0C(n:Nat)(t:TS)(x:Operand):TS :=
 match t.ev n x with
 |.own j=>(match t.hp[j]? with
  |some (some (.rws T R))=>(match A5n t.hp T R with
   |some (L,l)=>bif d5 (j :: l) then({ t with hp:=t.hp.set j (some (.arr T true L)) }:TS).kill l else t
   |none=>t)
  |_=>t)
 |_=>t
def C3b(n:Nat)(t:TS)(x:Operand):TS :=
 match t.ev n x with
 |.own j=>(match t.hp[j]? with
  |some (some (.rws T _))=>bif T.flat then t else C0C n t x
  |_=>t)
 |_=>t
def C3r(n:Nat):TS→List Operand→TS
 |t,[]=>t
 |t,x :: xs=>C3r n (C3b n t x) xs
def A71(hp:THP):TV→Option (Nat×((T:Ty)×List (Den T)))
 |.own j=>(match hp[j]? with
  |some (some (.arr T _ L))=>some (j,⟨T,L⟩)
  |some (some (.log T L))=>some (j,⟨T,L⟩)
  |_=>none)
 |.sub j off len=>(match hp[j]? with
  |some (some (.arr T _ L))=>some (j,⟨T,(L.drop off).take len⟩)
  |_=>none)
 |_=>none
def C3B(n:Nat)(t:TS)(k i:Nat):TS :=
 match t.get n k with
 |.ag cs=>(match cs[i]? with
  |some c=>(match A71 t.hp c with
   |some (j,⟨T,L⟩)=>(match (t.kill [j]).get n k with
    |.ag cs'=>(t.kill [j]).put (some k) (.ag (cs'.set i (.v (.sl T) L)))
    |_=>t)
   |none=>t)
  |none=>t)
 |_=>t
def C4s(n:Nat)(k:Nat):Nat→TS→TS
 |0,t=>t
 |i+1,t=>C4s n k i (C3B n t k i)
def see(n:Nat)(t:TS)(k:Nat):TS :=
 match A71 t.hp (t.get n k) with
 |some (j,⟨T,L⟩)=>(t.kill [j]).put (some k) (.v (.sl T) L)
 |none=>(match t.get n k with
  |.ag cs=>C4s n k cs.length t
  |_=>t)
def C5Q:Option Ty→Bool
 |some (.st (.st .bl))=>true
 |_=>false
def C05:Option Ty→Bool
 |some (.st (.st (.st .bl)))=>true
 |_=>false
def B3G(n:Nat)(t:TS)(j:Nat):List Nat→TS→TS
 |[],t'=>t'
 |k :: ks,t'=>match A71 t.hp (t.get n k) with
  |some (j',⟨T,L⟩)=>bif Nat.beq j j' then B3G n t j ks (t'.put (some k) (.v (.sl T) L)) else B3G n t j ks t'
  |none=>B3G n t j ks t'
def C3M(n:Nat)(t:TS)(k:Nat):TS :=
 match A71 t.hp (t.get n k) with
 |some (j,_)=>B3G n t j (t.u.map Prod.fst) (t.kill [j])
 |none=>t
def B6b(Θ:TyO)(n:Nat)(t:TS):Operand→TS
 |.tmp k=>bif C5Q (A6M Θ k) then see n t k else bif C05 (A6M Θ k) then C3M n t k else t
 |_=>t
def C39(Θ:TyO)(n:Nat):TS→List (Nat×Operand)→TS
 |t,[]=>t
 |t,(_,x) :: ps=>C39 Θ n (B6b Θ n t x) ps
def C3k(Θ:TyO)(n:Nat):TS→List (Nat×Nat×Operand)→TS
 |t,[]=>t
 |t,(_,_,x) :: ps=>C3k Θ n (B6b Θ n t x) ps
def C4a(Θ:TyO)(n:Nat)(t:TS)(no:NO):TS :=
 match no with
 |.iad sz x i=>C0C n (bif (B0y (.iad sz x i)).any (fun x=>B3W t.hp (t.ev n x)) then A0e t else t) x
 |.st m x y=>B6b Θ n (B98 Θ n (bif (B0y (.st m x y)).any (fun x=>B3W t.hp (t.ev n x)) then A0e t else t) y) y
 |.bld _ ps=>C3k Θ n t ps
 |.bsl _ _ _ _ ps=>C39 Θ n t ps
 |.call f xs=>C3r n (bif (B0y (.call f xs)).any (fun x=>B3W t.hp (t.ev n x)) then A0e t else t) xs
 |.ld m ag x=>bif (Nat.beq m 1 && !ag) then B9z n (bif (B0y no).any (fun x=>B3W t.hp (t.ev n x)) then A0e t else t) x
   else B91 n (bif (B0y no).any (fun x=>B3W t.hp (t.ev n x)) then A0e t else t) m x
 |no=>bif (B0y no).any (fun x=>B3W t.hp (t.ev n x)) then A0e t else t
def B08(n:Nat)(t:TS)(T:Ty):List (Nat×Operand)→List (Den T)→Option (List (Den T))
 |[],L=>some L
 |(i,x) :: ps,L=>match B2u T (t.ev n x) with
  |some y=>bif (Nat.blt i L.length&&(t.ev n x).fits t.hp T.sz) then B08 n t T ps (L.set i y) else none
  |none=>none
def A9t(hp:THP)(T:Ty):TV→Option (List (Den T))
 |.v (.sl A) L=>cst (A:=.sl A) (.sl T) L
 |.own j=>match hp[j]? with
  |some (some (.arr A o L))=>bif (!o||A.flat) then cst (A:=.sl A) (.sl T) L else none
  |_=>none
 |.sub j off len=>match hp[j]? with
  |some (some (.arr A o L))=>bif (!o||A.flat) then cst (A:=.sl A) (.sl T) ((L.drop off).take len) else none
  |_=>none
 |.nil=>some []
 |.emp=>some []
 |_=>none
def A7N(t:ByteArray):List Int:=t.data.toList.map fun b=>(b.toNat:Int)
def B1N(hp:THP):(T:Ty)→TV→Option (List (Den T))
 |.i k,.v .tx s=>bif decide (k=.u8) then some (A7N s) else none
 |T,y=>A9t hp T y
def A17:(T:Ty)→List AV→Option (List AV)
 |.i k,z=>match z with
  |.val (.int k' n) :: r=>bif (decide (k=k')&&decide (n=0)) then some r else none
  |_=>none
 |.bl,z=>match z with
  |.val (.bool b) :: r=>bif b then none else some r
  |_=>none
 |.tx,z=>match z with
  |.val (.string s) :: r=>bif decide (s=ByteArray.empty) then some r else none
  |_=>none
 |.sl _,z=>match z with
  |.val (.slice none 0 0) :: r=>some r
  |_=>none
 |.sv _,z=>match z with
  |.val (.slice none 0 0) :: r=>some r
  |_=>none
 |.ar _ _,_=>none
 |.pr a b,z=>match A17 a z with
  |some r=>A17 b r
  |none=>none
 |.st t,z=>A17 t z
def zOk(T:Ty)(z:List AV):Bool:=match A17 T z with|some []=>true|_=>false
def B4Q(n:Nat)(t:TS)(sz:Nat):List (Nat×Operand)→List (List TV)→Option (List (List TV))
 |[],R=>some R
 |(i,x) :: ps,R=>bif (Nat.blt i R.length&&(t.ev n x).fits t.hp sz) then B4Q n t sz ps (R.set i (t.ev n x).cs) else none
def B0r(hp:THP)(T:Ty):TV→Option (List (Den T)×List Nat)
 |.own j=>match hp[j]? with
  |some (some (.rws A R))=>bif decide (A=T) then(match A5n hp T R with
   |some (L,l)=>some (L,j :: l)
   |none=>none) else none
  |_=>none
 |_=>none
def B1G(str:Bool):TV→Bool
 |.v .tx _=>str
 |_ => !str
def B2g{Ω:Type}(Θ:TyO)(t:TS)(d:Option Nat)(k:TS→Option Ω)(sz by_:Nat)(y:TV):Option Ω :=
 match d.bind (A6M Θ) with
 |some T=>bif Nat.beq T.sz sz then
   (match B1N t.hp T y with
   |some L2=>chk (some (decide (L2.length*by_≤140737488355328))) (k ((t.new [.arr T T.flat L2]).put d (.own t.hp.length)))
   |none=>match B0r t.hp T y with
    |some (L2,l)=>bif (d5 l&&l.all fun i=>Nat.blt i t.hp.length) then chk (some (decide (L2.length*by_≤140737488355328))) (k (((t.new [.arr T true L2]).kill l).put d (.own t.hp.length))) else none
    |none=>none) else none
 |none=>none
noncomputable def N4{Ω:Type}(a b:Option Ω):Option Ω:=@ite _ (a=b) (Classical.propDecidable _) a none
theorem Y7{Ω:Type}(a:Option Ω):N4 a a=a:=E9 rfl
theorem B20{Ω:Type}{a b:Option Ω}{r:Ω}(h:N4 a b=some r):a=some r∧b=some r:=by
 unfold N4 at h;split at h
 ·rename_i e;exact⟨h,e▸h⟩
 ·cases h
def C4w(L:List Int)(off len:Nat)(L2:List Int):List Int:=L.take off++(L2.take (min L2.length len)++L.drop (off+min L2.length len))
def B3y{Ω:Type}(t:TS)(d:Option Nat)(k:TS→Option Ω)(j off:Nat)(len:Option Nat)(y:TV):Option Ω :=
 match t.hp[j]? with
 |some (some (.arr (.i K) o L))=>(match A9t t.hp (.i K) y with
  |some L2=>chk (len.map fun l=>Nat.ble (off+l) (List.length (α:=Int) L)) (k (({ t with hp:=t.hp.set j (some (.arr (.i K) o (C4w L off (len.getD (List.length (α:=Int) L)) L2))) }:TS).put d (.v (.i .i64) (min (List.length (α:=Int) L2) (len.getD (List.length (α:=Int) L)):Nat))))
  |none=>none)
 |_=>none
def dIn(d:Option Nat)(n:Nat):Bool:=match d with
 |some d=>Nat.blt d n
 |none=>false
def C0a(n:Nat)(L:List Int):List Int:=(List.range n).map fun i=>L.getD i 0
def arT:Option Ty→Option (Nat×IntKind)
 |some (.ar n k)=>some (n,k)
 |_=>none
def zAr(m:Nat)(K:IntKind)(z:List AV):Bool:=Nat.beq z.length m&&z.all fun c=>match c with
 |.val (.int k x)=>decide (k=K)&&decide (x=0)
 |_=>false
noncomputable def A01{Ω:Type}(n:Nat)(Θ:TyO)(t:TS)(d:Option Nat)(k:TS→Option Ω):NO→Option Ω
 |.al z=>match arT (d.bind (A6M Θ)) with
  |some (m,K)=>bif zAr m K z then k ((t.new [.ara m K (List.replicate m 0)]).put d (.ptr t.hp.length 0 0)) else none
  |none=>bif z.all A5c then k ((t.new [.box (z.map A6P)]).put d (.ptr t.hp.length 0 0)) else none
 |.bx m x=>match t.ev n x with
  |.v (.ar m' K) L=>bif Nat.beq m m' then k ((t.new [.ara m' K L]).put d (.ptr t.hp.length 0 0)) else none
  |_=>bif (t.ev n x).fits t.hp m then k ((t.new [.box (A18 (fun i=>Nat.blt i t.hp.length) (t.ev n x).cs)]).put d (.ptr t.hp.length 0 0)) else none
 |.bsl sz m ag z ps=>match d.bind (A6M Θ) with
  |some T=>bif (Nat.beq T.sz sz&&(T.ag==ag)) then
    (bif (T.flat&&(zOk T z||Nat.beq m 0)||Nat.beq m 0) then
     (match B08 n t T ps (List.replicate m (dft T)) with
     |some L=>k ((t.new [.arr T true L]).put d (.own t.hp.length))
     |none=>none)
    else bif z.all A5c then bif Nat.beq z.length T.sz then
     (match B4Q n t sz ps (List.replicate m (z.map A6P)) with
     |some R=>k ((t.new [.rws T (R.map (A18 (fun i=>Nat.blt i t.hp.length)))]).put d (.own t.hp.length))
     |none=>none)
    else none else none) else none
  |none=>none
 |.mk sz by_ ag z l c=>match d.bind (A6M Θ),t.ev n l,t.ev n c with
  |some T,.v (.i _) m,.v (.i _) m'=>bif (Nat.beq T.sz sz&&((T.ag==ag)&&zOk T z)) then
    chk (some (decide (m=m')&&(decide (0≤m)&&(decide (m*by_≤140737488355328)&&decide (m≤9223372036854775807)))))
     (k ((t.new [.arr T true (List.replicate m.toNat (dft T))]).put d (.own t.hp.length))) else none
  |_,_,_=>none
 |.st m x y=>match t.ev n x with
  |.ptr j row off=>match t.hp[j]? with
   |some (some (.box cs))=>bif (Nat.beq row 0&&(Nat.ble (off+m) cs.length&&(t.ev n y).fits t.hp m)) then
     k (({ t with hp:=t.hp.set j (some (.box (cs.take off++((t.ev n y).cs++cs.drop (off+m))))) }:TS).put d .any) else none
   |some (some (.ara m' K L))=>bif Nat.beq row 0 then(match t.ev n y with
    |.v A z=>(match cst (.i K) z with
     |some v=>bif Nat.beq m 1 then chk (some (decide (off<m'))) (k (({ t with hp:=t.hp.set j (some (.ara m' K ((C0a m' L).set off v))) }:TS).put d .any)) else none
     |none=>(match cst (.ar m' K) z with
      |some L2=>bif (Nat.beq off 0&&Nat.beq m m') then k (({ t with hp:=t.hp.set j (some (.ara m' K L2)) }:TS).put d .any) else none
      |none=>none))
    |.ag cs=>(match B1f m' K cs with
     |some L2=>bif (Nat.beq off 0&&Nat.beq m m') then k (({ t with hp:=t.hp.set j (some (.ara m' K L2)) }:TS).put d .any) else none
     |none=>none)
    |_=>none) else none
   |some (some (.arr T o L))=>bif (Nat.ble (off+m) T.sz&&(t.ev n y).fits t.hp m) then
     (bif (!o||T.flat) then
      (match A75 fV T (L.getD row (dft T)) off m (t.ev n y) with
      |some (z,_)=>k (({ t with hp:=t.hp.set j (some (.arr T o (L.set row z))) }:TS).put d .any)
      |none=>none)
     else(match A75 (fO t.hp) T (L.getD row (dft T)) off m (t.ev n y) with
      |some (z,l)=>bif d5 (j :: l) then k ((({ t with hp:=t.hp.set j (some (.arr T o (L.set row z))) }:TS).kill l).put d .any) else none
      |none=>none)) else none
   |some (some (.hol T L row' off' _))=>(match t.ev n y with
    |.own q=>bif (Nat.beq off off'&&(Nat.beq m 1&&(Nat.ble (off'+1) T.sz&&f8 t.hp q))) then
      chk (some (Nat.beq row row')) (k (({ t with hp:=t.hp.set j (some (.hol T L row' off' (.own q))) }:TS).put d .any)) else none
    |_=>none)
   |_=>none
  |_=>none
 |.app str sz by_ x y=>bif B1G str (t.ev n y) then
   (match t.ev n x with
   |.own j=>match t.hp[j]? with
    |some (some (.arr T o L))=>bif Nat.beq T.sz sz then
      (bif (!o||T.flat) then
       (match B1N t.hp T (t.ev n y) with
       |some L2=>chk (some (decide ((L.length+L2.length)*by_≤140737488355328)))
         (k ((t.grow j (.arr T o (L++L2))).put d (.own j)))
       |none=>none)
      else(match B0r t.hp T (t.ev n y) with
       |some (L2,l)=>bif d5 (j :: l) then chk (some (decide ((L.length+L2.length)*by_≤140737488355328)))
         (k (((t.grow j (.arr T o (L++L2))).kill l).put d (.own j))) else none
       |none=>none)) else none
    |some (some (.log T L))=>bif (Nat.beq T.sz sz&&dIn d n) then
      (match B1N t.hp T (t.ev n y) with
       |some L2=>chk (some (decide ((L.length+L2.length)*by_≤140737488355328)))
         (k (((t.kill [j]).new [.log T (L++L2)]).put d (.own t.hp.length)))
       |none=>none) else none
    |_=>none
   |.nil=>B2g Θ t d k sz by_ (t.ev n y)
   |.emp=>B2g Θ t d k sz by_ (t.ev n y)
   |_=>none) else none
 |.csb x=>match t.ev n x with
  |.v .tx s=>k ((t.new [.arr (.i .u8) true (A7N s)]).put d (.own t.hp.length))
  |_=>none
 |.cpy x y=>match t.ev n x with
  |.own j=>B3y t d k j 0 none (t.ev n y)
  |.sub j off len=>B3y t d k j off (some len) (t.ev n y)
  |_=>none
 |.isn neg x=>match t.ev n x with
  |.v (.sl _) L=>bif decide (L.length=0) then N4 (k (t.put d (.v .bl !neg))) (k (t.put d (.v .bl neg))) else k (t.put d (.v .bl neg))
  |_=>none
 |_=>none
inductive PK where
 |un
 |d (T:Ty)
 |ip (T:Ty)
 |fn (f:FuncId) (c:PK)
 |pr (a b:PK)
@[reducible] def d9:PK→Type
 |.un=>Unit
 |.d T=>Den T
 |.ip T=>Den T
 |.fn _ c=>d9 c
 |.pr a b=>d9 a×d9 b
inductive RK where
 |un
 |t (T:Ty)
 |pv (T:Ty)
 |pr (a b:RK)
def A23:RK→Bool
 |.pv _=>false
 |.pr a b=>A23 a&&A23 b
 |.un=>true
 |.t T=>T.nov
def A9x:RK→Bool
 |.pv _=>false
 |.pr a b=>A9x a&&A9x b
 |.un=>true
 |.t _=>true
@[reducible] def G8:RK→Type
 |.un=>Unit
 |.t T=>Den T
 |.pv T=>Den T
 |.pr a b=>G8 a×G8 b
def A2x(hp:THP):(T:Ty)→TV→Option (Den T)
 |.st t,.ag cs=>match asArgC hp t cs with
  |some (x,[])=>some x
  |_=>none
 |.ar n k,.ag cs=>B1f n k cs
 |T,.v A x=>A5u T x
 |.sl T,.own j=>match hp[j]? with
  |some (some (.arr A _ L))=>A5u (A:=.sl A) (.sl T) L
  |_=>none
 |.sl T,.sub j off len=>match hp[j]? with
  |some (some (.arr A _ L))=>A5u (A:=.sl A) (.sl T) ((L.drop off).take len)
  |_=>none
 |.sl _,.nil=>some []
 |.sl _,.emp=>some []
 |_,_=>none
where
 asArgC (hp:THP):(T:Ty)→List TV→Option (Den T×List TV)
 |.pr a b,cs=>match asArgC hp a cs with
  |some (x,cs)=>match asArgC hp b cs with
   |some (y,cs)=>some ((x,y),cs)
   |none=>none
  |none=>none
 |.st t,cs=>asArgC hp t cs
 |.i k,c :: cs=>match c with | .v A x=>(match cst (.i k) x with|some x=>some (x,cs)|none=>none)|_=>none
 |.bl,c :: cs=>match c with | .v A x=>(match cst .bl x with|some x=>some (x,cs)|none=>none)|_=>none
 |.tx,c :: cs=>match c with | .v A x=>(match cst .tx x with|some x=>some (x,cs)|none=>none)|_=>none
 |.sl t,c :: cs=>match c with
  |.v A x=>(match A5u (.sl t) x with|some x=>some (x,cs)|none=>none)
  |.own j=>(match hp[j]? with
   |some (some (.arr A _ L))=>(match A5u (A:=.sl A) (.sl t) L with|some x=>some (x,cs)|none=>none)
   |_=>none)
  |.sub j off len=>(match hp[j]? with
   |some (some (.arr A _ L))=>(match A5u (A:=.sl A) (.sl t) ((L.drop off).take len) with|some x=>some (x,cs)|none=>none)
   |_=>none)
  |.nil=>some ([],cs)|_=>none
 |.sv t,c :: cs=>match c with | .v A x=>(match cst (.sl t) x with|some x=>some (x,cs)|none=>none) | .nil=>some ([],cs)|_=>none
 |.ar _ _,_ :: _=>none
 |_,[]=>none
def A3d:PK→Nat
 |.fn _ c=>A3d c+1
 |.pr a b=>max (A3d a) (A3d b)
 |_=>2
def A4m(hp:THP):(p:PK)→List TV→Option (d9 p×List TV)
 |.un,xs=>some ((),xs)
 |.d T,x :: xs=>match A2x hp T x with
  |some y=>some (y,xs)
  |none=>none
 |.ip T,x :: xs=>match x with
  |.ipv A y off=>bif Nat.beq off 0 then(match cst T y with|some y=>some (y,xs)|none=>none) else none
  |.ipt cs=>(match A2x.asArgC hp T cs with|some (y,[])=>some (y,xs)|_=>none)
  |.ptr j row off=>bif (Nat.beq row 0&&Nat.beq off 0) then(match hp[j]? with
   |some (some (.box cs))=>(match A2x.asArgC hp T cs with|some (y,[])=>some (y,xs)|_=>none)
   |_=>none) else none
  |_=>none
 |.fn f c,x :: xs=>match x with
  |.fn g cs=>bif Nat.beq f g then(match A4m hp c cs with|some (y,[])=>some (y,xs)|_=>none) else none
  |_=>none
 |.pr a b,xs=>match A4m hp a xs with
  |some (x,xs)=>match A4m hp b xs with
   |some (y,xs)=>some ((x,y),xs)
   |none=>none
  |none=>none
 |_,[]=>none
def D0p:Ty→Bool
 |.sv _=>true
 |_=>false
def C4f:(T:Ty)→Den T→TV
 |.sv t,x=>.v (.sl t) x
 |T,x=>.v T x
def A0x(base:Nat)(T:Ty)(x:Den T):TV×List TB :=
 bif T.flat then(C4f T x,[]) else bif T.ag then(.ag (rsC base T x).1,(rsC base T x).2) else((rsC base T x).1.headD .any,(rsC base T x).2)
def I3(base:Nat):(R:RK)→G8 R→List TV×List TB
 |.un,_=>([],[])
 |.t T,x=>([(A0x base T x).1],(A0x base T x).2)
 |.pv T,x=>([.ptr base 0 0],[.box (W8 T x)])
 |.pr a b,x=>((I3 base a x.1).1++(I3 (base+(I3 base a x.1).2.length) b x.2).1,(I3 base a x.1).2++(I3 (base+(I3 base a x.1).2.length) b x.2).2)
def A00:List TV→TV
 |[x]=>x
 |l=>.tp l
def A1f:Nat→List TV→List (Nat×TV)
 |_,[]=>[]
 |k,x :: xs=>(k,x) :: A1f (k+1) xs
inductive SK where
 |un
 |d (k:Nat) (T:Ty)
 |o (k:Nat) (T:Ty)
 |mo (k:Nat) (T:Ty)
 |lg (k:Nat) (T:Ty)
 |av (k:Nat) (n:Nat) (K:IntKind)
 |bx (k:Nat) (T:Ty)
 |bv (k:Nat) (T:Ty)
 |fn (k:Nat) (f:FuncId) (c:PK)
 |ip (k:Nat) (T:Ty)
 |ow (k:Nat) (T:Ty)
 |al (k:Nat) (f:FuncId) (ks:List Nat)
 |sum (a b:SK)
 |pr (a b:SK)
@[reducible] def D3:SK→Type
 |.un=>Unit
 |.d _ T=>Den T
 |.o _ T=>List (Den T)
 |.mo _ T=>List (Den T)
 |.lg _ T=>List (Den T)
 |.av _ _ _=>List Int
 |.bx _ T=>Den T
 |.bv _ T=>Den T
 |.fn _ _ c=>d9 c
 |.ip _ T=>Den T
 |.ow _ T=>Den T
 |.al _ _ _=>Unit
 |.sum a b=>D3 a ⊕ D3 b
 |.pr a b=>D3 a×D3 b
def A28:(p:PK)→d9 p→List TV
 |.un,_=>[]
 |.d T,x=>[.v T x]
 |.ip T,x=>[.ipv T x 0]
 |.fn f c,x=>[.fn f (A28 c x)]
 |.pr a b,x=>A28 a x.1++A28 b x.2
def ust(base:Nat):(s:SK)→D3 s→List (Nat×TV)×List TB
 |.un,_=>([],[])
 |.d k T,x=>([(k,.v T x)],[])
 |.o k T,x=>([(k,.own base)],[.arr T true x])
 |.mo k T,x=>([(k,.own base)],[.arr T true x])
 |.lg k T,x=>([(k,.own base)],[.log T x])
 |.av k n K,x=>([(k,.ptr base 0 0)],[.ara n K x])
 |.bx k T,x=>([(k,.ptr (base+(rsC base T x).2.length) 0 0)],(rsC base T x).2++[.box (rsC base T x).1])
 |.bv k T,x=>([(k,.ptr base 0 0)],[.box (W8 T x)])
 |.fn k f c,x=>([(k,.fn f (A28 c x))],[])
 |.ip k T,x=>([(k,.ipv T x 0)],[])
 |.ow k T,x=>([(k,.ag (rsC base T x).1)],(rsC base T x).2)
 |.al _ _ _,_=>([],[])
 |.sum _ _,_=>([],[])
 |.pr a b,x=>((ust base a x.1).1++(ust (base+(ust base a x.1).2.length) b x.2).1,(ust base a x.1).2++(ust (base+(ust base a x.1).2.length) b x.2).2)
def mkS(s:SK)(x:D3 s):TS:=⟨(ust 0 s x).1,(ust 0 s x).2.map some⟩
def A2J(hp:THP):(T:Ty)→List TV→Option (Den T×List (Option Nat)×List TV)
 |.pr a b,cs=>match A2J hp a cs with
  |some (x,l,cs)=>match A2J hp b cs with
   |some (y,m,cs)=>some ((x,y),l++m,cs)
   |none=>none
  |none=>none
 |.st t,cs=>A2J hp t cs
 |.i k,c :: cs=>match c with | .v A x=>(match cst (.i k) x with|some x=>some (x,[],cs)|none=>none)|_=>none
 |.bl,c :: cs=>match c with | .v A x=>(match cst .bl x with|some x=>some (x,[],cs)|none=>none)|_=>none
 |.tx,c :: cs=>match c with | .v A x=>(match cst .tx x with|some x=>some (x,[],cs)|none=>none)|_=>none
 |.sl t,c :: cs=>match c with
  |.own j=>(match hp[j]? with
   |some (some (.arr A o L))=>bif (o||A.flat) then(match cst (A:=.sl A) (.sl t) L with|some x=>some (x,[some j],cs)|none=>none) else none
   |_=>none)
  |.nil=>some ([],[none],cs)
  |_=>none
 |.sv t,c :: cs=>match c with | .v A x=>(match cst (.sl t) x with|some x=>some (x,[],cs)|none=>none)|_=>none
 |.ar _ _,_ :: _=>none
 |_,[]=>none
def I6(n:Nat)(t:TS):SK→List (Option Nat)
 |.o k _=>match t.get n k with
  |.own j=>[some j]
  |_=>[none]
 |.mo k _=>match t.get n k with
  |.own j=>[some j]
  |_=>[none]
 |.lg k _=>match t.get n k with
  |.own j=>[some j]
  |_=>[none]
 |.av k _ _=>match t.get n k with
  |.ptr j _ _=>[some j]
  |_=>[]
 |.bx k T=>match t.get n k with
  |.ptr j _ _=>match t.hp[j]? with
   |some (some (.box cs))=>match A2J t.hp T cs with
    |some (_,l,_)=>l++[some j]
    |none=>[]
   |_=>[]
  |_=>[]
 |.bv k _=>match t.get n k with
  |.ptr j _ _=>[some j]
  |_=>[]
 |.ow k T=>match t.get n k with
  |.ag cs=>match A2J t.hp T cs with
   |some (_,l,_)=>l
   |none=>[]
  |_=>[]
 |.pr a b=>I6 n t a++I6 n t b
 |_=>[]
def S6(n:Nat)(t t':TS):(s:SK)→Option (D3 s)
 |.un=>some ()
 |.d k T=>A2x t'.hp T (t'.get n k)
 |.o k T=>match t.get n k with
  |.own j=>match t.hp[j]? with
   |some (some (.arr A o L))=>bif (o||A.flat) then cst (A:=.sl A) (.sl T) L else none
   |_=>none
  |.nil=>some []
  |_=>none
 |.mo k T=>match t.get n k with
  |.own j=>match t.hp[j]? with
   |some (some (.arr A o L))=>bif (o||A.flat) then cst (A:=.sl A) (.sl T) L else none
   |_=>none
  |.nil=>some []
  |_=>none
 |.lg k T=>match t.get n k with
  |.own j=>match t.hp[j]? with
   |some (some (.log A L))=>cst (A:=.sl A) (.sl T) L
   |some (some (.arr A _ L))=>bif (decide (A=T)&&L.isEmpty) then some [] else none
   |_=>none
  |.nil=>some []
  |_=>none
 |.av k m K=>match t.get n k with
  |.ptr j row off=>bif (Nat.beq row 0&&Nat.beq off 0) then(match t.hp[j]? with
   |some (some (.ara m' K' L))=>bif (Nat.beq m m'&&decide (K=K')) then some L else none
   |_=>none) else none
  |_=>none
 |.bx k T=>match t.get n k with
  |.ptr j row off=>bif (Nat.beq row 0&&Nat.beq off 0) then(match t.hp[j]? with
   |some (some (.box cs))=>match A2J t.hp T cs with
    |some (x,_,[])=>some x
    |_=>none
   |_=>none) else none
  |_=>none
 |.bv k T=>match t.get n k with
  |.ptr j row off=>bif (Nat.beq row 0&&Nat.beq off 0) then(match t.hp[j]? with
   |some (some (.box cs))=>match m6 T cs with
    |some (x,[])=>some x
    |_=>none
   |_=>none) else none
  |_=>none
 |.fn k f c=>match t'.get n k with
  |.fn g cs=>bif (Nat.beq f g&&Nat.ble (A3d c) 7) then(match A4m t'.hp c cs with|some (y,[])=>some y|_=>none) else none
  |_=>none
 |.ip k T=>match A4m t'.hp (.ip T) [t'.get n k] with
  |some (y,[])=>some y
  |_=>none
 |.ow k T=>match t.get n k with
  |.ag cs=>match A2J t.hp T cs with
   |some (x,_,[])=>some x
   |_=>none
  |_=>none
 |.al _ _ _=>some ()
 |.sum _ _=>none
 |.pr a b=>match S6 n t t' a,S6 n t t' b with
  |some x,some y=>some (x,y)
  |_,_=>none
def L8:List (Option Nat)→List Nat
 |[]=>[]
 |some j :: l=>j :: L8 l
 |none :: l=>L8 l
def B1c(n:Nat)(s:SK)(t:TS):Option (D3 s) :=
 let l:=L8 (I6 n t s)
 bif d5 l then S6 n t (t.kill l) s else none
def A95:Nat→Nat→List (Option Nat)→Bool
 |0,_,_=>true
 |q+1,i,some j :: l=>Nat.beq j i&&A95 q (i+1) l
 |_+1,_,_=>false
def B5b(n q:Nat)(s:SK)(t:TS):Option (D3 s):=bif A95 q 0 (I6 n (A0e t) s) then B1c n s (A0e t) else none
def A76:SK→List (Nat×FuncId×List Nat)
 |.al k f ks=>[(k,f,ks)]
 |.pr a b=>A76 a++A76 b
 |_=>[]
def C5I(hp:THP)(j:Nat):Bool :=
 match hpk hp j with
 |some none=>true
 |_=>false
def al2(n:Nat)(t:TS):List TV→List Nat→Bool
 |[],[]=>true
 |c :: cs,q :: ks=>(match c with
  |.ptr j row off=>(match t.get n q with
   |.ptr j' row' off'=>Nat.beq j j'&&(Nat.beq row row'&&(Nat.beq off off'&&(Nat.beq row 0&&(C5I t.hp j&&Nat.blt q n))))
   |_=>false)
  |_=>false)&&al2 n t cs ks
 |_,_=>false
def B3q(n:Nat)(t:TS):List (Nat×FuncId×List Nat)→Bool
 |[]=>true
 |(k,f,ks) :: l=>(match t.get n k with
  |.fn g cs=>Nat.beq f g&&al2 n t cs ks
  |_=>false)&&B3q n t l
def B0s:List (Nat×FuncId×List Nat)→TS→TS
 |[],t=>t
 |(k,f,ks) :: l,t=>B0s l (t.put (some k) (.fn f (ks.map (fnd t.u))))
def stL:(s:SK)→D3 s→TS
 |.sum a b,x=>(match x with
  |.inl y=>stL a y
  |.inr y=>stL b y)
 |s,x=>B0s (A76 s) (mkS s x)
def A3T{Ω:Type}(k:TS→Ω):(s:SK)→D3 s→Ω
 |.sum a b,x=>(match x with
  |.inl y=>A3T k a y
  |.inr y=>A3T k b y)
 |s,x=>k (B0s (A76 s) (mkS s x))
def C3X:SK→List Nat
 |.lg k _=>[k]
 |.pr a b=>C3X a++C3X b
 |_=>[]
def B5q(hp:THP):TV→TV
 |.own j=>match hp[j]? with
  |some (some (.log T L))=>.v (.sl T) L
  |_=>.own j
 |x=>x
def B43(ks:List Nat)(hp:THP):List (Nat×TV)→List (Nat×TV)
 |[]=>[]
 |p :: u=>(p.1,bif A0J ks p.1 then p.2 else B5q hp p.2) :: B43 ks hp u
def B9Y(s:SK)(t:TS):TS :=
 match C3X s with
 |[]=>t
 |ks=>⟨B43 ks t.hp t.u,t.hp⟩
def A3V(n q:Nat):(s:SK)→TS→Option (D3 s)
 |.sum a b,t=>(match A3V n q a t with
  |some x=>some (.inl x)
  |none=>(match A3V n q b t with
   |some y=>some (.inr y)
   |none=>none))
 |s,t=>bif B3q n (A0e (B9Y s t)) (A76 s) then B5b n q s (B9Y s t) else none
structure CT where
 f:FuncId
 p:PK
 R:RK
 F:d9 p→Option (G8 R)
@[reducible] def N9:SK→Type
 |.o _ T=>List (Den T)
 |.ow _ T=>A3P T
 |.bx _ T=>Den T
 |.bv _ T=>Den T
 |.pr a b=>N9 a×N9 b
 |_=>Unit
structure CM where
 f:FuncId
 s:SK
 R:RK
 F:D3 s→Option (G8 R×N9 s)
inductive CX where
 |c (ct:CT)
 |m (cm:CM)
def B2W:List CX→List CX
 |[]=>[]
 |.c ct :: Γ=>.c ct :: B2W Γ
 |.m _ :: Γ=>B2W Γ
def A6J(S:Bool)(Γ:List CX):List CX :=
 match S with
 |true=>Γ
 |false=>B2W Γ
mutual
def C0q:TV→Bool
 |.v _ _=>true
 |.nil=>true
 |.ag cs=>B3u cs
 |_=>false
def B3u:List TV→Bool
 |[]=>true
 |x :: xs=>C0q x&&B3u xs
end
def okR(R:RK)(xs:List TV):Bool:=A23 R||(A9x R&&B3u xs)
def pick(hp:THP):List CX→FuncId→List TV→Option ((ct:CT)×d9 ct.p)
 |[],_,_=>none
 |.m _ :: Γ,f,xs=>pick hp Γ f xs
 |.c ct :: Γ,f,xs=>bif (Nat.beq ct.f f&&(Nat.ble (A3d ct.p) 8&&okR ct.R xs)) then(match A4m hp ct.p xs with
   |some (a,[])=>some ⟨ct,a⟩
   |_=>pick hp Γ f xs) else pick hp Γ f xs
def c9:SK→Nat
 |.o _ _=>1
 |.mo _ _=>1
 |.lg _ _=>1
 |.av _ _ _=>1
 |.ow _ T=>T.nsl
 |.bx _ T=>T.nsl+1
 |.bv _ _=>1
 |.pr a b=>c9 a+c9 b
 |_=>0
def Y8:SK→Nat
 |.bx _ T=>T.nsl
 |.pr a b=>Y8 a+Y8 b
 |_=>0
def A3a:SK→Nat→List Nat
 |.o _ _,i=>[i]
 |.ow _ T,i=>(List.range T.nsl).map fun j=>i+j
 |.bx _ T,i=>[i+T.nsl]
 |.bv _ _,i=>[i]
 |.pr a b,i=>A3a a i++A3a b (i+c9 a)
 |_,_=>[]
def k8:SK→List Nat
 |.un=>[]
 |.d k _=>[k]
 |.o k _=>[k]
 |.mo k _=>[k]
 |.lg k _=>[k]
 |.av k _ _=>[k]
 |.bx k _=>[k]
 |.bv k _=>[k]
 |.fn k _ _=>[k]
 |.ip k _=>[k]
 |.al _ _ _=>[]
 |.sum _ _=>[]
 |.ow k _=>[k]
 |.pr a b=>k8 a++k8 b
def A0h:(T:Ty)→A3P T→List TB
 |.sl t,y=>[.arr t true y]
 |.pr a b,y=>A0h a y.1++A0h b y.2
 |.st t,y=>A0h t y
 |.i _,_=>[]
 |.bl,_=>[]
 |.tx,_=>[]
 |.sv _,_=>[]
 |.ar _ _,_=>[]
def slW:(s:SK)→Nat→N9 s→List TB
 |.bx _ T,base,y=>(rsC base T y).2
 |.bv _ _,_,_=>[]
 |.pr a b,base,y=>slW a base y.1++slW b (base+Y8 a) y.2
 |.un,_,_=>[]
 |.d _ _,_,_=>[]
 |.o _ _,_,_=>[]
 |.mo _ _,_,_=>[]
 |.lg _ _,_,_=>[]
 |.av _ _ _,_,_=>[]
 |.al _ _ _,_,_=>[]
 |.sum _ _,_,_=>[]
 |.fn _ _ _,_,_=>[]
 |.ip _ _,_,_=>[]
 |.ow _ _,_,_=>[]
def fxW:(s:SK)→Nat→N9 s→List (Option TB)
 |.o _ T,_,y=>[some (.arr T true y)]
 |.mo _ _,_,_=>[none]
 |.lg _ _,_,_=>[none]
 |.av _ _ _,_,_=>[none]
 |.al _ _ _,_,_=>[]
 |.sum _ _,_,_=>[]
 |.ow _ T,_,y=>(A0h T y).map some
 |.bx _ T,base,y=>List.replicate T.nsl none++[some (.box (rsC base T y).1)]
 |.bv _ T,_,y=>[some (.box (W8 T y))]
 |.pr a b,base,y=>fxW a base y.1++fxW b (base+Y8 a) y.2
 |.un,_,_=>[]
 |.d _ _,_,_=>[]
 |.fn _ _ _,_,_=>[]
 |.ip _ _,_,_=>[]
def A1x:THP→List (Option Nat)→List (Option TB)→THP
 |hp,some j :: l,b :: B=>A1x (hp.set j b) l B
 |hp,none :: l,_ :: B=>A1x hp l B
 |hp,_,_=>hp
def A1u:List (Option Nat)→List (Option TB)→List Nat
 |some j :: l,b :: B=>bif b.isSome then A1u l B else j :: A1u l B
 |none :: l,_ :: B=>A1u l B
 |_,_=>[]
def A5Q:SK→Bool
 |.bv _ _=>false
 |.pr a b=>A5Q a&&A5Q b
 |.un=>true
 |.d _ _=>true
 |.o _ T=>T.nov
 |.mo _ _=>true
 |.lg _ _=>false
 |.av _ _ _=>false
 |.bx _ T=>T.nov
 |.fn _ _ _=>true
 |.ip _ _=>true
 |.al _ _ _=>true
 |.sum _ _=>true
 |.ow _ T=>T.nov
mutual
def C9X:TV→List Nat
 |.own j=>[j]
 |.sub j _ _=>[j]
 |.ptr j _ _=>[j]
 |.ag cs=>A6n cs
 |.tp cs=>A6n cs
 |.ipt cs=>A6n cs
 |.fn _ cs=>A6n cs
 |_=>[]
def A6n:List TV→List Nat
 |[]=>[]
 |x :: xs=>C9X x++A6n xs
end
def C89(hp:THP)(j:Nat):List Nat :=
 match hp[j]? with
 |some (some (.box cs))=>A6n cs
 |_=>[]
def A8w(hp:THP)(xs:List TV):List Nat:=A6n xs++(A6n xs).flatMap (C89 hp)
def A8r(hp:THP)(xs:List TV):List Nat:=(List.range hp.length).filter fun j => !A0J (A8w hp xs) j
def B9U(hp:THP)(xs:List TV)(l:List (Option Nat)):List Nat:=(A8w hp xs).filter fun j => !A0J (L8 l) j
def TS.backV(t:TS)(c:List Nat)(l:List (Option Nat))(B:List (Option TB))(bs:List TB):TS :=
 let n:=t.hp.length
 let g:=A1u l B++c
 ⟨A9c (fun i=>Nat.blt i n && !A0J g i) t.u,A1x (setAll (Z8 (fun i=>Nat.blt i n && !A0J g i) t.hp) c) l B++bs.map some⟩
def TS.back(t:TS)(l:List (Option Nat))(B:List (Option TB))(bs:List TB):TS :=
 let n:=t.hp.length
 let g:=A1u l B
 ⟨A9c (fun i=>Nat.blt i n && !A0J g i) t.u,A1x (Z8 (fun i=>Nat.blt i n && !A0J g i) t.hp) l B++bs.map some⟩
def B0f:List CX→FuncId→Option CM
 |[],_=>none
 |.c _ :: Γ,f=>B0f Γ f
 |.m cm :: Γ,f=>bif Nat.beq cm.f f then some cm else B0f Γ f
def B58{Ω:Type}(Γ:List CX)(t:TS)(f:FuncId)(xs:List TV)(d:Option Nat)(k:TS→Option Ω):Option Ω :=
 match B0f Γ f with
 |some cm=>bif Nat.beq xs.length (k8 cm.s).length then(bif (A5Q cm.s&&A23 cm.R) then(match B1c xs.length cm.s ⟨A1f 0 xs,t.hp⟩ with
  |some x=>(cm.F x).bind fun r=>k ((t.back (I6 xs.length ⟨A1f 0 xs,t.hp⟩ cm.s) (fxW cm.s (t.hp.length+(I3 t.hp.length cm.R r.1).2.length) r.2)
    ((I3 t.hp.length cm.R r.1).2++slW cm.s (t.hp.length+(I3 t.hp.length cm.R r.1).2.length) r.2)).put d (A00 (I3 t.hp.length cm.R r.1).1))
  |none=>none)
  else(match B1c xs.length cm.s ((⟨A1f 0 xs,t.hp⟩:TS).kill (A8r t.hp xs)) with
  |some x=>(cm.F x).bind fun r=>k ((t.backV (B9U t.hp xs (I6 xs.length ((⟨A1f 0 xs,t.hp⟩:TS).kill (A8r t.hp xs)) cm.s)) (I6 xs.length ((⟨A1f 0 xs,t.hp⟩:TS).kill (A8r t.hp xs)) cm.s) (fxW cm.s (t.hp.length+(I3 t.hp.length cm.R r.1).2.length) r.2)
    ((I3 t.hp.length cm.R r.1).2++slW cm.s (t.hp.length+(I3 t.hp.length cm.R r.1).2.length) r.2)).put d (A00 (I3 t.hp.length cm.R r.1).1))
  |none=>none))
  else none
 |none=>none
def B5v{Ω:Type}(Γ:List CX)(t:TS)(f:FuncId)(xs:List TV)(d:Option Nat)(k:TS→Option Ω):Option Ω :=
 match pick t.hp Γ f xs with
 |some ⟨ct,a⟩=>(ct.F a).bind fun r=>k ((t.new (I3 t.hp.length ct.R r).2).put d (A00 (I3 t.hp.length ct.R r).1))
 |none=>B58 Γ t f xs d k
noncomputable def B3I{Ω:Type}(Γ:List CX)(Θ:TyO)(n:Nat)(t:TS)(o:NOp)(k:TS→Option Ω):Option Ω :=
 match o.n with
 |.call f args=>B5v Γ t f (args.map (t.ev n)) o.d k
 |.callv x args=>match t.ev n x with
  |.fn f cap=>B5v Γ t f (args.map (t.ev n)++cap) o.d k
  |_=>none
 |no=>bif no.reads then chk (rd n t no).1 (k (t.put o.d (rd n t no).2)) else A01 n Θ t o.d k no
noncomputable def xst{Ω:Type}(Γ:List CX)(Θ:TyO)(n:Nat)(t:TS)(o:NOp)(k:TS→Option Ω):Option Ω :=
 match o.g with
 |none=>B3I Γ Θ n t o k
 |some (g,want)=>match t.get n g with
  |.v .bl b=>match want with
   |true=>cond b (B3I Γ Θ n (t.put (some g) (.v .bl true)) o k) (k ((t.put (some g) (.v .bl false)).put o.d (.c undef)))
   |false=>cond b (k ((t.put (some g) (.v .bl true)).put o.d (.c undef))) (B3I Γ Θ n (t.put (some g) (.v .bl false)) o k)
  |.c (.tuple ⟨[]⟩)=>k (t.put o.d (.c undef))
  |_=>none
noncomputable def A6S{Ω:Type}(Γ:List CX)(Θ:TyO)(n:Nat):RT→(TS→Option Ω)→TS→Option Ω
 |.done,k,t=>k t
 |.op o r,k,t=>xst Γ Θ n (C4a Θ n t o.n) o (A6S Γ Θ n r k)
 |.both a b,k,t=>N4 (A6S Γ Θ n a k t) (A6S Γ Θ n b k t)
def A9I(Γ:List CX):RT→Bool
 |.done=>false
 |.op o k=>(match o.n with
  |.call f _=>(match B0f Γ f with
   |some _=>true
   |none=>false)
  |_=>false)||A9I Γ k
 |.both a b=>A9I Γ a||A9I Γ b
structure LC (R:Type) where
 id:Nat
 q:Nat
 s:SK
 x:SK
 run:{Ω:Type}→(D3 x→Option Ω)→(R→Option Ω)→D3 s→Option Ω
def A2K{R:Type}:List (LC R)→Nat→Option (LC R)
 |[],_=>none
 |l :: Λ,id=>bif Nat.beq l.id id then some l else A2K Λ id
noncomputable def A25{R Ω:Type}(Γ:List CX)(Θ:TyO)(Λ:List (LC R))(n:Nat)(res:TS→Option R):NC→(TS→Option Ω)→(Nat→TS→Option Ω)→(R→Option Ω)→TS→Option Ω
 |.skip,kn,_,_,t=>kn t
 |.reg S r,kn,_,_,t=>A6S (A6J S Γ) Θ n r kn t
 |.regs r s,kn,_,_,t=>bif A9I Γ r then A6S (A6J true Γ) Θ n s kn t else A6S (A6J false Γ) Θ n r kn t
 |.seq a b,kn,ke,kr,t=>A25 Γ Θ Λ n res a (fun t=>A25 Γ Θ Λ n res b kn ke kr t) ke kr t
 |.cond c a b,kn,ke,kr,t=>match t.ev n c with
  |.v .bl p=>cond p (A25 Γ Θ Λ n res a kn ke kr t) (A25 Γ Θ Λ n res b kn ke kr t)
  |_=>none
 |.block id b,kn,ke,kr,t=>match b with
  |.loop _=>match A2K Λ id with
   |some l=>(A3V n l.q l.s t).bind fun s=>l.run (A3T kn l.x) kr s
   |none=>none
  |b=>A25 Γ Θ Λ n res b kn (fun i t=>bif Nat.beq i id then kn t else ke i t) kr t
 |.loop _,_,_,_,_=>none
 |.exit id,_,ke,_,t=>ke id t
 |.ret,_,_,kr,t=>match res (A0e t) with
  |some ρ=>kr ρ
  |none=>(res t).bind kr
def D4{S Ω:Type}(B:(S→Option Ω)→S→Option Ω):Nat→S→Option Ω
 |0,_=>none
 |N+1,s=>B (D4 B N) s
def A8x(n:Nat)(t:TS):NR→RV
 |.t x=>(none,t.get n x)
 |.c a m ag=>rd n t (.ld m ag (.tmp a))
def A98(hp:THP)(T:Ty)(x:TV):Option (Den T×List (Option Nat)) :=
 bif T.flat then(B2u T x).map fun x=>(x,[]) else match A2J hp T x.cs with
  |some (y,l,[])=>bif (T.ag==x.isA) then some (y,l) else none
  |_=>none
def A0R(n:Nat)(t:TS):(R:RK)→List NR→Option (G8 R×List (Option Nat)×List NR)
 |.un,rs=>some ((),[],rs)
 |.t T,r :: rs=>chk (A8x n t r).1 (match A98 t.hp T (A8x n t r).2 with
  |some (x,l)=>some (x,l,rs)
  |none=>none)
 |.pv T,r :: rs=>chk (A8x n t r).1 (match (A8x n t r).2 with
  |.ptr j row off=>bif (Nat.beq row 0&&Nat.beq off 0) then(match t.hp[j]? with
   |some (some (.box cs))=>(match m6 T cs with
    |some (x,[])=>some (x,[some j],rs)
    |_=>none)
   |_=>none) else none
  |_=>none)
 |.pr a b,rs=>match A0R n t a rs with
  |some (x,l,rs)=>match A0R n t b rs with
   |some (y,m,rs)=>some ((x,y),l++m,rs)
   |none=>none
  |none=>none
 |_,[]=>none
def A8m(n:Nat):TS→List NR→TS
 |t,[]=>t
 |t,r :: rs=>(match r with
  |.t k=>A8m n (B98 [(k,.bl)] n t (.tmp k)) rs
  |.c _ _ _=>A8m n t rs)
def C0T(n:Nat)(R:RK)(rs:List NR)(t:TS):Option (G8 R) :=
 match A0R n t R rs with
 |some (x,l,[])=>bif d5 (L8 l) then some x else none
 |_=>none
def A9o:RK→List Bool
 |.un=>[]
 |.t T=>[D0p T]
 |.pv _=>[false]
 |.pr a b=>A9o a++A9o b
def A9B(n:Nat):TS→List Bool→List NR→TS
 |t,true :: bs,.t k :: rs=>A9B n (see n t k) bs rs
 |t,_ :: bs,_ :: rs=>A9B n t bs rs
 |t,_,_=>t
def A7S(n:Nat)(R:RK)(rs:List NR)(t:TS):Option (G8 R):=C0T n R rs (A9B n (A8m n t rs) (A9o R) rs)
def B9C:(p:PK)→d9 p→List TV:=A28
noncomputable def xfn(Γ:List CX)(Θ:TyO)(nf:NF)(p:PK)(R:RK)(Λ:List (LC (G8 R)))(a:d9 p):Option (G8 R) :=
 A25 Γ Θ Λ nf.n (A7S nf.n R nf.res) nf.body (A7S nf.n R nf.res) (fun _ _=>none) some ⟨A1f 0 (B9C p a),[]⟩
def B1z(hp:THP):Nat→(T:Ty)→Option (A3P T)
 |i,.sl t=>match hp[i]? with
  |some (some (.arr A o L))=>bif (o||A.flat) then cst (A:=.sl A) (.sl t) L else none
  |_=>none
 |i,.pr a b=>match B1z hp i a,B1z hp (i+a.nsl) b with
  |some x,some y=>some (x,y)
  |_,_=>none
 |i,.st t=>B1z hp i t
 |_,.i _=>some ()
 |_,.bl=>some ()
 |_,.tx=>some ()
 |_,.sv _=>some ()
 |_,.ar _ _=>some ()
def A80:(T:Ty)→Den T→A3P T→Bool
 |.sl _,x,y=>Nat.beq x.length y.length
 |.pr a b,x,y=>A80 a x.1 y.1&&A80 b x.2 y.2
 |.st t,x,y=>A80 t x y
 |.i _,_,_=>true
 |.bl,_,_=>true
 |.tx,_,_=>true
 |.sv _,_,_=>true
 |.ar _ _,_,_=>true
def A4o(hp:THP):Nat→(s:SK)→Option (N9 s×List (Option Nat))
 |i,.o _ T=>match hp[i]? with
  |some (some (.arr A o L))=>bif (o||A.flat) then(match cst (A:=.sl A) (.sl T) L with|some x=>some (x,[])|none=>none) else none
  |_=>none
 |i,.ow _ T=>match B1z hp i T with
  |some x=>some (x,[])
  |none=>none
 |i,.pr a b=>match A4o hp i a,A4o hp (i+c9 a) b with
  |some (x,l),some (y,m)=>some ((x,y),l++m)
  |_,_=>none
 |_,.un=>some ((),[])
 |_,.d _ _=>some ((),[])
 |_,.mo _ _=>some ((),[])
 |_,.lg _ _=>some ((),[])
 |_,.av _ _ _=>some ((),[])
 |_,.al _ _ _=>some ((),[])
 |_,.sum _ _=>some ((),[])
 |i,.bx _ T=>match hp[i+T.nsl]? with
  |some (some (.box cs))=>match A2J hp T cs with
   |some (x,l,[])=>some (x,l)
   |_=>none
  |_=>none
 |i,.bv _ T=>match hp[i]? with
  |some (some (.box cs))=>match m6 T cs with
   |some (x,[])=>some (x,[])
   |_=>none
  |_=>none
 |_,.fn _ _ _=>some ((),[])
 |_,.ip _ _=>some ((),[])
def A8Q:(s:SK)→D3 s→N9 s→Bool
 |.o _ _,x,y=>Nat.beq x.length y.length
 |.ow _ T,x,y=>A80 T x y
 |.pr a b,x,y=>A8Q a x.1 y.1&&A8Q b x.2 y.2
 |_,_,_=>true
def B8P(n:Nat)(R:RK)(rs:List NR)(s:SK)(t:TS):Option (G8 R×N9 s) :=
 match A0R n t R rs with
 |some (ρ,l,[])=>match A4o t.hp 0 s with
   |some (y,m)=>bif d5 (L8 (l++m)++A3a s 0) then some (ρ,y) else none
   |none=>none
 |_=>none
def A5G(n:Nat)(R:RK)(rs:List NR)(s:SK)(t:TS):Option (G8 R×N9 s):=B8P n R rs s (A9B n (A8m n t rs) (A9o R) rs)
noncomputable def B3X(Γ:List CX)(Θ:TyO)(nf:NF)(s:SK)(R:RK)(Λ:List (LC (G8 R×N9 s)))(x:D3 s):Option (G8 R×N9 s) :=
 (A25 Γ Θ Λ nf.n (A5G nf.n R nf.res s) nf.body (A5G nf.n R nf.res s) (fun _ _=>none) some (mkS s x)).bind fun r=>bif A8Q s x r.2 then some r else none
def A0I(P:Program)(f:FuncId):NF:=(nFn P f).getD ⟨.skip,[],0⟩
open Go Go.RowKit
def Hc(c:Option Bool):Prop:=c=none∨c=some true
theorem m7{Ω:Type}{c:Option Bool}{k:Option Ω}{r:Ω}(h:chk c k=some r):Hc c∧k=some r:=by
 cases c with
 |none=>exact⟨.inl rfl,h⟩
 |some b=>cases b with
  |true=>exact⟨.inr rfl,h⟩
  |false=>cases h
theorem Hc.and2{a b:Option Bool}(h:Hc (and2 a b)):Hc a∧Hc b:=by
 unfold Nx.and2 at h;split at h
 ·exact⟨.inl rfl,h⟩
 ·exact⟨h,.inl rfl⟩
 ·rename_i x y;rcases h with h|h
  ·cases h
  ·have h':(x&&y)=true:=by simpa using h
   simp only[A6] at h';exact⟨.inr (by rw[h'.1]),.inr (by rw[h'.2])⟩
theorem Hc.ok{b:Bool}(h:Hc (ok_ b)):b=true:=by
 cases b with
 |true=>rfl
 |false=>rcases h with h|h<;>cases h
theorem Hc.sm{b:Bool}(h:Hc (some b)):b=true:=by
 rcases h with h|h
 ·cases h
 ·simpa using h
theorem Hc.bad(h:Hc (some false)):False:=by rcases h with h|h<;>cases h
theorem C7u(hp:THP):av hp .any=.any:=rfl
theorem C0F{n:Nat}{f:TV→AV}(hf:f .any=.any)(k:Nat):∀ u:List (Nat×TV),lk n k (u.map fun p=>(p.1,f p.2))=bif Nat.blt k n then f (fnd u k) else .any
 |[]=>by simp[lk,fnd,hf]
 |p :: u=>by
  simp only[F6,lk,fnd];by_cases e:p.1=k
  ·subst e;simp only[H1,W3,A4];by_cases h:p.1<n
   ·have:Nat.blt p.1 n=true:=by simp[Q5,h]
    simp[this,h]
   ·have:Nat.blt p.1 n=false:=by
     rw[← w6,Q5];exact h
    simp[this,h]
  ·have:Nat.beq p.1 k=false:=by
    rw[← w6,F4];exact e
   rw[G6 e,this,A9];exact C0F hf k u
theorem R5(n:Nat)(t:TS)(k:Nat):(D2 n t).sl.getD k .any=av t.hp (t.get n k):=by
 have h:=B9L (n:=n) k (t.u.map fun p=>(p.1,av t.hp p.2));rw[C0F (C7u t.hp)] at h;unfold D2 E TS.get;rw[h];cases Nat.blt k n<;>rfl
theorem T5(n:Nat)(t:TS):(D2 n t).sl.length=n:=B4Y _
theorem T9(n:Nat)(t:TS)(d:Option Nat)(x:TV):D2 n (t.put d x)=(D2 n t).put d (av t.hp x):=by
 cases d<;>rfl
theorem B0z(hp:THP)(v:Value):av hp (leaf v)=.val v:=by
 unfold leaf;split<;>rfl
theorem C58(hp:THP)(v:Value):av hp (C44 v)=cAV v:=by
 unfold C44;split
 ·rename_i cs;simp only[av,O8,cAV,H7];congr 1;refine E4 fun x _ => ?_;simp only[Function.comp,B0z]
 ·rename_i h;rw[B0z];unfold cAV;split
  ·rename_i cs;exact absurd rfl (h cs)
  ·rfl
theorem J0(n:Nat)(t:TS)(x:Operand):(D2 n t).ev x=av t.hp (t.ev n x):=by
 cases x with
 |tmp k=>exact R5 n t k
 |const v=>exact(C58 t.hp v).symm
 |func f=>rfl
 |global g=>rfl
theorem I1(hp:THP)(j:Nat):(F1 hp)[j]? = (hp[j]?).map (Option.map (tb hp)):=by
 unfold F1;simp
theorem F3(hp:THP):(F1 hp).length=hp.length:=by simp[F1]
theorem w9{hp:THP}{j:Nat}{T:Ty}{o:Bool}{L:List (Den T)}(h:hp[j]? = some (some (.arr T o L))):(F1 hp).at j L.length=some ⟨T.sz,0,L.map (enc o T),0⟩:=by
 unfold HP.at
 rw[I1,h];simp[tb]
theorem B7o{hp:THP}{j:Nat}{cs:List TV}(h:hp[j]? = some (some (.box cs))):(F1 hp).at j 1=some ⟨cs.length,0,[.agg (cs.map (cav hp))],0⟩:=by
 unfold HP.at
 rw[I1,h];simp[tb]
theorem B6C{hp:THP}{j:Nat}{T:Ty}{R:List (List TV)}(h:hp[j]? = some (some (.rws T R))):(F1 hp).at j R.length=some ⟨T.sz,0,R.map fun cs=>mkr T.ag (cs.map (cav hp)),0⟩:=by
 unfold HP.at
 rw[I1,h];simp[tb]
theorem T8{hp:THP}{j:Nat}{T:Ty}{o:Bool}{L:List (Den T)}(h:hp[j]? = some (some (.arr T o L))):hpk hp j=some (some L.length):=by simp[hpk,h,TB.rlen]
theorem B8o{hp:THP}{j:Nat}{T:Ty}{R:List (List TV)}(h:hp[j]? = some (some (.rws T R))):hpk hp j=some (some R.length):=by simp[hpk,h,TB.rlen]
theorem A7n{hp:THP}{j:Nat}{T:Ty}{L:List (Den T)}{row off:Nat}{c:TV}(h:hp[j]? = some (some (.hol T L row off c))):hpk hp j=some (some L.length):=by simp[hpk,h,TB.rlen]
theorem B2H{hp:THP}{j:Nat}{T:Ty}{L:List (Den T)}{row off:Nat}{c:TV}(h:hp[j]? = some (some (.hol T L row off c))):(F1 hp).at j L.length=some (tb hp (.hol T L row off c)):=by
 unfold HP.at
 rw[I1,h];simp[tb]
theorem B8J{hp:THP}{j:Nat}{T:Ty}{L:List (Den T)}{row:Nat}{cs:List TV}(h:hp[j]? = some (some (.tld T L row cs))):hpk hp j=some (some L.length):=by simp[hpk,h,TB.rlen]
theorem C2Q{hp:THP}{j:Nat}{T:Ty}{L:List (Den T)}{row:Nat}{cs:List TV}(h:hp[j]? = some (some (.tld T L row cs))):(F1 hp).at j L.length=some (tb hp (.tld T L row cs)):=by
 unfold HP.at
 rw[I1,h];simp[tb]
theorem A5s{hp:THP}{j:Nat}{T:Ty}{L:List (Den T)}(h:hp[j]? = some (some (.log T L))):hpk hp j=some (some L.length):=by simp[hpk,h,TB.rlen]
theorem C1T{hp:THP}{j:Nat}{T:Ty}{L:List (Den T)}(h:hp[j]? = some (some (.log T L))):(F1 hp).at j L.length=some ⟨T.sz,L.length,L.map (enc false T),L.length⟩:=by
 unfold HP.at
 rw[I1,h];simp[tb]
theorem A7g{hp:THP}{j:Nat}{n:Nat}{k:IntKind}{L:List Int}(h:hp[j]? = some (some (.ara n k L))):hpk hp j=some none:=by simp[hpk,h,TB.rlen]
theorem B7v{hp:THP}{j:Nat}{n:Nat}{k:IntKind}{L:List Int}(h:hp[j]? = some (some (.ara n k L))):(F1 hp).at j 1=some ⟨n,0,[.agg (arC n k L)],0⟩:=by
 unfold HP.at
 rw[I1,h];simp[tb]
theorem A2B{hp:THP}{j:Nat}{cs:List TV}(h:hp[j]? = some (some (.box cs))):hpk hp j=some none:=by simp[hpk,h,TB.rlen]
theorem E6(n:Nat)(t:TS):(D2 n t).hp=F1 t.hp:=rfl
theorem O0(o:Bool):∀ (T:Ty) (x:Den T),(cls o T x).length=T.sz
 |.i _,_=>rfl
 |.bl,_=>rfl
 |.tx,_=>rfl
 |.sv _,_=>rfl
 |.sl _,_=>rfl
 |.ar n k,x=>by simp[cls,arC,Ty.sz]
 |.pr a b,x=>by simp[cls,Ty.sz,O0 o a,O0 o b]
 |.st t,x=>by simp[cls,Ty.sz,O0 o t]
theorem A8t:∀ (T:Ty) (x:Den T),(W8 T x).length=T.sz
 |.i _,_=>rfl
 |.bl,_=>rfl
 |.tx,_=>rfl
 |.sv _,_=>rfl
 |.sl _,_=>rfl
 |.ar n k,x=>by simp[W8,Ty.sz]
 |.pr a b,x=>by simp[W8,Ty.sz,A8t a,A8t b]
 |.st t,x=>by simp[W8,Ty.sz,A8t t]
theorem A0u(hp:THP):∀ (T:Ty) (x:Den T),(W8 T x).map (av hp)=cls false T x
 |.i _,_=>rfl
 |.bl,_=>rfl
 |.tx,_=>rfl
 |.sv _,_=>rfl
 |.sl _,_=>rfl
 |.ar n k,x=>by
  simp only[W8,cls,arC,H7];rfl
 |.pr a b,x=>by simp[W8,cls,A0u hp a,A0u hp b]
 |.st t,x=>by simp[W8,cls,A0u hp t]
theorem A1p(o:Bool):∀ (T:Ty) (x:Den T),∀ c∈cls o T x,c.cell1=true∧c.cells=[c]
 |.i _,_=>by simp[cls,AV.cell1,AV.cells]
 |.bl,_=>by simp[cls,AV.cell1,AV.cells]
 |.tx,_=>by simp[cls,AV.cell1,AV.cells]
 |.sv _,_=>by simp[cls,AV.cell1,AV.cells]
 |.sl _,_=>by simp[cls,AV.cell1,AV.cells]
 |.ar n k,x=>by
  intro c hc;obtain⟨i,_,rfl⟩:=C5.1 hc;exact⟨rfl,rfl⟩
 |.pr a b,x=>by
  intro c hc;rcases C9.1 hc with h|h
  ·exact A1p o a _ c h
  ·exact A1p o b _ c h
 |.st t,x=>A1p o t x
theorem A1z(T:Ty)(x:Den T):∀ c∈cls false T x,c.bare1=true:=by
 induction T with
 |i|bl|tx|sl|sv=>simp[cls,AV.bare1]
 |ar n k =>
  intro c hc;obtain⟨i,_,rfl⟩:=C5.1 hc;rfl
 |pr a b iha ihb =>
  intro c hc;rcases C9.1 hc with h|h
  ·exact iha _ c h
  ·exact ihb _ c h
 |st t ih=>exact ih x
theorem A5w{T:Ty}(h:T.flat=true)(x:Den T):cls true T x=cls false T x:=by
 induction T with
 |i|bl|tx|sv|ar=>rfl
 |sl=>cases h
 |pr a b iha ihb =>
  simp only[Ty.flat,A6] at h;simp only[cls,iha h.1,ihb h.2]
 |st t ih=>exact ih h x
theorem A7r{T:Ty}{o:Bool}(h:(!o||T.flat)=true)(x:Den T):cls o T x=cls false T x:=by
 cases o with
 |false=>rfl
 |true=>exact A5w (by simpa using h) x
theorem N6(o:Bool)(T:Ty)(x:Den T):(enc o T x).cells=cls o T x:=by
 cases T<;>rfl
theorem B2K:∀ T:Ty,T.un.sz=T.sz
 |.sl _ | .sv _ | .i _ | .bl | .tx | .ar _ _=>rfl
 |.pr a b=>by simp only[Ty.un,Ty.sz,B2K a,B2K b]
 |.st t=>B2K t
theorem B47(T:Ty):T.un.ag=T.ag:=by cases T<;>rfl
theorem B8H{α β γ:Type}(h:α=β){f:α→γ}{g:β→γ}(hf:∀ a b,HEq a b→f a=g b){z:List α}{x:List β}(hz:HEq z x):z.map f=x.map g:=by
 subst h;have:=A3C hz;subst this;exact E4 fun a _=>hf a a HEq.rfl
theorem C4j{α α' β β':Type}(h1:α=α')(h2:β=β'){z:α×β}{x:α'×β'}(hz:HEq z x):HEq z.1 x.1∧HEq z.2 x.2:=by
 subst h1 h2;have:=A3C hz;subst this;exact⟨HEq.rfl,HEq.rfl⟩
theorem A50:∀ (A:Ty) (z:Den A.un) (x:Den A),HEq z x→cls false A.un z=cls false A x
 |.i _,z,x,h=>by have:=A3C h;subst this;rfl
 |.bl,z,x,h=>by have:=A3C h;subst this;rfl
 |.tx,z,x,h=>by have:=A3C h;subst this;rfl
 |.ar n k,z,x,h=>by have:=A3C h;subst this;rfl
 |.st t,z,x,h=>A50 t z x h
 |.pr a b,z,x,h=>by
  obtain⟨h1,h2⟩:=C4j (A1j a) (A1j b) h;show cls false a.un z.1++cls false b.un z.2=_;rw[A50 a _ _ h1,A50 b _ _ h2];rfl
 |.sl t,z,x,h=>by
  have:=B8H (A1j t) (f:=fun y=>mkr t.un.ag (cls false t.un y)) (g:=fun y=>mkr t.ag (cls false t y)) (fun a b e=>by simp only[B47,A50 t a b e]) h;show [AV.sl false t.un.sz (List.map (fun y=>mkr t.un.ag (cls false t.un y)) z)]=_;rw[this,B2K];rfl
 |.sv t,z,x,h=>by
  have:=B8H (A1j t) (f:=fun y=>mkr t.un.ag (cls false t.un y)) (g:=fun y=>mkr t.ag (cls false t y)) (fun a b e=>by simp only[B47,A50 t a b e]) h;show [AV.sl false t.un.sz (List.map (fun y=>mkr t.un.ag (cls false t.un y)) z)]=_;rw[this,B2K];rfl
theorem C63{A B:Ty}(h:A=B){a:Den A}{b:Den B}(e:HEq a b):cls false A a=cls false B b:=by
 subst h;have:=A3C e;subst this;rfl
theorem C2m{A T:Ty}{x:Den A}{y:Den T}(h:B9P T x=some y):cls false A x=cls false T y∧A.un=T.un:=by
 unfold B9P at h;split at h
 ·rename_i e;simp only[C3] at h;have hy:HEq y x:=by rw[← h];exact cast_heq _ _
  let zA:Den A.un:=cast (A1j A).symm x
  let zT:Den T.un:=cast (A1j T).symm y
  have hA:HEq zA x:=cast_heq _ _;have hT:HEq zT y:=cast_heq _ _;have e1:=A50 A zA x hA;have e2:=A50 T zT y hT;have e3:=C63 e (hA.trans (hy.symm.trans hT.symm));exact⟨by rw[← e1,← e2,e3],e⟩
 ·cases h
theorem B7D{A T:Ty}{x:Den A}{y:Den T}(h:A5u T x=some y):cls false A x=cls false T y∧A.un=T.un:=by
 unfold A5u at h;split at h
 ·rename_i z hz;cases h;unfold cst at hz;split at hz
  ·rename_i e;subst e;cases hz;exact⟨rfl,rfl⟩
  ·cases hz
 ·exact C2m h
theorem A14{A T:Ty}{x:Den A}{y:Den T}(h:A5u T x=some y):enc false A x=enc false T y:=by
 obtain⟨e,hu⟩:=B7D h;unfold enc;rw[e,← B47 A,hu,B47 T]
open Go Go.RowKit
theorem N5{A B:Ty}{x:Den A}{y:Den B}(h:cst B x=some y):A=B∧HEq x y:=by
 unfold cst at h;split at h
 ·rename_i e;subst e;cases h;exact⟨rfl,HEq.rfl⟩
 ·cases h
theorem C26(A:Ty)(x:Den A):cst A x=some x:=by simp[cst]
theorem C6O(hp:THP)(p:Bool)(x y:TV):av hp (cond p x y)=bif p then av hp x else av hp y:=by cases p<;>rfl
section
variable {C:Ctx} {n:Nat} {t:TS} {a:Act} {w:World} {N:NT} {M:MT} {L:List (Nat×Nat)}
def A0a(n:Nat)(t:TS)(no:NO):Prop:=Hc (rd n t no).1→apc (D2 n t) no∧apv (D2 n t) no=av t.hp (rd n t no).2
theorem C93(x:Operand):A0a n t (.mv x):=fun _=>⟨trivial,J0 n t x⟩
theorem C0y{hp:THP}{p:Bool}{x y:TV}(h:Hc (B4W p x y).1):av hp (B4W p x y).2=bif p then av hp x else av hp y:=by
 unfold B4W at h ⊢;split at h
 ·rename_i A x' B y';split at h
  ·rename_i z hz;obtain⟨rfl,hz⟩:=N5 hz;cases hz;simp only[C26];cases p<;>rfl
  ·exact h.bad.elim
 ·exact C6O hp p _ _
theorem C52(c x y:Operand):A0a n t (.pick c x y):=by
 intro h;simp only[rd] at h ⊢;simp only[apc,apv,J0];generalize t.ev n c=tc at *
 generalize t.ev n x=tx at *
 generalize t.ev n y=ty at *
 split at h
 ·rename_i p;refine⟨trivial,?_⟩;rw[C0y h];cases p<;>rfl
 ·exact h.bad.elim
theorem C7U(b:BinOp)(x y:Operand):A0a n t (.bin b x y):=by
 intro h;simp only[rd] at h ⊢;simp only[apc,apv,J0];generalize t.ev n x=tx at *
 generalize t.ev n y=ty at *
 split at h
 ·rename_i k m k' m';obtain⟨h1,h2⟩:=h.and2;have h1:=h1.ok;show A5V b (.val (.int k m)) (.val (.int k' m'))∧A1M b (.val (.int k m)) (.val (.int k' m'))=av t.hp (C4V b k m m');cases b<;>simp only[A5V,A1M,C4V,B6o,C2k,A7H,orI,C0s,C5s,A4k,Q4,B6y,p9,A3Z,D7] at h1 ⊢ <;> simp only[C5y] at h2 <;>
   first
   |exact⟨h1,rfl⟩
   |exact⟨⟨h1,by simpa using h2.sm⟩,rfl⟩
   |exact⟨by simpa using h2.sm,rfl⟩
 ·rename_i s s';show A5V b (.val (.string s)) (.val (.string s'))∧A1M b (.val (.string s)) (.val (.string s'))=av t.hp (C4x b s s');cases b<;>simp only[A5V,A1M,C4x,C5S] at h ⊢ <;>
   first
   |exact⟨trivial,rfl⟩
   |exact⟨by simpa using h.sm,rfl⟩
   |exact h.bad.elim
 ·exact h.bad.elim
theorem C7m(neg:Bool)(x y:Operand):A0a n t (.eqb neg x y):=by
 intro h;simp only[rd] at h ⊢;simp only[apc,apv,J0];generalize t.ev n x=tx at *
 generalize t.ev n y=ty at *
 split at h
 ·refine⟨trivial,?_⟩;cases neg<;>rename_i a b<;>cases a<;>cases b<;>rfl
 ·exact h.bad.elim
theorem B0V(a:Bool)(o:Option Bool):(B5I a o).getD true=(a&&o.getD true):=by cases o<;>simp[B5I]
theorem C4F(hp:THP):∀ {ks:List CK} {xs ys:List TV} {e:Option Bool},eqL ks xs ys=some e→eqC ks (xs.map (av hp))∧eqC ks (ys.map (av hp))∧eqV (xs.map (av hp)) (ys.map (av hp))=e.getD true:=by
 intro ks;induction ks with
 |nil =>
  intro xs ys e h;cases xs<;>cases ys<;>simp only[eqL] at h<;>first|(cases h;done)|skip
  cases h;exact⟨trivial,trivial,rfl⟩
 |cons c ks ih =>
  intro xs ys e h;unfold eqL at h;split at h
  ·rename_i e1;cases e1
  ·rename_i k ks' k1 a xs k2 b ys e1;cases e1;by_cases hd:k=k1∧k=k2
   ·obtain⟨rfl,rfl⟩:=hd;simp only[Z6,D0,A4] at h;obtain⟨e',h1,rfl⟩:=T7.1 h;obtain⟨k1,k2,k3⟩:=ih h1;exact⟨⟨rfl,k1⟩,⟨rfl,k2⟩,by rw[B0V,← k3];rfl⟩
   ·have:(decide (k=k1)&&decide (k=k2))=false:=by simpa using hd
    rw[this] at h;cases h
  ·rename_i e1;cases e1;obtain⟨e',h1,rfl⟩:=T7.1 h;obtain⟨k1,k2,k3⟩:=ih h1;exact⟨k1,k2,by rw[B0V,← k3];rfl⟩
  ·rename_i e1;cases e1;obtain⟨e',h1,rfl⟩:=T7.1 h;obtain⟨k1,k2,k3⟩:=ih h1;exact⟨k1,k2,by rw[B0V,← k3];rfl⟩
  ·cases h
theorem C9C(hp:THP)(x:TV):x.cs.map (av hp)=(av hp x).cells∨x.c1 hp=false:=by
 cases x with
 |v T x=>cases T with
  |st t=>exact .inl (A0u hp t x)
  |ar n k=>exact .inl (A0u hp (.ar n k) x)
  |pr a b=>exact .inr rfl
  |_=>exact .inl rfl
 |ag cs=>exact .inl (O8 hp cs).symm
 |c v=>cases v<;>first|exact .inl rfl|exact .inr rfl
 |own j =>
  simp only[TV.cs,F6,U3,av];split<;>exact .inl rfl
 |sub j o l =>
  simp only[TV.cs,F6,U3,av];split<;>exact .inl rfl
 |ptr j o l =>
  simp only[TV.cs,F6,U3,av];split<;>exact .inl rfl
 |tp vs=>exact .inr rfl
 |any=>exact .inl rfl
 |_=>exact .inl rfl
theorem B2q{hp:THP}{ks:List CK}{x:TV}(h:eqC ks (x.cs.map (av hp)))(ha:x.isA=true):av hp x=.agg (x.cs.map (av hp)):=by
 cases x with
 |v T x=>cases T with
  |st t=>simp only[TV.cs,A0u];rfl
  |ar n k=>simp only[TV.cs,A0u];rfl
  |_=>cases ha
 |ag cs=>simp only[TV.cs,av,O8]
 |_=>cases ha
theorem C7i(ks:List CK)(neg:Bool)(x y:Operand):A0a n t (.eqs ks neg x y):=by
 intro h;simp only[rd] at h ⊢;simp only[apc,apv,J0];generalize t.ev n x=tx at *
 generalize t.ev n y=ty at *
 split at h
 ·rename_i e he;have h:=h.ok;simp only[A6] at h;obtain⟨h1,h2,h3⟩:=C4F t.hp he;rw[B2q h1 h.1,B2q h2 h.2];refine⟨⟨h1,h2⟩,?_⟩;simp only[h3];generalize e.getD true=b;cases neg<;>cases b<;>rfl
 ·exact h.bad.elim
theorem C8L(u:UnOp)(x:Operand):A0a n t (.un u x):=by
 intro h;simp only[rd] at h ⊢;simp only[apc,apv,J0];generalize t.ev n x=tx at *
 split at h<;>first|exact⟨trivial,rfl⟩|exact⟨trivial,by simp only[B6o];rfl⟩|exact h.bad.elim
theorem C7I(k:IntKind)(x:Operand):A0a n t (.cvi k x):=by
 intro h;simp only[rd] at h ⊢;simp only[apc,apv,J0];generalize t.ev n x=tx at *
 split at h<;>first|exact⟨trivial,rfl⟩|exact⟨trivial,by simp only[B6o];rfl⟩|exact h.bad.elim
theorem C78(x i:Operand):A0a n t (.idx x i):=by
 intro h;simp only[rd] at h ⊢;simp only[apc,apv,J0];generalize t.ev n x=tx at *
 generalize t.ev n i=ti at *
 split at h
 ·have h:=h.sm;simp only[A6,D7] at h;rw[C92];exact⟨h,rfl⟩
 ·exact h.bad.elim
theorem B06{n:Nat}{k:IntKind}{L:List Int}{i:Nat}(h:i<n):(arC n k L).getD i .any=.val (.int k (L.getD i 0)):=by
 unfold arC;rw[B3,H3,List.getElem?_range h];rfl
theorem A2D(n:Nat)(k:IntKind)(L:List Int):(arC n k L).length=n:=by simp[arC]
theorem C1u{m:Int}{len n:Nat}(h:0≤m∧m<(len:Int))(h3:len≤n):m.toNat<n:=by omega
theorem C71(sz len:Nat)(ag:Bool)(x i:Operand):A0a n t (.ixa sz len ag x i):=by
 intro h;simp only[rd] at h ⊢;simp only[apc,apv,J0];generalize t.ev n x=tx at *
 generalize t.ev n i=ti at *
 split at h
 ·rename_i n' k L k2 m;obtain⟨h1,h2⟩:=h.and2;have h1:=h1.ok;have h2:=h2.sm;simp only[F4,A6,D7,M6] at h1 h2;obtain⟨rfl,h3,rfl⟩:=h1;have h3:=H6 h3;have e1:av t.hp (.v (.ar n' k) L)=.agg (arC n' k L):=rfl;have e2:av t.hp (.v (.i k2) m)=.val (.int k2 m):=rfl;rw[e1,e2];refine⟨⟨by rw[A2D];omega,by omega,h2⟩,?_⟩
  show(arC n' k L).getD (m.toNat*1) .any=.val (.int k (L.getD m.toNat 0));rw[A6Z,B06 (C1u h2 h3)]
 ·exact h.bad.elim
theorem C7z(x:Operand):A0a n t (.lns x):=by
 intro h;simp only[rd] at h ⊢;simp only[apc,apv,J0];generalize t.ev n x=tx at *
 split at h<;>first|exact⟨trivial,rfl⟩|exact h.bad.elim
theorem C7t(mx:Bool)(x y:Operand):A0a n t (.mnx mx x y):=by
 intro h;simp only[rd] at h ⊢;simp only[apc,apv,J0];generalize t.ev n x=tx at *
 generalize t.ev n y=ty at *
 split at h
 ·have h:=h.ok;simp only[D7] at h;exact⟨h,rfl⟩
 ·exact h.bad.elim
theorem C8p(f:FuncId)(cap:List Operand):A0a n t (.mkf f cap):=by
 intro h;refine⟨trivial,?_⟩;simp only[rd,apv,av,O8,H7];congr 1;refine E4 fun x _ => ?_;exact J0 n t x
theorem A4j{α β:Type}{f:α→β}{xs:List α}{i:Nat}{d:α}{e:β}(h:i<xs.length):(xs.map f).getD i e=f (xs.getD i d):=by
 simp[B3,h]
theorem C7H(x:Operand)(i:Nat):A0a n t (.ext x i):=by
 intro h;simp only[rd] at h ⊢;simp only[apc,apv,J0];generalize t.ev n x=tx at *
 split at h
 ·have h:=h.ok;rw[Q5] at h;simp only[av,O8,C7];exact⟨h,A4j h⟩
 ·exact h.bad.elim
theorem B6I{hp:THP}{x:TV}(h:Hc (B6g hp x).1):B09 (av hp x)∧B3t (av hp x)=av hp (B6g hp x).2:=by
 unfold B6g at h ⊢;split at h
 ·rename_i T L;refine⟨trivial,?_⟩;show AV.val (.int .i64 ((L.map fun y=>mkr T.ag (cls false T y)).length:Nat))=AV.val (.int .i64 (L.length:Nat));rw[C7]
 ·rename_i j;split at h
  ·rename_i T o L e;simp only[av,hpk,TB.rlen,e];exact⟨trivial,rfl⟩
  ·rename_i T R e;simp only[av,hpk,TB.rlen,e];exact⟨trivial,rfl⟩
  ·exact h.bad.elim
 ·rename_i j off len;unfold f8 at h ⊢;split at h
  ·rename_i l e;simp only[av,e,A4];exact⟨trivial,rfl⟩
  ·exact h.bad.elim
 ·exact⟨trivial,rfl⟩
 ·exact⟨trivial,rfl⟩
 ·exact h.bad.elim
theorem C75(x:Operand):A0a n t (.len x):=by
 intro h;simp only[rd] at h ⊢;simp only[apc,apv,J0];exact B6I h
theorem A8F{x:Operand}(h:B2Z n t x=true):A3G (D2 n t) x:=by
 unfold B2Z at h;unfold A3G;rw[J0];generalize t.ev n x=tx at *
 split at h
 ·have h':=I9 h;exact h'
 ·cases h
theorem C8c(x lo hi mx:Operand):A0a n t (.slz x lo hi mx):=by
 intro h;simp only[rd] at h ⊢;simp only[apc,apv,J0];obtain⟨h1,h2⟩:=h.and2;have h2:=h2.ok;simp only[A6] at h2;exact⟨⟨(B6I h1).1,A8F h2.1,A8F h2.2.1,A8F h2.2.2⟩,rfl⟩
end
end Go.Proofs.YtkmhopbmpeiofaaGreat.Nx
namespace Go.Proofs.YtkmhopbmpeiofaaGreat.Nx
open Go Go.RowKit
theorem B6G(hp:THP)(cs:List TV)(k:Nat):avL hp (cs.drop k)=(avL hp cs).drop k:=by simp[O8,W7]
theorem B04(hp:THP)(cs:List TV)(k:Nat):avL hp (cs.take k)=(avL hp cs).take k:=by simp[O8,W0]
theorem B3R(hp:THP)(cs:List TV):(avL hp cs).length=cs.length:=by simp[O8]
theorem B6F(hp:THP)(cs:List TV)(k:Nat):(avL hp cs).getD k .any=av hp (cs.getD k .any):=by
 rw[O8];rcases D9 k cs.length with h|h
 ·exact A4j h
 ·simp[B3,h,av]
theorem A7R{hp:THP}{j:Nat}(h:A6v hp j=true):(∃ T o L,hp[j]? = some (some (.arr T o L)))∨(∃ cs,hp[j]? = some (some (.box cs)))∨(∃ T R,hp[j]? = some (some (.rws T R)))∨(∃ T L row off c,hp[j]? = some (some (.hol T L row off c)))∨(∃ T L row cs,hp[j]? = some (some (.tld T L row cs)))∨(∃ T L,hp[j]? = some (some (.log T L)))∨∃ n k L,hp[j]? = some (some (.ara n k L)):=by
 unfold A6v at h;split at h
 ·rename_i b e;cases b with
  |box cs=>exact .inr (.inl ⟨cs,e⟩)
  |arr T o L=>exact .inl ⟨T,o,L,e⟩
  |rws T R=>exact .inr (.inr (.inl ⟨T,R,e⟩))
  |hol T L row off c=>exact .inr (.inr (.inr (.inl ⟨T,L,row,off,c,e⟩)))
  |tld T L row cs=>exact .inr (.inr (.inr (.inr (.inl ⟨T,L,row,cs,e⟩))))
  |log T L=>exact .inr (.inr (.inr (.inr (.inr (.inl ⟨T,L,e⟩)))))
  |ara n k L=>exact .inr (.inr (.inr (.inr (.inr (.inr ⟨n,k,L,e⟩)))))
 ·cases h
section
variable {C:Ctx} {n:Nat} {t:TS} {a:Act} {w:World} {N:NT} {M:MT} {L:List (Nat×Nat)}
theorem B3P{j:Nat}(h:A6v t.hp j=true)(row off:Nat):∃ ver,av t.hp (.ptr j row off)=.ptr j ver row off∧((D2 n t).hp.at j ver).isSome=true:=by
 rcases A7R h with⟨T,o,L,e⟩|⟨cs,e⟩|⟨T,R,e⟩|⟨T,L,r',o',c,e⟩|⟨T,L,r',cs,e⟩|⟨T,L,e⟩|⟨n',k',L,e⟩
 ·exact⟨L.length,by simp[av,hpk,TB.rlen,e],by rw[E6,w9 e];rfl⟩
 ·exact⟨1,by simp[av,hpk,TB.rlen,e],by rw[E6,B7o e];rfl⟩
 ·exact⟨R.length,by simp[av,hpk,TB.rlen,e],by rw[E6,B6C e];rfl⟩
 ·exact⟨L.length,by simp[av,hpk,TB.rlen,e],by rw[E6,B2H e];rfl⟩
 ·exact⟨L.length,by simp[av,hpk,TB.rlen,e],by rw[E6,C2Q e];rfl⟩
 ·exact⟨L.length,by simp[av,hpk,TB.rlen,e],by rw[E6,C1T e];rfl⟩
 ·exact⟨1,by simp[av,hpk,TB.rlen,e],by rw[E6,B7v e];rfl⟩
theorem C4K{hp:THP}{j:Nat}(h:A6v hp j=true):∃ ver,∀ row off,av hp (.ptr j row off)=.ptr j ver row off:=by
 rcases A7R h with⟨T,o,L,e⟩|⟨cs,e⟩|⟨T,R,e⟩|⟨T,L,r',o',c,e⟩|⟨T,L,r',cs,e⟩|⟨T,L,e⟩|⟨n',k',L,e⟩
 ·exact⟨L.length,fun row off=>by simp[av,hpk,TB.rlen,e]⟩
 ·exact⟨1,fun row off=>by simp[av,hpk,TB.rlen,e]⟩
 ·exact⟨R.length,fun row off=>by simp[av,hpk,TB.rlen,e]⟩
 ·exact⟨L.length,fun row off=>by simp[av,hpk,TB.rlen,e]⟩
 ·exact⟨L.length,fun row off=>by simp[av,hpk,TB.rlen,e]⟩
 ·exact⟨L.length,fun row off=>by simp[av,hpk,TB.rlen,e]⟩
 ·exact⟨1,fun row off=>by simp[av,hpk,TB.rlen,e]⟩
theorem C7B(off:Nat)(x:Operand):A0a n t (.fad off x):=by
 intro h;simp only[rd] at h ⊢;simp only[apc,apv,J0];generalize t.ev n x=tx at *
 split at h
 ·rename_i j row o;have h:=h.ok;obtain⟨v,h1,h2⟩:=B3P (n:=n) h row o;obtain⟨v',h3⟩:=C4K h;have:=(h3 row o).symm.trans h1;cases this;simp only[h3];exact⟨h2,trivial⟩
 ·simp only[av];exact⟨trivial,by rw[A1m]⟩
 ·simp only[av];exact⟨trivial,by rw[B6G]⟩
 ·exact h.bad.elim
theorem C7D(sz len:Nat)(x i:Operand):A0a n t (.aad sz len x i):=by
 intro h;simp only[rd] at h ⊢;simp only[apc,apv,J0];generalize t.ev n x=tx at *
 generalize t.ev n i=ti at *
 split at h
 ·rename_i j row o k m;split at h
  ·rename_i n' k' L e;obtain⟨h1,h2⟩:=h.and2;have h1:=h1.ok;have h2:=h2.sm;simp only[F4,A6,D7] at h1 h2;obtain⟨rfl,h3,rfl,rfl⟩:=h1;have e1:∀ o,av t.hp (.ptr j 0 o)=.ptr j 1 0 o:=fun o=>by simp only[av,A7g e]
   have e2:av t.hp (.v (.i k) m)=.val (.int k m):=rfl;rw[e1,e1,e2];refine⟨⟨?_,h2⟩,by simp⟩;show((D2 n t).hp.at j 1).isSome=true;rw[E6,B7v e];rfl
  ·exact h.bad.elim
 ·exact h.bad.elim
theorem C70(x:Operand):A0a n t (.nck x):=by
 intro h;simp only[rd] at h ⊢;simp only[apc,apv,J0];generalize t.ev n x=tx at *
 split at h
 ·rename_i j row o;have h:=h.ok;obtain⟨v,h1,h2⟩:=B3P (n:=n) h row o;simp only[h1];exact⟨h2,trivial⟩
 ·exact⟨trivial,rfl⟩
 ·exact⟨trivial,rfl⟩
 ·exact h.bad.elim
theorem B3U(hp:THP):∀ (T:Ty) (x:Den T) (off m:Nat) (ag:Bool),off+m≤T.sz→0<m→(ag=true∨m=1) →
  av hp (A5N T x off m ag)=if ag then .agg (((cls false T x).drop off).take m) else(cls false T x).getD off .any:=by
 intro T;induction T with
 |i k =>
  intro x off m ag h1 h2 h3;simp only[Ty.sz] at h1;obtain rfl:off=0:=by omega
  obtain rfl:m=1:=by omega
  cases ag<;>rfl
 |bl =>
  intro x off m ag h1 h2 h3;simp only[Ty.sz] at h1;obtain rfl:off=0:=by omega
  obtain rfl:m=1:=by omega
  cases ag<;>rfl
 |tx =>
  intro x off m ag h1 h2 h3;simp only[Ty.sz] at h1;obtain rfl:off=0:=by omega
  obtain rfl:m=1:=by omega
  cases ag<;>rfl
 |sv t _ =>
  intro x off m ag h1 h2 h3;simp only[Ty.sz] at h1;obtain rfl:off=0:=by omega
  obtain rfl:m=1:=by omega
  cases ag<;>rfl
 |sl t ih =>
  intro x off m ag h1 h2 h3;simp only[Ty.sz] at h1;obtain rfl:off=0:=by omega
  obtain rfl:m=1:=by omega
  cases ag<;>rfl
 |ar n k =>
  intro x off m ag h1 h2 h3;simp only[Ty.sz] at h1;have e:cls false (.ar n k) x=arC n k x:=rfl;cases ag with
  |false =>
   obtain rfl:m=1:=by
    rcases h3 with h|h
    ·cases h
    ·exact h
   simp only[A5N,A9,E0,E5];rw[e,B06 (by omega)];rfl
  |true =>
   simp only[A5N,A4,H1];cases hc:(Nat.beq off 0&&Nat.beq m n) with
   |true =>
    simp only[A6,F4] at hc;obtain⟨rfl,rfl⟩:=hc;simp only[A4,N8];rw[e,S0 (by rw[A2D];exact B9 _)];rfl
   |false=>simp only[A9,av,O8,W0,W7,A0u]
 |st t ih =>
  intro x off m ag h1 h2 h3;simp only[A5N];cases hc:(Nat.beq off 0&&(Nat.beq m t.sz&&ag)) with
  |false=>simp only[A9];exact ih x off m ag h1 h2 h3
  |true =>
   simp only[A6,F4] at hc;obtain⟨rfl,rfl,rfl⟩:=hc;simp only[A4,H1,N8];rw[S0 (by rw[O0];exact B9 _)];rfl
 |pr a b iha ihb =>
  intro x off m ag h1 h2 h3;simp only[Ty.sz] at h1;simp only[A5N];cases hc:Nat.ble (off+m) a.sz with
  |true =>
   have hc:=H6 hc;simp only[A4];rw[iha x.1 off m ag hc h2 h3];have hl:=O0 false a x.1;simp only[cls];cases ag with
   |true =>
    simp only[H1];rw[t6 (by omega),t7 (by simp;omega)]
   |false =>
    simp only[E0,E5];simp only[B3];rw[B7 (by omega)]
  |false =>
   simp only[A9];have hc:¬ off+m≤a.sz:=by
    intro h;rw[Nat.ble_eq_true_of_le h] at hc;cases hc
   have hl:=O0 false a x.1;cases hd:Nat.ble a.sz off with
   |true =>
    have hd:=H6 hd;simp only[A4];rw[ihb x.2 (off-a.sz) m ag (by omega) h2 h3];simp only[cls];cases ag with
    |true =>
     simp only[H1];rw[A3h,show List.drop off (cls false a x.1)=[] from O7 (by omega),I2,hl]
    |false =>
     simp only[E0,E5];simp only[B3];rw[B6 (by omega),hl]
   |false =>
    simp only[A9];have hd:¬ a.sz≤off:=by
     intro h;rw[Nat.ble_eq_true_of_le h] at hd;cases hd
    rcases h3 with rfl|rfl
    ·simp only[H1,av,O8,W0,W7,G0,A0u];rfl
    ·omega
theorem ag1{ag:Bool}{m:Nat}(h:(ag||Nat.beq m 1)=true):ag=true∨m=1:=by
 cases ag with
 |true=>exact .inl rfl
 |false=>exact .inr (by simpa using h)
theorem C8i(off m:Nat)(ag:Bool)(x:Operand):A0a n t (.fld off m ag x):=by
 intro h;simp only[rd] at h ⊢;simp only[apc,apv,J0];generalize t.ev n x=tx at *
 split at h
 ·rename_i T x;have h:=h.ok;simp only[A6] at h;have h1:=H6 h.1;have h2:0<m:=by have:=h.2.1;rw[Q5] at this;exact this
  refine⟨?_,?_⟩
  ·show off+m≤(cls false T x).length∧0<m;rw[O0];exact⟨h1,h2⟩
  ·rw[B3U t.hp T x off m ag h1 h2 (ag1 h.2.2)];rfl
 ·rename_i cs;have h:=h.ok;simp only[A6] at h;have h1:=H6 h.1;have h2:0<m:=by have:=h.2;rw[Q5] at this;exact this
  simp only[av,B3R];refine⟨⟨h1,h2⟩,?_⟩;cases ag with
  |true=>simp only[H1,A4,av,B04,B6G]
  |false=>simp only[E0,E5,A9];exact B6F _ _ _
 ·exact h.bad.elim
theorem C73(sz:Nat)(x i:Operand):A0a n t (.iad sz x i):=by
 intro h;simp only[rd] at h ⊢;simp only[apc,apv,J0];generalize t.ev n x=tx at *
 generalize t.ev n i=ti at *
 split at h
 ·rename_i T Lx k m;obtain⟨h1,h2⟩:=h.and2;have h1:=h1.ok;have h2:=h2.sm;simp only[F4,A6,D7] at h1 h2;show((T.sz=sz∨Lx.map (enc false T)=[])∧0≤m∧m<((Lx.map (enc false T)).length:Int))∧AV.ipt ((Lx.map (enc false T)).getD m.toNat .any).cells=.ipt ((cls false T (Lx.getD m.toNat (dft T))).drop 0);rw[C7];refine⟨⟨.inl h1,h2⟩,?_⟩
  rw[A4j (d:=dft T) ((Int.toNat_lt h2.1).2 h2.2),N6,N8]
 ·rename_i j k m;split at h
  ·rename_i T o Lx e;obtain⟨h1,h2⟩:=h.and2;have h1:=h1.ok;have h2:=h2.sm;simp only[F4,A6,D7] at h1 h2;rw[show av t.hp (.own j)=.ref j Lx.length 0 Lx.length from by simp only[av,hpk,TB.rlen,e]];show((match (D2 n t).hp.at j Lx.length with|some b=>b.sz=sz|none=>False)∧0≤m∧m<(Lx.length:Int))∧AV.ptr j Lx.length (0+m.toNat) 0=av t.hp (.ptr j m.toNat 0)
   rw[E6,w9 e];refine⟨⟨h1,h2⟩,?_⟩;simp only[av,hpk,TB.rlen,e,E1]
  ·rename_i T Lx r0 o0 c0 e;obtain⟨h1,h2⟩:=h.and2;have h1:=h1.ok;have h2:=h2.sm;simp only[F4,A6,D7] at h1 h2;rw[show av t.hp (.own j)=.ref j Lx.length 0 Lx.length from by simp only[av,hpk,TB.rlen,e]];show((match (D2 n t).hp.at j Lx.length with|some b=>b.sz=sz|none=>False)∧0≤m∧m<(Lx.length:Int))∧AV.ptr j Lx.length (0+m.toNat) 0=av t.hp (.ptr j m.toNat 0)
   rw[E6,B2H e];refine⟨⟨h1,h2⟩,?_⟩;simp only[av,hpk,TB.rlen,e,E1]
  ·rename_i T Lx r0 cs0 e;obtain⟨h1,h2⟩:=h.and2;have h1:=h1.ok;have h2:=h2.sm;simp only[F4,A6,D7] at h1 h2;rw[show av t.hp (.own j)=.ref j Lx.length 0 Lx.length from by simp only[av,hpk,TB.rlen,e]];show((match (D2 n t).hp.at j Lx.length with|some b=>b.sz=sz|none=>False)∧0≤m∧m<(Lx.length:Int))∧AV.ptr j Lx.length (0+m.toNat) 0=av t.hp (.ptr j m.toNat 0)
   rw[E6,C2Q e];refine⟨⟨h1,h2⟩,?_⟩;simp only[av,hpk,TB.rlen,e,E1]
  ·exact h.bad.elim
 ·rename_i j off len k m;split at h
  ·rename_i T o Lx e;obtain⟨h1,h2⟩:=h.and2;have h1:=h1.ok;have h2:=h2.sm;simp only[F4,A6,D7] at h1 h2;rw[show av t.hp (.sub j off len)=.ref j Lx.length off len from by simp only[av,hpk,TB.rlen,e]];show((match (D2 n t).hp.at j Lx.length with|some b=>b.sz=sz|none=>False)∧0≤m∧m<(len:Int))∧AV.ptr j Lx.length (off+m.toNat) 0=av t.hp (.ptr j (off+m.toNat) 0)
   rw[E6,w9 e];refine⟨⟨h1,h2⟩,?_⟩;simp only[av,hpk,TB.rlen,e]
  ·exact h.bad.elim
 ·exact h.bad.elim
end
end Go.Proofs.YtkmhopbmpeiofaaGreat.Nx
