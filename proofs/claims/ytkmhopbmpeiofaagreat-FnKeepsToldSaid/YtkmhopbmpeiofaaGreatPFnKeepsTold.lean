/- The data that the functions compute, further: for all arguments that memory can hold. -/
import Derived.Test.YtkmhopbmpeiofaaGreatPFnKeepsToldb
set_option linter.unusedVariables false
set_option linter.unusedSimpArgs false
namespace Go.Proofs.YtkmhopbmpeiofaaGreat.C
open Go Go.Proofs.YtkmhopbmpeiofaaGreat.Nx Go.RowKit
set_option linter.unusedVariables false
set_option linter.unusedSimpArgs false
set_option maxRecDepth 100000
instance (k:Nat) (p:Den A0):Decidable (okp k p):=by unfold okp;exact inferInstance
instance (k:Nat) (L:List (Den A0)):Decidable (Y2 k L):=by unfold Y2;exact inferInstance
theorem B9W:A1h.all (fun L=>decide (Y2 0 (A4G L)))=true:=by decide +kernel
theorem C1U{L:List Int}(h:L∈A1h):Y2 0 (A4G L):=by
 have:=B9W;rw[D6] at this;exact I9 (this L h)
theorem B8f:A1h.all (fun L=>B5N (A4G L))=true:=by decide +kernel
def A29(k:Nat)(L:List (Den A0)):Prop:=Y2 k L∧A27 L
theorem C6j{L:List Int}(h:L∈A1h):A29 0 (A4G L):=by
 have:=B8f;rw[D6] at this;exact⟨C1U h,C77 (this L h)⟩
theorem A29.more{k k':Nat}(hk:k≤k'){L:List (Den A0)}(h:A29 k L):A29 k' L:=⟨h.1.more hk,h.2⟩
theorem C2w{N k:Nat}(hN:Big N)(hk:k≤1048576)(L:List (Den A0))(h:A29 k L)(id by_:Int)(hid:0≤id∧id≤255):∃ q,A09 N L id by_=some q∧A29 k q.1:=by
 obtain⟨q,e,hq⟩:=B7S hN hk L h.1 id by_ hid;have e2:=B0K hN L (h.1.f hk) h.1.2.1 id by_;rw[e] at e2;have:=P3 e2;subst this;exact⟨_,e,hq,C3d hk h.1 h.2 id by_⟩
theorem C51{N k:Nat}(hN:Big N)(hk:k≤1048576)(L:List (Den A0))(h:A29 k L)(id:Int):∃ q,A3J N L id=some q∧A29 k q.1:=by
 obtain⟨q,e,hq⟩:=C1m hN hk L h.1 id;have e2:=A9i hN L (h.1.f hk) h.1.2.1 id;rw[e] at e2;have:=P3 e2;subst this;exact⟨_,e,hq,C8y hk h.1 h.2 id⟩
theorem B7T{N k:Nat}(hN:Big N)(hk:k≤1048576)(L:List (Den A0))(h:A29 k L)(id:Int):∃ q,A4x N L id=some q∧A29 k q.1:=by
 obtain⟨q,e,hq⟩:=B4P hN hk L h.1 id;have e2:=A8I hN L (h.1.f hk) id;rw[e] at e2;have:=P3 e2;subst this;exact⟨_,e,hq,B9h hk h.1 h.2 id⟩
theorem C1K{N k:Nat}(hN:Big N)(hk:k≤1048576)(L:List (Den A0))(h:A29 k L)(id:Int):∃ q,A5h N L id=some q∧A29 k q.1:=by
 obtain⟨q,e,hq⟩:=B7R hN hk L h.1 id;have e2:=A6Q hN L (h.1.f hk).1 id;rw[e] at e2;have:=P3 e2;subst this;exact⟨_,e,hq,C3V hk h.1 h.2 id⟩
theorem C0g{N k:Nat}(hN:Big N)(hk:k≤1000)(L:List (Den A0))(h:A29 k L)(by_ key:Int)(list:List (Den A8))(hl:oki 1 list):∃ q,a9 N L by_ key list=some q∧A29 (k+4) q.1 :=
 B63 hN hk L h.1 by_ key list hl A27 (fun a j hj q hK h1 h2 h3 h4=>by
  refine B3b hK hj ?_ h1 (fun e=>by rw[h2];exact e) (fun e=>by rw[h3];exact hK.kn _ (C2 hj) (by rw[← h2];exact e));rcases h4 with rfl|h4
  ·exact hK.ok _ (C2 hj)
  ·exact h4) h.2
theorem B3r(N:Nat)(c:Den M7)(h:okC c)(n:Int)(hn:0<n):∃ b c',f9 N c n=some (b,c',())∧okC c':=by
 obtain⟨x,c',e,_,_,hc⟩:=f6 N c h n hn;unfold f9;rw[e];exact⟨_,c',rfl,hc⟩
theorem B6v(N:Nat)(c:Den M7)(h:okC c)(l:List ByteArray)(hl:0<l.length):∃ x c',j3 N c l=some (x,c',())∧x∈l∧okC c':=by
 obtain⟨x,c',e,h0,h1,hc⟩:=f6 N c h (l.length:Int) (by omega);unfold j3;rw[e];simp only[A3];rw[dT h0,dT h1];refine⟨_,c',rfl,?_,hc⟩;rw[B3,D1 (by omega)];exact C2 _
open Go Go.Proofs.YtkmhopbmpeiofaaGreat.Nx Go.RowKit
set_option linter.unusedVariables false
set_option linter.unusedSimpArgs false
def Two(L:List (Den A0)):Prop:=∃ i j,∃ hi:i<L.length,∃ hj:j<L.length,i≠j∧(L[i]).2.1=true∧(L[j]).2.1=true
structure C33 (L:List (Den A0)):Prop where
 f:V4 L
 len:3≤L.length
 nd:(L.map fun p=>p.1).Nodup
 two:Two L
theorem C6Z{L:List (Den A0)}(hl:4≤L.length)(hb:∀ i (hi:i<L.length),i<4->(L[i]).2.1=true)(j:Nat)(q:Den A0):Two (L.set j q):=by
 have one:∀ m,m<3->m≠j->∃ hm:m<(L.set j q).length,((L.set j q)[m]).2.1=true:=fun m h1 h2=>by
  refine⟨by rw[G1];omega,?_⟩;rw[A0G (fun e=>h2 e.symm)];exact hb m (by omega) (by omega)
 by_cases h0:j=0
 ·obtain⟨a,b⟩:=one 1 (by omega) (by omega);obtain⟨c,d⟩:=one 2 (by omega) (by omega);exact⟨1,2,a,c,by omega,b,d⟩
 ·obtain⟨a,b⟩:=one 0 (by omega) (by omega);by_cases h1:j=1
  ·obtain⟨c,d⟩:=one 2 (by omega) (by omega);exact⟨0,2,a,c,by omega,b,d⟩
  ·obtain⟨c,d⟩:=one 1 (by omega) (by omega);exact⟨0,1,a,c,by omega,b,d⟩
open Go Go.Proofs.YtkmhopbmpeiofaaGreat.Nx Go.RowKit
set_option linter.unusedVariables false
set_option linter.unusedSimpArgs false
theorem A8O{N:Nat}(hN:Big N)(L:Den (.sl I))(h:okz (.sl I) L):B2B N L L=some true :=
 B3s h (f:=fun y z=>some (decide (y=z))) (fun y hy=>by simp) hN (fun _ _ _ _=>rfl)
theorem A5i{N:Nat}(hN:Big N)(L:Den (.sl A8))(h:okz (.sl A8) L):A8n N L L=some true :=
 B3s h (f:=fun y z=>some (decide (y.1=z.1)&&(y.2==z.2))) (fun y hy=>by simp) hN (fun _ _ _ _=>rfl)
theorem B4s{N:Nat}(hN:Big N)(p:Den A0)(h:okz A0 p):B0v N p p=some true:=by
 obtain⟨_,_,_,h4,h5,h6⟩:=h;have hN':1099511627776≤N:=hN;have hl:=h6.1;unfold B0v;rw[A8O hN _ h4,A8O hN _ h5];simp only[Z6,N7,A9,A0D,A3];exact S3 (B:=A8g N (fun _=>some true) (fun ρ4=>some (ρ4))) (A:=Unit) (fun i _=>(p,p,(i:Int))) (fun i _ r=>r=some true) (List.length (α:=Den A7) p.2.2.2.2.2)
  (fun i a rec_ hi ih=>by
   have hs:=h6.2 _ (C2 hi);show(bif _ then _ else _)=_;rw[E3 (α:=Den A7) p.2.2.2.2.2 hi,E2 i,I5 (B9 i) (by omega),F2 (α:=Den A7) p.2.2.2.2.2 hi,A5i hN _ hs.2];simp only[D0,A4,Z6,N7,A9,A3];exact ih ())
  (fun a rec_=>by
   show(bif _ then _ else _)=_;rw[Y5 (α:=Den A7) p.2.2.2.2.2];rfl) N (by omega) ()
theorem A9S{N:Nat}(hN:Big N)(L:Den C4)(h:okz C4 L):B1Z N L L=some true :=
 B3s h (f:=B0v N) (fun y hy=>B4s hN y hy) hN (fun _ _ _ _=>rfl)
theorem B7k{L:List (Den A0)}(hF:V4 L)(id:Int):okz C4 (Y3 L id).1:=by
 unfold Y3;cases decide (B8 id 0 L<4) with
 |true=>exact hF.1
 |false =>
  simp only[A9];cases (L.set (B8 id 0 L).toNat (id,false,(0:Int),[],[],[])).any (A1L (L.set (B8 id 0 L).toNat (id,false,(0:Int),[],[],[]))) with
  |true=>exact hF.1
  |false=>exact B8z hF.1 ⟨trivial,trivial,trivial,⟨by simp,fun _ h=>by cases h⟩,⟨by simp,fun _ h=>by cases h⟩,⟨by simp,fun _ h=>by cases h⟩⟩ _
open Go Go.Proofs.YtkmhopbmpeiofaaGreat.Nx Go.RowKit
set_option linter.unusedVariables false
set_option linter.unusedSimpArgs false
def S1(p:Den A0)(key:Int)(list:List (Den A8)):Den A0×Bool:=A1y p (X9 key (K7 (P9 key p.2.2.2.2.2) list) p.2.2.2.2.2)
theorem A6y{N:Nat}(hN:Big N)(p:Den A0)(hp:okz A0 p)(key:Int)(list:List (Den A8))(hl:list.length≤1048576):A1Q N p key list=some (S1 p key list):=C3G hN p hp key list hl
theorem A8N{N:Nat}(hN:Big N)(hN2:4398046511104<N)(p:Den A0)(hp:okz A0 p)(key:Int)(list:List (Den A8))(hl:list.length≤1048576):A5k N p key list=some (S1 p key list):=by
 rw[C42 hN hN2 p hp key list hl,B1k];rfl
theorem A6b(p:Den A0)(key:Int)(list:List (Den A8)):∃ T,(S1 p key list).1=M4 p T:=by
 unfold S1 A1y;cases R4 (M4 p (X9 key (K7 (P9 key p.2.2.2.2.2) list) p.2.2.2.2.2)) with
 |true=>exact⟨_,rfl⟩
 |false=>exact⟨p.2.2.2.2.2,rfl⟩
def y8(key:Int)(list:List (Den A8))(a:List (Den A0)×Int)(x:Int):List (Den A0)×Int :=
 bif (S1 (a.1.getD (B8 x 0 a.1).toNat (dft A0)) key list).2 then(a.1.set (B8 x 0 a.1).toNat (S1 (a.1.getD (B8 x 0 a.1).toNat (dft A0)) key list).1,a.2+1) else a
theorem B2r{a:List (Den A0)×Int}(hF:V4 a.1)(key:Int)(list:List (Den A8)){x:Int}(hx:0≤B8 x 0 a.1) :
  ∃ j,∃ hj:j<a.1.length,B8 x 0 a.1=(j:Int)∧(y8 key list a x=bif (S1 a.1[j] key list).2 then(a.1.set j (S1 a.1[j] key list).1,a.2+1) else a)∧V4 (a.1.set j (S1 a.1[j] key list).1)∧(∀ n,B8 n 0 (a.1.set j (S1 a.1[j] key list).1)=B8 n 0 a.1):=by
 obtain⟨j,hj,e1,e2,e3⟩:=S4 hx;have hg:a.1.getD j (dft A0)=a.1[j]:=F2 a.1 hj (dft A0);obtain⟨T,hT⟩:=A6b a.1[j] key list;refine⟨j,hj,e1,?_,?_,fun n => ?_⟩
 ·unfold y8;rw[e1,C6,hg]
 ·refine hF.set hj (A51 (hF.1.2 _ (C2 hj)) _) (by rw[hT];rfl) ?_;rw[hT];exact(hF.2 _ (C2 hj)).2.2
 ·exact A2T n a.1 0 j _ fun _=>by rw[hT];exact⟨rfl,rfl⟩
def Y0(L:List (Den A0))(by_ key:Int)(list:List (Den A8)):List (Den A0)×(Int×List Int) :=
 bif (M5 L key 65 by_ 0).2 then(((S8 L (M5 L key 65 by_ 0).1.1).foldl (y8 key list) (L,0)).1,((S8 L (M5 L key 65 by_ 0).1.1).foldl (y8 key list) (L,0)).2,S8 L (M5 L key 65 by_ 0).1.1) else(L,0,[])
def A9Z(L:List (Den A0))(i:Nat)(a:List (Den A0)×Int):Prop:=V4 a.1∧(∀ n,B8 n 0 a.1=B8 n 0 L)∧0≤a.2∧a.2≤(i:Int)
theorem A9Z.next{L:List (Den A0)}{i:Nat}{a:List (Den A0)×Int}(h:A9Z L i a)(key:Int)(list:List (Den A8)){x:Int}(hx:0≤B8 x 0 L):A9Z L (i+1) (y8 key list a x):=by
 obtain⟨h1,h2,h3,h4⟩:=h;obtain⟨j,hj,e1,e2,e3,e4⟩:=B2r h1 key list (x:=x) (by rw[h2];exact hx);rw[e2];cases (S1 a.1[j] key list).2 with
 |true=>exact⟨e3,fun n=>(e4 n).trans (h2 n),by show 0≤a.2+1;omega,by show a.2+1≤((i+1:Nat):Int);omega⟩
 |false=>exact⟨h1,h2,h3,by show a.2≤((i+1:Nat):Int);omega⟩
theorem B1W{N:Nat}(hN:Big N)(L:List (Den A0))(hF:V4 L)(by_ key:Int)(list:List (Den A8))(hl:list.length≤1048576) :
  A9l N L by_ key list=some (((Y0 L by_ key list).2.1,(Y0 L by_ key list).2.2),(Y0 L by_ key list).1,(),(),()):=by
 have hN':=y5 hN;unfold A9l Y0;rw[A1q hN L hF,A3];cases (M5 L key 65 by_ 0).2 with
 |false=>rfl
 |true =>
  simp only[N7,A9,A4];rw[A1k hN L hF.1,A3];have hh:=z9 L (M5 L key 65 by_ 0).1.1;have hHl:=A54 L hF.1 (M5 L key 65 by_ 0).1.1;generalize S8 L (M5 L key 65 by_ 0).1.1=H at hh hHl
  have kk:=S3 (B:=A10 N (fun (x6,x7,x8)=>some ((x7,x8),x6,(),(),())) (fun ρ9=>some (ρ9))) (A:=List (Den A0)×Int) (fun i a=>(a.1,key,list,a.2,H,(i:Int))) (fun i a r=>A9Z L i a->r=some ((((H.drop i).foldl (y8 key list) a).2,H),((H.drop i).foldl (y8 key list) a).1,(),(),())) H.length
   (fun i a rec_ hi ih hI=>by
    have hx:=hh _ (C2 hi);have hnx:=hI.next key list hx;obtain⟨a,c⟩:=a;obtain⟨h1,h2,h3,h4⟩:=hI;simp only at h1 h2 h3 h4;rw[← h2] at hx;obtain⟨j,hj,e1,e2,e3,e4⟩:=B2r (a:=(a,c)) h1 key list hx;simp only at hj e1 e2;show(bif _ then _ else _)=_
    rw[E3 H hi,E2 i,F2 H hi,I5 (B9 i) (by omega),Q8 hN a h1.1,A3,e1,E2 j,E3 a hj,F2 a hj,C6,W3,w64 (x:=c+1) (by omega) (by omega)];have hself:(a.set j ((a[j]).1,(a[j]).2.1,(a[j]).2.2.1,(a[j]).2.2.2.1,(a[j]).2.2.2.2.1,(a[j]).2.2.2.2.2))=a:=O4 hj;simp only[D0,A4]
    rw[hself,E3 a hj];have eq':A1Q N ((a[j]).1,(a[j]).2.1,(a[j]).2.2.1,(a[j]).2.2.2.1,(a[j]).2.2.2.2.1,(a[j]).2.2.2.2.2) key list=some (S1 a[j] key list):=A6y hN _ (h1.1.2 _ (C2 hj)) key list hl;rw[eq',A3,X3 hi,Q1];simp only[D0,A4];rw[e2] at hnx ⊢;cases hp:(S1 a[j] key list).2 with
    |false=>rw[hp] at hnx;exact ih (a,c) hnx
    |true=>rw[hp] at hnx;exact ih (a.set j (S1 a[j] key list).1,c+1) hnx)
   (fun a rec_ hI=>by
    show(bif _ then _ else _)=_;rw[Y5 H,Q9];rfl)
   N (by omega) (L,0)
  have:=kk ⟨hF,fun _=>rfl,by simp,by simp⟩;rw[N8] at this;have e':D4 (A10 N (fun (x6,x7,x8)=>some ((x7,x8),x6,(),(),())) (fun ρ9=>some (ρ9))) N (L,key,list,(0:Int),H,(0:Int))=_:=this;rw[e'];rfl
theorem A81{N:Nat}(hN:Big N)(L:List (Den A0))(hF:V4 L)(by_ key:Int)(list:List (Den A8))(hl:list.length≤1048576) :
  a9 N L by_ key list=some ((Y0 L by_ key list).1,(Y0 L by_ key list).2.1):=by
 unfold a9;rw[p7 hN L hF.1,A3,B1W hN L hF by_ key list hl,A3]
theorem B1M{N:Nat}(hN:Big N)(L:List (Den A0))(hF:V4 L)(by_ key:Int)(list:List (Den A8))(hl:list.length≤1048576) :
  B16 N L by_ key list=some (((Y0 L by_ key list).2.1,(Y0 L by_ key list).2.2),(Y0 L by_ key list).1,(),(),()):=by
 have hN':=y5 hN;unfold B16 Y0;rw[A1q hN L hF,A3];cases (M5 L key 65 by_ 0).2 with
 |false=>rfl
 |true =>
  simp only[N7,A9,A4];rw[A1k hN L hF.1,A3];have hh:=z9 L (M5 L key 65 by_ 0).1.1;have hHl:=A54 L hF.1 (M5 L key 65 by_ 0).1.1;generalize S8 L (M5 L key 65 by_ 0).1.1=H at hh hHl
  have kk:=S3 (B:=A4K N (fun (x5,x6,x7)=>some ((x6,x7),x5,(),(),())) (fun ρ8=>some (ρ8))) (A:=List (Den A0)×Int) (fun i a=>(a.1,key,list,a.2,H,(i:Int))) (fun i a r=>A9Z L i a->r=some ((((H.drop i).foldl (y8 key list) a).2,H),((H.drop i).foldl (y8 key list) a).1,(),(),())) H.length
   (fun i a rec_ hi ih hI=>by
    have hx:=hh _ (C2 hi);have hnx:=hI.next key list hx;obtain⟨a,c⟩:=a;obtain⟨h1,h2,h3,h4⟩:=hI;simp only at h1 h2 h3 h4;rw[← h2] at hx;obtain⟨j,hj,e1,e2,e3,e4⟩:=B2r (a:=(a,c)) h1 key list hx;simp only at hj e1 e2;show(bif _ then _ else _)=_;have hgd:List.getD (α:=Den Z3) a j (dft Z3)=a[j]:=F2 (α:=Den A0) a hj _
    rw[E3 H hi,E2 i,F2 H hi,I5 (B9 i) (by omega),Q8 hN a h1.1,A3,e1,E2 j,E3 a hj,C6,hgd,w64 (x:=c+1) (by omega) (by omega)];simp only[D0,A4];have eq':A1Q N a[j] key list=some (S1 a[j] key list):=A6y hN _ (h1.1.2 _ (C2 hj)) key list hl
    rw[eq',A3,X3 hi,Q1];rw[e2] at hnx ⊢;cases hp:(S1 a[j] key list).2 with
    |false=>rw[hp] at hnx;exact ih (a,c) hnx
    |true=>rw[hp] at hnx;exact ih (a.set j (S1 a[j] key list).1,c+1) hnx)
   (fun a rec_ hI=>by
    show(bif _ then _ else _)=_;rw[Y5 H,Q9];rfl)
   N (by omega) (L,0)
  have:=kk ⟨hF,fun _=>rfl,by simp,by simp⟩;rw[N8] at this;have e':D4 (A4K N (fun (x5,x6,x7)=>some ((x6,x7),x5,(),(),())) (fun ρ8=>some (ρ8))) N (L,key,list,(0:Int),H,(0:Int))=_:=this;rw[e'];rfl
theorem A9W{N:Nat}(hN:Big N)(hN2:4398046511104<N)(L:List (Den A0))(hF:V4 L)(by_ key:Int)(list:List (Den A8))(hl:list.length≤1048576) :
  B2e N L by_ key list=some ((Y0 L by_ key list).1,(Y0 L by_ key list).2.1):=by
 have hN':=y5 hN;unfold B2e Y0;rw[A0r hN L hF.1,A3,A9J hN L hF,A3];cases (M5 L key 65 by_ 0).2 with
 |false=>rfl
 |true =>
  simp only[N7,A9,A4];rw[A2z hN L hF.1,A3];have hh:=z9 L (M5 L key 65 by_ 0).1.1;have hHl:=A54 L hF.1 (M5 L key 65 by_ 0).1.1;generalize S8 L (M5 L key 65 by_ 0).1.1=H at hh hHl
  have kk:=S3 (B:=A7K N (fun (x7,x8,x9)=>some (x8,x9)) (fun ρ10=>some (ρ10))) (A:=List (Den A0)×Int) (fun i a=>(key,list,[],a.1,a.2,H,(H.length:Int),(i:Int))) (fun i a r=>A9Z L i a->r=some (((H.drop i).foldl (y8 key list) a).1,((H.drop i).foldl (y8 key list) a).2)) H.length
   (fun i a rec_ hi ih hI=>by
    have hx:=hh _ (C2 hi);have hnx:=hI.next key list hx;obtain⟨a,c⟩:=a;obtain⟨h1,h2,h3,h4⟩:=hI;simp only at h1 h2 h3 h4;rw[← h2] at hx;obtain⟨j,hj,e1,e2,e3,e4⟩:=B2r (a:=(a,c)) h1 key list hx;simp only at hj e1 e2;show(bif _ then _ else _)=_
    rw[E3 H hi,E2 i,F2 H hi,I5 (B9 i) (by omega),W6 hN a h1.1,A3,e1,E2 j,E3 a hj,F2 a hj,C6,W3,w64 (x:=c+1) (by omega) (by omega)];have hself:(a.set j ((a[j]).1,(a[j]).2.1,(a[j]).2.2.1,(a[j]).2.2.2.1,(a[j]).2.2.2.2.1,(a[j]).2.2.2.2.2))=a:=O4 hj;simp only[D0,A4]
    rw[hself,E3 a hj];have eq':A5k N ((a[j]).1,(a[j]).2.1,(a[j]).2.2.1,(a[j]).2.2.2.1,(a[j]).2.2.2.2.1,(a[j]).2.2.2.2.2) key list=some (S1 a[j] key list):=A8N hN hN2 _ (h1.1.2 _ (C2 hj)) key list hl;rw[eq',A3,X3 hi,Q1];simp only[D0,A4];rw[e2] at hnx ⊢;cases hp:(S1 a[j] key list).2 with
    |false=>rw[hp] at hnx;exact ih (a,c) hnx
    |true=>rw[hp] at hnx;exact ih (a.set j (S1 a[j] key list).1,c+1) hnx)
   (fun a rec_ hI=>by
    show(bif _ then _ else _)=_;rw[Y5 H,Q9];rfl)
   N (by omega) (L,0)
  have:=kk ⟨hF,fun _=>rfl,by simp,by simp⟩;rw[N8] at this;exact this
open Go Go.Proofs.YtkmhopbmpeiofaaGreat.Nx Go.RowKit
set_option linter.unusedVariables false
set_option linter.unusedSimpArgs false
theorem A9P(L:List (Den A0)):∀ (xs out:List Int),out.length≤3->(z8 L out xs).length≤3
 |[],out,h=>h
 |x :: xs,out,h=>by
  unfold z8;cases hb:(decide (0≤B8 x 0 L)&&(!(out.any fun y=>decide (y=x))&&decide ((out.length:Int)<3))) with
  |false=>exact A9P L xs out h
  |true =>
   simp only[A6,D7] at hb;refine A9P L xs _ ?_;simp only[A5,B5,C8];omega
theorem A2i(L:List (Den A0))(n:Int):(S8 L n).length≤3:=by
 unfold S8;cases decide (B8 n 0 L<0) with
 |true=>simp
 |false=>exact A9P L _ [n] (by simp)
def B9G(L:List (Den A0)):Prop:=∀ p∈L,∀ s∈p.2.2.2.2.2,List.length (α:=Den A8) s.2≤300000
theorem A5d{key:Int}{K:Nat}:∀ {L:List (Den A7)},(∀ s∈L,List.length (α:=Den A8) s.2≤K)->(P9 key L).length≤K
 |[],_=>by simp[P9]
 |s :: ss,h=>by
  unfold P9;cases decide (s.1=key) with
  |true=>exact h s (by simp)
  |false=>exact A5d fun s hs=>h s (by simp[hs])
def A55(L:List (Den A0))(key:Int)(acc:List (Den A8))(x:Int):List (Den A8):=K7 acc (P9 key (L.getD (B8 x 0 L).toNat (dft A0)).2.2.2.2.2)
def A7l(L:List (Den A0))(by_ key:Int):List (Den A8)×Bool :=
 bif (M5 L key 65 by_ 0).2 then((S8 L (M5 L key 65 by_ 0).1.1).foldl (A55 L key) [],true) else([],false)
theorem B8W{L:List (Den A0)}(hS:B9G L)(key:Int)(acc:List (Den A8)){x:Int}(hx:0≤B8 x 0 L):(A55 L key acc x).length≤acc.length+300000:=by
 obtain⟨j,hj,e1,_,_⟩:=S4 hx;unfold A55 K7;rw[e1,F2 L hj];have h1:=A1H (acc++P9 key (L[j]).2.2.2.2.2) [];have h2:=A5d (key:=key) (hS _ (C2 hj));simp only[C8,A5] at h1;omega
theorem B9A{N:Nat}(hN:Big N)(L:List (Den A0))(hF:V4 L)(hS:B9G L)(by_ key:Int):B5k N L by_ key=some (A7l L by_ key):=by
 have hN':=y5 hN;unfold B5k A7l;rw[A1q hN L hF,A3];cases (M5 L key 65 by_ 0).2 with
 |false=>rfl
 |true =>
  simp only[N7,A9,A4];rw[A1k hN L hF.1,A3];have hh:=z9 L (M5 L key 65 by_ 0).1.1;have h3:=A2i L (M5 L key 65 by_ 0).1.1;generalize S8 L (M5 L key 65 by_ 0).1.1=H at hh h3
  have kk:=S3 (B:=A7T N (fun x6=>some (x6,true)) (fun ρ7=>some (ρ7))) (A:=List (Den A8)) (fun i a=>(key,L,a,H,(i:Int))) (fun i a r=>a.length≤300000*i->r=some ((H.drop i).foldl (A55 L key) a,true)) H.length
   (fun i a rec_ hi ih ha=>by
    have hx:=hh _ (C2 hi);have hnx:=B8W hS key a hx;obtain⟨j,hj,e1,e2,e3⟩:=S4 hx;have hpz:=hF.1.2 _ (C2 hj);have hfl:=A5d (key:=key) (hS _ (C2 hj));show(bif _ then _ else _)=_;rw[E3 H hi,E2 i,F2 H hi,I5 (B9 i) (by omega),Q8 hN L hF.1,A3,X3 hi,Q1]
    have eA:A55 L key a H[i]=K7 a (P9 key (L[j]).2.2.2.2.2):=by unfold A55;rw[e1,F2 L hj]
    rw[eA] at hnx ⊢;rw[e1,E2 j,E3 L hj,F2 L hj,A52 hN _ hpz key,A3,A4F hN a _ (by omega) (by omega),A3];exact ih _ (by omega))
   (fun a rec_ ha=>by
    show(bif _ then _ else _)=_;rw[Y5 H,Q9];rfl)
   N (by omega) []
  have:=kk (by simp);rw[N8] at this;exact this
theorem C0t{N:Nat}(hN:Big N)(hN2:4398046511104<N)(L:List (Den A0))(hF:V4 L)(hS:B9G L)(by_ key:Int):C0o N L by_ key=some (A7l L by_ key):=by
 have hN':=y5 hN;unfold C0o A7l;rw[A9J hN L hF,A3];cases (M5 L key 65 by_ 0).2 with
 |false=>rfl
 |true =>
  simp only[N7,A9,A4];rw[A2z hN L hF.1,A3];have hh:=z9 L (M5 L key 65 by_ 0).1.1;have h3:=A2i L (M5 L key 65 by_ 0).1.1;generalize S8 L (M5 L key 65 by_ 0).1.1=H at hh h3
  have kk:=S3 (B:=B0o N (fun x6=>some (x6,true)) (fun ρ7=>some (ρ7))) (A:=List (Den A8)) (fun i a=>(key,L,a,H,(H.length:Int),(i:Int))) (fun i a r=>a.length≤300000*i->r=some ((H.drop i).foldl (A55 L key) a,true)) H.length
   (fun i a rec_ hi ih ha=>by
    have hx:=hh _ (C2 hi);have hnx:=B8W hS key a hx;obtain⟨j,hj,e1,e2,e3⟩:=S4 hx;have hpz:=hF.1.2 _ (C2 hj);have hfl:=A5d (key:=key) (hS _ (C2 hj));show(bif _ then _ else _)=_;rw[E3 H hi,E2 i,F2 H hi,I5 (B9 i) (by omega),W6 hN L hF.1,A3,X3 hi,Q1]
    have eA:A55 L key a H[i]=K7 a (P9 key (L[j]).2.2.2.2.2):=by unfold A55;rw[e1,F2 L hj]
    rw[eA] at hnx ⊢;rw[e1,E2 j,E3 L hj,F2 L hj,A9D hN _ hpz key,A3,A2V hN2 a _ (by omega) (by omega),A3];exact ih _ (by omega))
   (fun a rec_ ha=>by
    show(bif _ then _ else _)=_;rw[Y5 H,Q9];rfl)
   N (by omega) []
  have:=kk (by simp);rw[N8] at this;exact this
def A0E(p:Den A0)(S:List (Den A7)):Den A0:=S.foldl (fun p s=>(S1 p s.1 s.2).1) p
theorem B2M:∀ (S:List (Den A7)) (p:Den A0),∃ T,A0E p S=M4 p T
 |[],p=>⟨p.2.2.2.2.2,rfl⟩
 |s :: ss,p=>by
  obtain⟨T,hT⟩:=A6b p s.1 s.2;obtain⟨T',hT'⟩:=B2M ss (S1 p s.1 s.2).1;refine⟨T',?_⟩;show A0E (S1 p s.1 s.2).1 ss=_;rw[hT',hT];rfl
theorem A83:∀ (S:List (Den A7)) {p:Den A0},okz A0 p->okz A0 (A0E p S)
 |[],_,h=>h
 |s :: ss,p,h=>A83 ss (A51 h _)
theorem B6Q{p:Den A0}{key:Int}{list:List (Den A8)}(h:(S1 p key list).2=false):(S1 p key list).1=p:=by
 unfold S1 A1y at *
 cases hb:R4 (M4 p (X9 key (K7 (P9 key p.2.2.2.2.2) list) p.2.2.2.2.2)) with
 |true=>rw[hb] at h;cases h
 |false=>rfl
theorem A8R(n:Int):∀ (L:List (Den A0)) (i j:Nat) (q:Den A0),(∀ hj:j<L.length,(q.2.1&&decide (q.1=n))=((L[j]).2.1&&decide ((L[j]).1=n)))->B8 n i (L.set j q)=B8 n i L
 |[],_,_,_,_=>rfl
 |p :: ps,i,0,q,h=>by
  have:=h (by simp);simp only[A2Y] at this;rw[A2k];unfold B8;rw[this]
 |p :: ps,i,j+1,q,h=>by
  rw[A4Z];unfold B8;rw[A8R n ps (i+1) j q (fun hj=>by have:=h (by simpa using hj);simpa using this)]
theorem A9V{α:Type}{f:α->Bool}:∀ (X:List α) (m:Nat) (q:α),(∀ hm:m<X.length,f q=f X[m])->(X.set m q).any f=X.any f
 |[],_,_,_=>rfl
 |x :: xs,0,q,h=>by
  have:=h (by simp);simp only[A2Y] at this;rw[A2k,P6,P6,this]
 |x :: xs,m+1,q,h=>by
  rw[A4Z,P6,P6,A9V xs m q fun hm=>by have:=h (by simpa using hm);simpa using this]
theorem C3P{X:List (Den A0)}{m:Nat}(hm:m<X.length)(T:List (Den A7)):(X.set m (M4 X[m] T)).any (A1L (X.set m (M4 X[m] T)))=X.any (A1L X):=by
 have h1:∀ n,B8 n 0 (X.set m (M4 X[m] T))=B8 n 0 X:=fun n=>A2T n X 0 m _ fun _=>⟨rfl,rfl⟩;have h2:∀ l,A0i (X.set m (M4 X[m] T)) l=A0i X l:=fun l=>by unfold A0i;simp only[h1]
 have h3:A1L (X.set m (M4 X[m] T))=A1L X:=funext fun p=>by unfold A1L;rw[h2]
 rw[h3];exact A9V X m _ fun _=>rfl
theorem C2t{L:List (Den A0)}{m:Nat}(hm:m<L.length)(T:List (Den A7)){id:Int}(hne:∀ j:Nat,B8 id 0 L=(j:Int)->j≠m)(h0:0≤B8 id 0 L) :
  Y3 (L.set m (M4 L[m] T)) id=bif (Y3 L id).2 then((Y3 L id).1.set m (M4 L[m] T),true) else(L.set m (M4 L[m] T),false):=by
 have h1:B8 id 0 (L.set m (M4 L[m] T))=B8 id 0 L:=A2T id L 0 m _ fun _=>⟨rfl,rfl⟩;unfold Y3;rw[h1];cases decide (B8 id 0 L<4) with
 |true=>rfl
 |false =>
  simp only[A9];obtain⟨j,e⟩:∃ j:Nat,B8 id 0 L=(j:Int):=⟨(B8 id 0 L).toNat,by omega⟩;have hjm:=hne j e;rw[e,C6,List.set_comm _ _ (fun h=>hjm h.symm)];have hX:m<(L.set j (id,false,(0:Int),[],[],[])).length:=by rw[G1];exact hm
  have hXm:(L.set j (id,false,(0:Int),[],[],[]))[m]=L[m]:=A0G hjm _;have:=C3P hX T;rw[hXm] at this;rw[this];cases (L.set j (id,false,(0:Int),[],[],[])).any (A1L (L.set j (id,false,(0:Int),[],[],[]))) with
  |true=>rfl
  |false=>rfl
def B0l(L:List (Den A0))(id:Int):List (Den A0)×Bool :=
 bif decide (B8 id 0 L<0) then(L,false) else
 bif (Y3 L id).2 then
  (bif decide (0≤B8 (F7 L id) 0 L) then((Y3 L id).1.set (B8 (F7 L id) 0 L).toNat (A0E (L.getD (B8 (F7 L id) 0 L).toNat (dft A0)) (L.getD (B8 id 0 L).toNat (dft A0)).2.2.2.2.2),true) else((Y3 L id).1,true))
 else(L,false)
theorem B57{L:List (Den A0)}{id:Int}(h:(Y3 L id).2=false):(Y3 L id).1=L:=by
 unfold Y3 at *
 cases h1:decide (B8 id 0 L<4) with
 |true=>rfl
 |false =>
  rw[h1] at h;simp only[A9] at h ⊢;cases h2:(L.set (B8 id 0 L).toNat (id,false,(0:Int),[],[],[])).any (A1L (L.set (B8 id 0 L).toNat (id,false,(0:Int),[],[],[]))) with
  |true=>rfl
  |false=>rw[h2] at h;cases h
theorem B4g{L:List (Den A0)}{id:Int}(h:(Y3 L id).2=true):(Y3 L id).1=L.set (B8 id 0 L).toNat (id,false,(0:Int),[],[],[]):=by
 unfold Y3 at *
 cases h1:decide (B8 id 0 L<4) with
 |true=>rw[h1] at h;cases h
 |false =>
  rw[h1] at h;simp only[A9] at h ⊢;cases h2:(L.set (B8 id 0 L).toNat (id,false,(0:Int),[],[],[])).any (A1L (L.set (B8 id 0 L).toNat (id,false,(0:Int),[],[],[]))) with
  |true=>rw[h2] at h;cases h
  |false=>rfl
theorem C1W{N:Nat}(hN:Big N)(hN2:4398046511104<N)(L:List (Den A0))(hF:V4 L)(id:Int):C0D N L id=some (B0l L id):=by
 have hN':=y5 hN;unfold C0D B0l;rw[W6 hN L hF.1,A3,A0r hN L hF.1,A3];by_cases h0:B8 id 0 L<0
 ·rw[dT h0];rfl
 ·rw[dF h0];obtain⟨j,hj,e1,e2,e3⟩:=S4 (L:=L) (n:=id) (by omega);simp only[A9,A3];rw[B0B hN L hF.1,A3,W6 hN L hF.1,A3,e1,E2 j,E3 L hj,F2 L hj];by_cases h1:0≤B8 (F7 L id) 0 L
  ·rw[dT h1];obtain⟨m,hm,f1,f2,f3⟩:=S4 h1;have hin:=A0O hF h1;have hnx:=(A3z hF (id:=id) hin.1).2.2.1;have hjm:j≠m:=fun e=>by subst e;exact hnx (f2.symm.trans e2)
   have hgdm:List.getD (α:=Den A0) L m (dft A0)=L[m]:=F2 L hm (dft A0);rw[f1,C6,hgdm];simp only[D0,A4];obtain⟨S,hS⟩:∃ S:List (Den A7),S=(L[j]).2.2.2.2.2:=⟨_,rfl⟩;have hSz:okz (.sl A7) S:=by rw[hS];exact(hF.1.2 _ (C2 hj)).2.2.2.2.2
   rw[← hS];have hSl:S.length≤1048576:=hSz.1;have hpm:=hF.1.2 _ (C2 hm);have fin:∀ p:Den A0,p=A0E L[m] S->((B1J N (L.set m p) id).bind fun r14=>(bif (!r14.2) then(A1P N L).bind fun r15=>some (r15,false) else some (r14.1,true)))=some (bif (Y3 L id).2 then((Y3 L id).1.set m (A0E L[m] S),true) else(L,false)):=fun p hp=>by
    obtain⟨T,hT⟩:=B2M S L[m];rw[hp];have hFs:V4 (L.set m (A0E L[m] S)):=hF.set hm (A83 S hpm) (by rw[hT];rfl) (by rw[hT];exact(hF.2 _ (C2 hm)).2.2);rw[B4d hN _ hFs id,A3,hT,C2t hm T (fun j' e=>by rw[e1] at e;omega) (by omega)];cases (Y3 L id).2 with
    |true=>rfl
    |false =>
     simp only[A9,N3,A4];rw[A0r hN L hF.1];rfl
   have kk:=S3 (B:=A99 N (fun (x10,x11,x12,x13)=>(B1J N x13 x10).bind fun r14=>(bif (!r14.2) then(A1P N x11).bind fun r15=>some (r15,false) else some (r14.1,true))) (fun ρ16=>some (ρ16))) (A:=Den A0) (fun i p=>(id,L,[],L.set m p,(m:Int),S,(S.length:Int),(i:Int))) (fun i p r=>okz A0 p->p.1=(L[m]).1->A0E p (S.drop i)=A0E L[m] S->r=some (bif (Y3 L id).2 then((Y3 L id).1.set m (A0E L[m] S),true) else(L,false))) S.length
    (fun i p rec_ hi ih hp hp1 he=>by
     show(bif _ then _ else _)=_;have hml:m<(L.set m p).length:=by rw[G1];exact hm
     have hgp:(L.set m p).getD m (dft A0)=p:=by rw[B3,j2 hm];rfl
     have hsi:okz A7 S[i]:=hSz.2 _ (C2 hi);rw[E3 S hi,E2 i,F2 S hi,I5 (B9 i) (by omega),E2 m,E3 (L.set m p) hml,C6,hgp,W3];have hself:(L.set m p).set m (p.1,p.2.1,p.2.2.1,p.2.2.2.1,p.2.2.2.2.1,p.2.2.2.2.2)=L.set m p:=Z0 ..;simp only[D0,A4,Y7];rw[hself,E3 (L.set m p) hml]
     have eq':A5k N (p.1,p.2.1,p.2.2.1,p.2.2.2.1,p.2.2.2.2.1,p.2.2.2.2.2) (S[i]).1 (S[i]).2=some (S1 p (S[i]).1 (S[i]).2):=A8N hN hN2 p hp _ _ hsi.2.1;rw[eq',A3];simp only[D0,A4];rw[X3 hi] at he;have he:A0E (S1 p (S[i]).1 (S[i]).2).1 (S.drop (i+1))=A0E L[m] S:=he;cases hb:(S1 p (S[i]).1 (S[i]).2).2 with
     |false =>
      rw[B6Q hb] at he;exact ih p hp hp1 he
     |true =>
      simp only[A4];rw[Z0];obtain⟨T,hT⟩:=A6b p (S[i]).1 (S[i]).2;exact ih (S1 p (S[i]).1 (S[i]).2).1 (A51 hp _) (by rw[hT];exact hp1) he)
    (fun p rec_ hp hp1 he=>by
     show(bif _ then _ else _)=_;rw[Y5 S];simp only[A9];rw[Q9] at he;exact fin p he)
    N (by omega) L[m]
   have:=kk hpm rfl (by rw[N8]);rw[O4] at this;exact this
  ·rw[dF h1];simp only[A9];rw[B4d hN L hF id,A3];cases hg:(Y3 L id).2 with
   |true=>rfl
   |false =>
    simp only[N3,A4,A9]
theorem C2T{N:Nat}(hN:Big N)(L:List (Den A0))(hF:V4 L)(hnd:(L.map fun p=>p.1).Nodup)(id:Int):B5p N L id=some (B0l L id):=by
 have hN':=y5 hN;unfold B5p B0l;rw[A9i hN L hF hnd,A3];by_cases h0:B8 id 0 L<0
 ·rw[dT h0];have hg:(Y3 L id)=(L,false):=by unfold Y3;rw[dT (p:=B8 id 0 L<4) (by omega)];rfl
  rw[hg];rfl
 ·rw[dF h0];obtain⟨j,hj,e1,e2,e3⟩:=S4 (L:=L) (n:=id) (by omega);simp only[A9];cases hg:(Y3 L id).2 with
  |false=>rw[B57 hg];rfl
  |true =>
   have hG:=B4g hg;simp only[N7,A9,A4,Y7];rw[hG,e1,C6];rw[Q8 hN L hF.1,A3,e1,E2 j,E3 L hj];have hgdj:List.getD (α:=Den A0) L j (dft A0)=L[j]:=F2 L hj (dft A0);simp only[D0,A4];rw[A2P hN L hF.1,A3,C6,hgdj]
   have hFG:V4 (L.set j (id,false,(0:Int),[],[],[])):=B1b hF hj e2;rw[Q8 hN _ hFG.1,A3];obtain⟨S,hS⟩:∃ S:List (Den A7),S=(L[j]).2.2.2.2.2:=⟨_,rfl⟩;have hSz:okz (.sl A7) S:=by rw[hS];exact(hF.1.2 _ (C2 hj)).2.2.2.2.2
   have hSl:S.length≤1048576:=hSz.1;obtain⟨P0,hP0⟩:∃ P0:Den A0,P0=((L[j]).1,(L[j]).2.1,(L[j]).2.2.1,(L[j]).2.2.2.1,(L[j]).2.2.2.2.1,(L[j]).2.2.2.2.2):=⟨_,rfl⟩;have hPS:P0.2.2.2.2.2=S:=by rw[hP0,hS]
   rw[← hP0,← hS];by_cases h1:0≤B8 (F7 L id) 0 L
   ·rw[dT h1];obtain⟨m,hm,f1,f2,f3⟩:=S4 h1;have hin:=A0O hF h1;have hnx:=(A3z hF (id:=id) hin.1).2.2.1;have hjm:j≠m:=fun e=>by subst e;exact hnx (f2.symm.trans e2)
    have hgdm:List.getD (α:=Den A0) L m (dft A0)=L[m]:=F2 L hm (dft A0);have hGm:B8 (F7 L id) 0 (L.set j (id,false,(0:Int),[],[],[]))=(m:Int):=by
     rw[A8R (F7 L id) L 0 j _ fun hj' => ?_,f1];rw[e2];have:decide (id=F7 L id)=false:=dF fun e=>hnx e.symm;rw[this,S5,S5]
    rw[hGm,f1,C6,hgdm];simp only[A4];have hmG:m<(L.set j (id,false,(0:Int),[],[],[])).length:=by rw[G1];exact hm
    have hGgm:(L.set j (id,false,(0:Int),[],[],[]))[m]=L[m]:=A0G hjm _;have hpm:=hF.1.2 _ (C2 hm);generalize L.set j (id,false,(0:Int),[],[],[])=G at hmG hGgm hFG
    have kk:=S3 (B:=A36 N (fun (x9,x10)=>some (x10,true)) (fun ρ11=>some (ρ11))) (A:=Den A0) (fun i p=>([],G.set m p,P0,(m:Int),(i:Int))) (fun i p r=>okz A0 p->A0E p (S.drop i)=A0E L[m] S->r=some (G.set m (A0E L[m] S),true)) S.length
     (fun i p rec_ hi ih hp he=>by
      show(bif _ then _ else _)=_;have hml:m<(G.set m p).length:=by rw[G1];exact hmG
      have hgp:(G.set m p).getD m (dft A0)=p:=by rw[B3,j2 hmG];rfl
      have hsi:okz A7 S[i]:=hSz.2 _ (C2 hi);rw[hPS,E3 S hi,E2 i,F2 S hi,I5 (B9 i) (by omega),E2 m,E3 (G.set m p) hml,C6,hgp,W3];have hself:(G.set m p).set m (p.1,p.2.1,p.2.2.1,p.2.2.2.1,p.2.2.2.2.1,p.2.2.2.2.2)=G.set m p:=Z0 ..;simp only[D0,A4,Y7];rw[hself,E3 (G.set m p) hml]
      have eq':A1Q N (p.1,p.2.1,p.2.2.1,p.2.2.2.1,p.2.2.2.2.1,p.2.2.2.2.2) (S[i]).1 (S[i]).2=some (S1 p (S[i]).1 (S[i]).2):=A6y hN p hp _ _ hsi.2.1;rw[eq',A3];simp only[D0,A4];rw[X3 hi] at he;have he:A0E (S1 p (S[i]).1 (S[i]).2).1 (S.drop (i+1))=A0E L[m] S:=he;cases hb:(S1 p (S[i]).1 (S[i]).2).2 with
      |false =>
       rw[B6Q hb] at he;exact ih p hp he
      |true =>
       simp only[A4];rw[Z0];exact ih (S1 p (S[i]).1 (S[i]).2).1 (A51 hp _) he)
     (fun p rec_ hp he=>by
      show(bif _ then _ else _)=_;rw[hPS,Y5 S];rw[Q9] at he;have he:p=A0E L[m] S:=he;rw[he];rfl)
     N (by omega) L[m]
    have:=kk hpm (by rw[N8]);rw[← hGgm,O4] at this;rw[hGgm] at this;exact this
   ·rw[dF h1];have hGm:¬ 0≤B8 (F7 L id) 0 (L.set j (id,false,(0:Int),[],[],[])):=by
     intro h;obtain⟨q,hq,g1,g2,g3⟩:=S4 h;by_cases hqj:q=j
     ·subst hqj;rw[A3A] at g3;cases g3
     ·have hn:=A0O hFG h;have:=(A3z hF (id:=id) hn.1).2.1;exact h1 this
    simp only[A9];obtain⟨M1,hM1⟩:=B50 (B:=A36 N (fun (x9,x10)=>some (x10,true)) (fun ρ11=>some (ρ11))) hN ([],L.set j (id,false,(0:Int),[],[],[]),P0,B8 (F7 L id) 0 (L.set j (id,false,(0:Int),[],[],[])),(0:Int));rw[hM1];show(bif _ then _ else _)=_;rw[dF hGm];cases decide ((0:Int)<(List.length (α:=Den A7) P0.2.2.2.2.2:Int))<;>rfl
open Go Go.Proofs.YtkmhopbmpeiofaaGreat.Nx Go.RowKit
set_option linter.unusedVariables false
set_option linter.unusedSimpArgs false
def y6(t:ByteArray)(l:List (Den A8)):Bool:=l.any fun x=>decide (x.1=t)
def A1W(t:ByteArray)(l:List (Den A8)):Bool:=l.any fun x=>decide (x.1=t)&&x.2
theorem B5E(t:ByteArray)(x:Den A8):∀ l,y6 t (U5 x l)=(y6 t l||decide (x.1=t))
 |[]=>by simp[U5,y6]
 |y :: ys=>by
  have ih:=B5E t x ys;unfold y6 at ih ⊢;unfold U5;cases h1:decide (y.1=x.1) with
  |true =>
   have e:y.1=x.1:=I9 h1;simp only[A4,P6];rw[← e];cases decide (y.1=t)<;>simp
  |false =>
   cases h2:iLt x y with
   |true =>
    simp only[A9,A4,P6];cases decide (x.1=t)<;>cases decide (y.1=t)<;>simp
   |false =>
    simp only[A9,P6];rw[ih,A0P]
theorem B6E(t:ByteArray)(x:Den A8):∀ l,A1W t (U5 x l)=(A1W t l||(decide (x.1=t)&&x.2))
 |[]=>by simp[U5,A1W]
 |y :: ys=>by
  have ih:=B6E t x ys;unfold A1W at ih ⊢;unfold U5;cases h1:decide (y.1=x.1) with
  |true =>
   have e:y.1=x.1:=I9 h1;simp only[A4,P6];rw[← e];cases decide (y.1=t)<;>cases y.2<;>cases x.2<;>simp
  |false =>
   cases h2:iLt x y with
   |true =>
    simp only[A9,A4,P6];cases decide (x.1=t)<;>cases decide (y.1=t)<;>cases x.2<;>cases y.2<;>simp
   |false =>
    simp only[A9,P6];rw[ih,A0P]
theorem A4O(t:ByteArray):∀ (l acc:List (Den A8)),y6 t (l.foldl (fun acc x=>U5 x acc) acc)=(y6 t acc||y6 t l)
 |[],acc=>by simp[y6]
 |x :: xs,acc=>by
  rw[Q1,A4O t xs,B5E];unfold y6;rw[P6,A0P]
theorem A6D(t:ByteArray):∀ (l acc:List (Den A8)),A1W t (l.foldl (fun acc x=>U5 x acc) acc)=(A1W t acc||A1W t l)
 |[],acc=>by simp[A1W]
 |x :: xs,acc=>by
  rw[Q1,A6D t xs,B6E];unfold A1W;rw[P6,A0P]
theorem B6u:∀ (l acc:List (Den A8)),y7 acc->y7 (l.foldl (fun acc x=>U5 x acc) acc)
 |[],_,h=>h
 |x :: xs,acc,h=>B6u xs _ (A8y x h)
theorem A2W(a b:List (Den A8)):y7 (K7 a b):=B6u _ _ List.Pairwise.nil
theorem A7B{t:ByteArray}{l:List (Den A8)}:y6 t l=true↔∃ x∈l,x.1=t:=by
 unfold y6;rw[w8];exact⟨fun⟨x,h1,h2⟩=>⟨x,h1,I9 h2⟩,fun⟨x,h1,h2⟩=>⟨x,h1,O5 h2⟩⟩
theorem C1J{x:Den A8}{xs:List (Den A8)}(h:∀ y∈xs,iLt x y=true):y6 x.1 xs=false∧A1W x.1 xs=false:=by
 have hne:∀ y∈xs,y.1≠x.1:=fun y hy e=>B2L (h y hy) e.symm;constructor
 ·unfold y6;rw[A0g];exact fun y hy e=>hne y hy (I9 e)
 ·unfold A1W;rw[A0g];intro y hy e;rw[A6] at e;exact hne y hy (I9 e.1)
theorem B3F:∀ {a b:List (Den A8)},y7 a->y7 b->(∀ t,y6 t a=y6 t b)->(∀ t,A1W t a=A1W t b)->a=b
 |[],[],_,_,_,_=>rfl
 |[],y :: ys,_,_,h,_=>by
  have:=h y.1;simp[y6] at this
 |x :: xs,[],_,_,h,_=>by
  have:=h x.1;simp[y6] at this
 |x :: xs,y :: ys,ha,hb,h,k=>by
  obtain⟨a1,a2⟩:=J4.1 ha;obtain⟨b1,b2⟩:=J4.1 hb;have e:x.1=y.1:=by
   have p1:y6 x.1 (y :: ys)=true:=by rw[← h];simp[y6]
   have p2:y6 y.1 (x :: xs)=true:=by rw[h];simp[y6]
   obtain⟨z,z1,z2⟩:=A7B.1 p1;obtain⟨u,u1,u2⟩:=A7B.1 p2;rcases D8.1 z1 with rfl|z1
   ·exact z2.symm
   rcases D8.1 u1 with rfl|u1
   ·exact u2
   have q1:=b1 z z1;rw[A4M z2] at q1;have q2:=a1 u u1;rw[A4M u2] at q2;have:=A0N.tr _ _ _ q1 q2;rw[A0N.irr] at this;cases this
  obtain⟨n1,n2⟩:=C1J a1;obtain⟨m1,m2⟩:=C1J b1;have e2:x.2=y.2:=by
   have:=k x.1;unfold A1W at this n2 m2;rw[P6,P6,n2,O5 rfl,O5 e.symm] at this;rw[← e] at m2;rw[m2] at this;simpa using this
  have hxs:xs=ys:=by
   refine B3F a2 b2 (fun t => ?_) (fun t => ?_)
   ·by_cases ht:x.1=t
    ·subst ht;rw[n1];rw[← e] at m1;exact m1.symm
    ·have:=h t;unfold y6 at this ⊢;rw[P6,P6,T4 ht,T4 (by rw[← e];exact ht)] at this;simpa using this
   ·by_cases ht:x.1=t
    ·subst ht;rw[n2];rw[← e] at m2;exact m2.symm
    ·have:=k t;unfold A1W at this ⊢;rw[P6,P6,T4 ht,T4 (by rw[← e];exact ht)] at this;simpa using this
  rw[hxs];congr 1;exact Prod.ext e e2
theorem B6t(a b:List (Den A8)):K7 a b=K7 b a:=by
 refine B3F (A2W a b) (A2W b a) (fun t => ?_) (fun t => ?_)
 ·unfold K7;rw[A4O,A4O];unfold y6;simp only[List.any_nil,p9,List.any_append];exact Bool.or_comm _ _
 ·unfold K7;rw[A6D,A6D];unfold A1W;simp only[List.any_nil,p9,List.any_append];exact Bool.or_comm _ _
theorem B7i{a:List (Den A8)}(h:y7 a):K7 a a=a:=by
 refine B3F (A2W a a) h (fun t => ?_) (fun t => ?_)
 ·unfold K7;rw[A4O];unfold y6;simp
 ·unfold K7;rw[A6D];unfold A1W;simp
def one(l:List (Den A8)):Prop:=∀ t∈l,t.1.size≤1
theorem B0Q{a b:List (Den A8)}(ha:one a)(hb:one b):one (K7 a b) :=
 A5I (k:=0) (a++b) [] (fun t ht=>by
  rcases C9.1 ht with h|h
  ·exact ha t h
  ·exact hb t h) (fun t ht=>by cases ht)
def B3v(t:ByteArray):Nat:=match t.data.toList with
 |[]=>0
 |b :: _=>b.toNat+1
theorem C6k{x y:Den A8}(hx:x.1.size≤1)(hy:y.1.size≤1)(h:iLt x y=true):B3v x.1<B3v y.1:=by
 unfold iLt at h;unfold B3v;have lx:x.1.data.toList.length≤1:=by simpa using hx
 have ly:y.1.data.toList.length≤1:=by simpa using hy
 generalize x.1.data.toList=a at h lx;generalize y.1.data.toList=b at h ly;match a,b with
 |[],[]=>simp[Op.bytesLess] at h
 |[],q :: b=>exact Nat.succ_pos _
 |p :: a,[]=>simp[Op.bytesLess] at h
 |[p],[q] =>
  simp only[Op.bytesLess,S5,A44,D7] at h;rw[B29] at h;show p.toNat+1<q.toNat+1;omega
 |p :: p2 :: a,_=>simp at lx
 |[p],q :: q2 :: b=>simp at ly
theorem C3x(t:ByteArray):B3v t≤256:=by
 unfold B3v;split
 ·omega
 ·rename_i b _ _;have:=b.toNat_lt;omega
theorem B8U:∀ (l:List Nat) (m:Nat),l.Pairwise (· < ·)->(∀ x∈l,m≤x∧x≤256)->l.length+m≤257∨l=[]
 |[],_,_,_=>.inr rfl
 |x :: xs,m,h,k=>by
  obtain⟨h1,h2⟩:=J4.1 h;have hx:=k x (by simp);rcases B8U xs (x+1) h2 (fun y hy=>⟨h1 y hy,(k y (by simp[hy])).2⟩) with q|q
  ·left;simp only[B5];omega
  ·left;rw[q];simp only[B5,C8];omega
theorem B3M{l:List (Den A8)}(h:y7 l)(k:one l):l.length≤257:=by
 have hp:(l.map fun x=>B3v x.1).Pairwise (· < ·):=by
  rw[A46];exact h.imp_of_mem fun hx hy e=>C6k (k _ hx) (k _ hy) e
 rcases B8U _ 0 hp (fun x hx=>by
  obtain⟨y,_,rfl⟩:=C5.1 hx;exact⟨P1 _,C3x _⟩) with q|q
 ·simpa using q
 ·have:=congrArg List.length q;simp only[C7,C8] at this;omega
theorem B89{α:Type}(p:Nat->α->Bool)(l:List α)(h:∀ i (hi:i<l.length),p i l[i]=true):i6 p 0 l=true:=by
 rw[A93];intro i hi;rw[E1];exact h i hi
theorem C0r{l:List (Den A8)}(h:y7 l)(k:one l):A0L l=true:=by
 unfold A0L;refine B89 _ _ fun i hi => ?_;unfold A3N;have h1:=k _ (C2 hi);rw[dF (p:=(600:Int)<((l[i]).1.size:Int)) (by omega)];rcases i with _|j
 ·rfl
 ·rw[dT (by omega:(0:Int)<((j+1:Nat):Int))];have hj:j<l.length:=by omega
  have e:l.getD (j+1-1) (dft A8)=l[j]:=by simp[List.getD,hj]
  rw[e];have:=(O9.1 h) j (j+1) hj hi (by omega);unfold iLt at this;rw[ByteArray.toList_eq,ByteArray.toList_eq,this];rfl
theorem C2v{l:List (Den A8)}(h:A0L l=true):y7 l:=by
 unfold A0L at h;rw[A93] at h;have step:∀ j (hj:j+1<l.length),iLt l[j] l[j+1]=true:=fun j hj=>by
  have:=h (j+1) hj;rw[E1] at this;unfold A3N at this;rw[dT (by omega:(0:Int)<((j+1:Nat):Int)),A4,A6] at this;have e:l.getD (j+1-1) (dft A8)=l[j]:=by simp[List.getD,show j<l.length from by omega]
  have h2:=this.2;rw[e,ByteArray.toList_eq,ByteArray.toList_eq] at h2;exact h2
 unfold y7;rw[O9];intro i j hi hj hij;induction j with
 |zero=>omega
 |succ j ih =>
  have h1:=step j hj;rcases D9 i j with q|q
  ·exact A0N.tr _ _ _ (ih (by omega) q) h1
  ·have:i=j:=by omega
   subst this;exact h1
def okS(U:List Int)(s:Den A7):Prop:=(0≤s.1∧s.1≤255)∧s.1∈U∧y7 s.2∧one s.2
theorem C0z{U:List Int}{S:List (Den A7)}(hr:A1c S)(h:∀ s∈S,okS U s):i6 (Y6 S) 0 S=true:=by
 refine B89 _ _ fun i hi => ?_;obtain⟨⟨a,b⟩,_,c,d⟩:=h _ (C2 hi);unfold Y6;have hin:inR (S[i]).1 0 255=true:=by unfold inR;rw[O5 a,O5 b];rfl
 have hl:=B3M c d;rw[hin,C0r c d,dT (by omega:((List.length (α:=Den A8) (S[i]).2:Nat):Int)≤300)];rcases i with _|j
 ·rfl
 ·rw[dT (by omega:(0:Int)<((j+1:Nat):Int))];have hj:j<S.length:=by omega
  have e:S.getD (j+1-1) (dft A7)=S[j]:=by simp[List.getD,hj]
  rw[e];have:=(O9.1 hr) j (j+1) hj hi (by omega);rw[dF (B6S this)];rfl
theorem B4f:∀ {l U:List Int},l.Nodup->(∀ x∈l,x∈U)->l.length≤U.length
 |[],_,_,_=>P1 _
 |x :: xs,U,h,k=>by
  obtain⟨h1,h2⟩:=H9.1 h;have hx:=k x (by simp);have:=B4f (l:=xs) (U:=U.erase x) h2 fun y hy=>(List.mem_erase_of_ne (fun e=>h1 (by rw[← e];exact hy))).2 (k y (by simp[hy]));rw[List.length_erase_of_mem hx] at this;have hp:=List.length_pos_of_mem hx;simp only[B5];omega
theorem C3q{U:List Int}{S:List (Den A7)}(hr:A1c S)(h:∀ s∈S,s.1∈U):S.length≤U.length:=by
 have hn:(S.map fun s=>s.1).Nodup:=by
  rw[A0d,A46];exact hr.imp fun e=>Int.ne_of_lt e
 have:=B4f (U:=U) hn (fun x hx=>by
  obtain⟨s,hs,rfl⟩:=C5.1 hx;exact h s hs)
 simpa using this
theorem B4l(key:Int)(M:List (Den A8)):∀ {S:List (Den A7)},A1c S->A1c (X9 key M S)
 |[],_=>by simp[X9,A1c]
 |s :: ss,h=>by
  obtain⟨h1,h2⟩:=J4.1 h;rw[A9G];cases hd:decide (key≤s.1) with
  |true =>
   have hle:key≤s.1:=I9 hd;cases hd2:decide (s.1=key) with
   |true =>
    have e:s.1=key:=I9 hd2;exact J4.2 ⟨fun z hz=>by show key<z.1;rw[← e];exact h1 z hz,h2⟩
   |false =>
    have hne:s.1≠key:=X6 hd2;have hlt:key<s.1:=Int.lt_iff_le_and_ne.2 ⟨hle,fun e=>hne e.symm⟩;refine J4.2 ⟨fun z hz => ?_,h⟩;rcases D8.1 hz with rfl|hz
    ·exact hlt
    ·exact Int.lt_trans hlt (h1 z hz)
  |false =>
   have hlt:s.1<key:=B9Q (X6 hd);refine J4.2 ⟨fun z hz => ?_,B4l key M h2⟩;rcases A5y key M ss z hz with rfl|hz
   ·exact hlt
   ·exact h1 z hz
theorem A9m{key:Int}:∀ {S:List (Den A7)},P9 key S=[]∨∃ s∈S,s.1=key∧P9 key S=s.2
 |[]=>.inl rfl
 |s :: ss=>by
  unfold P9;cases hd:decide (s.1=key) with
  |true=>exact .inr ⟨s,by simp,I9 hd,rfl⟩
  |false =>
   rcases A9m (key:=key) (S:=ss) with h|⟨x,h1,h2,h3⟩
   ·exact .inl h
   ·exact .inr ⟨x,by simp[h1],h2,h3⟩
theorem B0O:∀ {S:List (Den A7)},A1c S->∀ {s:Den A7},s∈S->P9 s.1 S=s.2
 |[],_,_,hs=>by cases hs
 |x :: xs,hr,s,hs=>by
  obtain⟨h1,h2⟩:=J4.1 hr;unfold P9;rcases D8.1 hs with rfl|hs
  ·rw[O5 rfl];rfl
  ·have:=h1 s hs;rw[T4 (Int.ne_of_lt this)];exact B0O h2 hs
open Go Go.Proofs.YtkmhopbmpeiofaaGreat.Nx Go.RowKit
set_option linter.unusedVariables false
set_option linter.unusedSimpArgs false
def bare(p:Den A0):Den A0:=M4 p []
def S7(A B:List (Den A0)):Prop:=A.map bare=B.map bare
theorem S7.refl(A:List (Den A0)):S7 A A:=rfl
theorem S7.trans{A B C:List (Den A0)}(h:S7 A B)(k:S7 B C):S7 A C:=Eq.trans h k
theorem S7.symm{A B:List (Den A0)}(h:S7 A B):S7 B A:=Eq.symm h
theorem S7.len{A B:List (Den A0)}(h:S7 A B):A.length=B.length:=by
 have:=congrArg List.length h;simpa using this
theorem A6O(n:Int):∀ (A:List (Den A0)) (i:Nat),B8 n i (A.map bare)=B8 n i A
 |[],_=>rfl
 |p :: ps,i=>by
  rw[F6];unfold B8;rw[A6O n ps (i+1)];rfl
theorem S7.D0q{A B:List (Den A0)}(h:S7 A B)(n:Int):B8 n 0 A=B8 n 0 B:=by
 rw[← A6O n A,← A6O n B];exact congrArg _ h
theorem S7.get{A B:List (Den A0)}(h:S7 A B)(k:Nat):bare (A.getD k (dft A0))=bare (B.getD k (dft A0)):=by
 have e:(A.map bare)[k]? = (B.map bare)[k]? := congrArg (fun l:List (Den A0)=>l[k]?) h;rw[H3,H3] at e;rw[B3,B3];cases hA:A[k]? <;> cases hB:B[k]? <;> rw[hA,hB] at e<;>simp at e ⊢
 exact e
theorem S7.behind{A B:List (Den A0)}(h:S7 A B)(k:Nat):(A.getD k (dft A0)).2.2.2.1=(B.getD k (dft A0)).2.2.2.1:=by
 have:=congrArg (fun p:Den A0=>p.2.2.2.1) (h.get k);exact this
theorem S7.D0s{A B:List (Den A0)}(h:S7 A B)(k:Nat):(A.getD k (dft A0)).2.2.2.2.1=(B.getD k (dft A0)).2.2.2.2.1:=by
 have:=congrArg (fun p:Den A0=>p.2.2.2.2.1) (h.get k);exact this
theorem S7.next{A B:List (Den A0)}(h:S7 A B):∀ l,m5 A l=m5 B l
 |[]=>rfl
 |x :: xs=>by unfold m5;rw[h.D0q,h.next xs]
theorem S7.D0u{A B:List (Den A0)}(h:S7 A B)(n:Int):F7 A n=F7 B n:=by
 unfold F7;rw[h.D0q,h.behind,h.next]
theorem S7.st{A B:List (Den A0)}(h:S7 A B)(id key:Int):∀ (l:List Int) (b:Int),fSt A id key b l=fSt B id key b l
 |[],_=>rfl
 |x :: xs,b=>by unfold fSt;rw[h.D0q];exact h.st id key xs _
theorem S7.step{A B:List (Den A0)}(h:S7 A B)(id key:Int):U4 A id key=U4 B id key:=by
 unfold U4;rw[h.D0q,h.D0u,h.behind,h.D0s,h.st]
theorem S7.find{A B:List (Den A0)}(h:S7 A B)(key:Int):∀ (n:Nat) (a k:Int),M5 A key n a k=M5 B key n a k
 |0,_,_=>rfl
 |n+1,a,k=>by unfold M5;rw[h.step,h.find key n]
theorem S7.hold{A B:List (Den A0)}(h:S7 A B):∀ (l out:List Int),z8 A out l=z8 B out l
 |[],_=>rfl
 |x :: xs,out=>by unfold z8;rw[h.D0q,h.hold xs,h.hold xs]
theorem S7.D0t{A B:List (Den A0)}(h:S7 A B)(n:Int):S8 A n=S8 B n:=by
 unfold S8;rw[h.D0q,h.behind,h.hold]
theorem A6u{A:List (Den A0)}{j:Nat}{q:Den A0}(h:∀ hj:j<A.length,bare q=bare A[j]):S7 (A.set j q) A:=by
 unfold S7;rw[A2o];by_cases hj:j<A.length
 ·rw[h hj];have:bare A[j]=(A.map bare)[j]'(by rw[C7];exact hj):=by simp
  rw[this,O4]
 ·rw[Q6 (by rw[C7];omega)]
theorem B4i(p:Den A0)(key:Int)(list:List (Den A8)):bare (S1 p key list).1=bare p:=by
 obtain⟨T,hT⟩:=A6b p key list;rw[hT];rfl
theorem C2g(key:Int)(list:List (Den A8))(a:List (Den A0)×Int)(x:Int):S7 (y8 key list a x).1 a.1:=by
 unfold y8;cases (S1 (a.1.getD (B8 x 0 a.1).toNat (dft A0)) key list).2 with
 |false=>exact .refl _
 |true =>
  refine A6u fun hj => ?_;rw[B4i];rw[B3,D1 hj];rfl
theorem B17(key:Int)(list:List (Den A8)):∀ (H:List Int) (a:List (Den A0)×Int),S7 (H.foldl (y8 key list) a).1 a.1
 |[],_=>.refl _
 |x :: xs,a=>(B17 key list xs _).trans (C2g key list a x)
theorem A7A(L:List (Den A0))(by_ key:Int)(list:List (Den A8)):S7 (Y0 L by_ key list).1 L:=by
 unfold Y0;cases (M5 L key 65 by_ 0).2 with
 |false=>exact .refl _
 |true=>exact B17 key list _ (L,0)
def hold1(L:List (Den A0))(by_ key:Int):List Int:=bif (M5 L key 65 by_ 0).2 then S8 L (M5 L key 65 by_ 0).1.1 else []
theorem S7.hold1{A B:List (Den A0)}(h:S7 A B)(by_ key:Int):hold1 A by_ key=hold1 B by_ key:=by
 unfold C.hold1;rw[h.find,h.D0t]
theorem A8c(L:List (Den A0))(by_ key:Int)(list:List (Den A8)):Y0 L by_ key list=(((hold1 L by_ key).foldl (y8 key list) (L,0)).1,((hold1 L by_ key).foldl (y8 key list) (L,0)).2,hold1 L by_ key):=by
 unfold Y0 hold1;cases (M5 L key 65 by_ 0).2<;>rfl
theorem B1X(L:List (Den A0))(by_ key:Int):∀ x∈hold1 L by_ key,0≤B8 x 0 L:=by
 intro x hx;unfold hold1 at hx;cases h:(M5 L key 65 by_ 0).2 with
 |false=>rw[h] at hx;cases hx
 |true=>rw[h] at hx;exact z9 L _ x hx
theorem B6f{L:List (Den A0)}(key:Int)(list:List (Den A8)):∀ (H:List Int) (i:Nat) (a:List (Den A0)×Int),(∀ x∈H,0≤B8 x 0 L)->A9Z L i a->A9Z L (i+H.length) (H.foldl (y8 key list) a)
 |[],_,_,_,h=>h
 |x :: xs,i,a,hh,h=>by
  rw[B5,show i+(xs.length+1)=i+1+xs.length from by omega];exact B6f key list xs (i+1) _ (fun y hy=>hh y (by simp[hy])) (h.next key list (hh x (by simp)))
theorem A8q{L:List (Den A0)}(hF:V4 L)(by_ key:Int)(list:List (Den A8)):V4 (Y0 L by_ key list).1:=by
 rw[A8c];exact(B6f key list _ 0 (L,0) (B1X L by_ key) ⟨hF,fun _=>rfl,by simp,by simp⟩).1
def Gd(U:List Int)(q:Den A0):Prop:=R4 q=true∧∀ s∈q.2.2.2.2.2,okS U s
theorem Gd.D0v{U:List Int}{q:Den A0}(h:Gd U q):A1c q.2.2.2.2.2:=by
 have h1:=h.1;unfold R4 at h1;cases hh:q.2.1 with
 |true =>
  rw[hh] at h1;simp only[A4,A6] at h1;exact B3S _ h1.2.2.2.2.2.2.2
 |false =>
  rw[hh] at h1;simp only[A9,A6,D7] at h1;have:List.length (α:=Den A7) q.2.2.2.2.2=0:=by have:=h1.2.2.2.2;omega
  rw[G7.1 this];exact List.Pairwise.nil
theorem B7d{U:List Int}(hU:U.length≤80){q:Den A0}(h:Gd U q)(hh:q.2.1=true){key:Int}(hk:0≤key∧key≤255)(hkU:key∈U){list:List (Den A8)}(hl:one list) :
  (S1 q key list).2=true∧Gd U (S1 q key list).1:=by
 have hr:=h.D0v;have hone:one (P9 key q.2.2.2.2.2):=by
  rcases A9m (key:=key) (S:=q.2.2.2.2.2) with e|⟨s,h1,_,e⟩
  ·rw[e];intro t ht;cases ht
  ·rw[e];exact(h.2 s h1).2.2.2
 have hM:=B0Q hone hl;have hMo:=A2W (P9 key q.2.2.2.2.2) list;unfold S1 A1y;generalize K7 (P9 key q.2.2.2.2.2) list=M at hM hMo;have hr2:=B4l key M hr;have hS:∀ s∈X9 key M q.2.2.2.2.2,okS U s:=fun s hs=>by
  rcases A5y key M _ s hs with rfl|hs
  ·exact⟨hk,hkU,hMo,hM⟩
  ·exact h.2 s hs
 have hlen:=C3q hr2 (U:=U) fun s hs=>(hS s hs).2.1;have hok:R4 (M4 q (X9 key M q.2.2.2.2.2))=true:=by
  have h1:=h.1;unfold R4 at h1 ⊢;rw[show(M4 q (X9 key M q.2.2.2.2.2)).2.1=true from hh];rw[hh] at h1;simp only[A4,A6] at h1 ⊢;obtain⟨a1,a2,a3,a4,a5,a6,a7,a8⟩:=h1;refine⟨a1,a2,a3,a4,?_,a6,a7,C0z hr2 hS⟩;rw[M6,U8];show ¬ (80:Int)<((X9 key M q.2.2.2.2.2).length:Int);omega
 rw[hok];exact⟨rfl,hok,hS⟩
theorem B8S{p:Den A0}{key:Int}(hk:¬ (0≤key∧key≤255))(list:List (Den A8)):(S1 p key list).2=false:=by
 unfold S1 A1y;cases hb:R4 (M4 p (X9 key (K7 (P9 key p.2.2.2.2.2) list) p.2.2.2.2.2)) with
 |false=>rfl
 |true =>
  exfalso;generalize K7 (P9 key p.2.2.2.2.2) list=M at hb;have hmem:∀ S:List (Den A7),(key,M)∈X9 key M S:=by
   intro S;induction S with
   |nil=>simp[X9]
   |cons s ss ih =>
    rw[A9G];cases decide (key≤s.1) with
    |true=>cases decide (s.1=key)<;>simp
    |false=>simp only[A9];exact I7 _ ih
  have hm:=hmem p.2.2.2.2.2;generalize X9 key M p.2.2.2.2.2=T at hb hm;unfold R4 at hb;cases hh:p.2.1 with
  |true =>
   rw[show(M4 p T).2.1=true from hh] at hb;simp only[A4,A6] at hb;obtain⟨i,hi⟩:=A53 _ _ _ hb.2.2.2.2.2.2.2 _ hm;unfold Y6 at hi;rw[A6] at hi;have:=hi.1;unfold inR at this;simp only[A6,D7] at this;exact hk this
  |false =>
   rw[show(M4 p T).2.1=false from hh] at hb;simp only[A9,A6,D7] at hb;have:List.length (α:=Den A7) T=0:=by have:=hb.2.2.2.2;simp only[M4] at this;omega
   rw[G7.1 this] at hm;cases hm
theorem C01{p:Den A0}{s:Den A7}(hs:s∈p.2.2.2.2.2)(ho:y7 s.2):(S1 p s.1 s.2).1=p:=by
 unfold S1 A1y;cases hb:R4 (M4 p (X9 s.1 (K7 (P9 s.1 p.2.2.2.2.2) s.2) p.2.2.2.2.2)) with
 |false=>rfl
 |true =>
  have hr:A1c p.2.2.2.2.2:=by
   refine A6V (B1l s.1 (K7 (P9 s.1 p.2.2.2.2.2) s.2) p.2.2.2.2.2) ?_;have h1:=hb;have hl:=A7F s.1 (K7 (P9 s.1 p.2.2.2.2.2) s.2) p.2.2.2.2.2;generalize X9 s.1 (K7 (P9 s.1 p.2.2.2.2.2) s.2) p.2.2.2.2.2=T at h1 hl;unfold R4 at h1;cases hh:p.2.1 with
   |true =>
    rw[show(M4 p T).2.1=true from hh] at h1;simp only[A4,A6] at h1;exact B3S _ h1.2.2.2.2.2.2.2
   |false =>
    rw[show(M4 p T).2.1=false from hh] at h1;simp only[A9,A6,D7] at h1;have:List.length (α:=Den A7) T=0:=by have:=h1.2.2.2.2;simp only[M4] at this;omega
    omega
  rw[B0O hr hs,B7i ho];obtain⟨j,hj,e⟩:=u6 hs;rw[B1o s.1 s.2 _ j hr hj (by rw[e])];have:p.2.2.2.2.2.set j (s.1,s.2)=p.2.2.2.2.2:=by
   have:((s.1,s.2):Den A7)=p.2.2.2.2.2[j]:=by rw[e]
   rw[this,O4]
  rw[this];rfl
open Go Go.Proofs.YtkmhopbmpeiofaaGreat.Nx Go.RowKit
set_option linter.unusedVariables false
set_option linter.unusedSimpArgs false
def isK(k:Int)(s:Den A7):Bool:=decide (s.1=k)
def rmI(k:Int)(T:List (Den A7)):List (Den A7):=T.eraseP (isK k)
def rmS(k:Int)(T:List (Den A7)):List (Den A7):=T.filter fun s => !isK k s
theorem B7t(k:Int):∀ T:List (Den A7),(rmI k T).countP (isK k)=T.countP (isK k)-1
 |[]=>rfl
 |t :: ts=>by
  have ih:=B7t k ts;unfold rmI at ih ⊢;rw[A1C];cases h:isK k t with
  |true=>simp[h]
  |false=>simp[h,ih]
theorem C06{k k':Int}(h:k≠k'):∀ T:List (Den A7),(rmI k T).countP (isK k')=T.countP (isK k')
 |[]=>rfl
 |t :: ts=>by
  have ih:=C06 h ts;unfold rmI at ih ⊢;rw[A1C];cases h1:isK k t with
  |true =>
   have:isK k' t=false:=by
    unfold isK at h1 ⊢;exact T4 fun e=>h ((I9 h1).symm.trans e)
   simp[this]
  |false=>simp[List.countP_cons,ih]
theorem B3L{D:Int->Bool}{k:Int}(hk:D k=true):∀ T:List (Den A7),(rmI k T).filter (fun s => !D s.1)=T.filter fun s => !D s.1
 |[]=>rfl
 |t :: ts=>by
  have ih:=B3L hk ts;unfold rmI at ih ⊢;rw[A1C];cases h1:isK k t with
  |true =>
   have e:t.1=k:=I9 h1;have:D t.1=true:=by rw[e];exact hk
   simp[this]
  |false=>simp[A3l,ih]
theorem B8R{D:Int->Bool}{k:Int}(hk:D k=true):∀ T:List (Den A7),(rmS k T).filter (fun s => !D s.1)=T.filter fun s => !D s.1:=by
 intro T;unfold rmS;rw[A4Y];refine List.filter_congr fun t _ => ?_;cases h:D t.1 with
 |true=>rfl
 |false =>
  have:isK k t=false:=T4 fun e=>by rw[e,hk] at h;cases h
  rw[this];rfl
def rmA(D:Int->Bool)(f:Int->List (Den A7)->List (Den A7))(T:List (Den A7))(s:Den A7):List (Den A7):=bif D s.1 then f s.1 T else T
theorem B3V{D:Int->Bool}{f:Int->List (Den A7)->List (Den A7)}(hf:∀ k T,D k=true->(f k T).filter (fun s => !D s.1)=T.filter fun s => !D s.1)(T:List (Den A7))(s:Den A7) :
  (rmA D f T s).filter (fun s => !D s.1)=T.filter fun s => !D s.1:=by
 unfold rmA;cases h:D s.1 with
 |true=>exact hf _ _ h
 |false=>rfl
theorem C5H(D:Int->Bool):∀ (R T:List (Den A7)),(∀ k,D k=true->T.countP (isK k)=R.countP (isK k))->R.foldl (rmA D rmI) T=T.filter fun s => !D s.1
 |[],T,h=>by
  symm;rw[A7q,List.filter_eq_self];intro t ht;cases hd:D t.1 with
  |false=>rfl
  |true =>
   have:=h _ hd;rw[List.countP_nil,List.countP_eq_zero] at this;exact absurd (O5 rfl) (this t ht)
 |s :: R,T,h=>by
  rw[Q1,C5H D R,B3V (fun k T hk=>B3L hk T)];intro k hk;have hs:=h k hk;rw[List.countP_cons] at hs;unfold rmA;by_cases e:s.1=k
  ·rw[e,hk,A4,B7t,hs];have:isK k s=true:=O5 e;rw[this];simp
  ·have:isK k s=false:=T4 e;rw[this] at hs;cases hd:D s.1 with
   |true=>rw[A4,C06 e,hs];simp
   |false=>rw[A9,hs];simp
theorem C5V(D:Int->Bool):∀ (R T:List (Den A7)),(∀ t∈T,D t.1=true->∃ s∈R,s.1=t.1)->R.foldl (rmA D rmS) T=T.filter fun s => !D s.1
 |[],T,h=>by
  symm;rw[A7q,List.filter_eq_self];intro t ht;cases hd:D t.1 with
  |false=>rfl
  |true=>obtain⟨s,hs,_⟩:=h t ht hd;cases hs
 |s :: R,T,h=>by
  rw[Q1,C5V D R,B3V (fun k T hk=>B8R hk T)];intro t ht hd;unfold rmA at ht;cases hs:D s.1 with
  |true =>
   rw[hs,A4] at ht;unfold rmS at ht;obtain⟨h1,h2⟩:=Y4.1 ht;obtain⟨q,hq,e⟩:=h t h1 hd;rcases D8.1 hq with rfl|hq
   ·unfold isK at h2;rw[O5 e.symm] at h2;cases h2
   ·exact⟨q,hq,e⟩
  |false =>
   rw[hs,A9] at ht;obtain⟨q,hq,e⟩:=h t ht hd;rcases D8.1 hq with rfl|hq
   ·rw[e] at hs;rw[hs] at hd;cases hd
   ·exact⟨q,hq,e⟩
theorem C2p(D:Int->Bool)(S:List (Den A7)):S.foldl (rmA D rmI) S=S.foldl (rmA D rmS) S:=by
 rw[C5H D S S fun _ _=>rfl,C5V D S S fun t ht _=>⟨t,ht,rfl⟩]
def spr(f:Int->List (Den A7)->List (Den A7))(id:Int)(i:Nat)(R:List (Den A0))(s:Den A7):List (Den A0) :=
 bif decide ((Y0 R id s.1 s.2).2.1=0) then(Y0 R id s.1 s.2).1 else
 bif (hold1 R id s.1).any (fun y=>decide (y=id)) then(Y0 R id s.1 s.2).1 else
  (Y0 R id s.1 s.2).1.set i (M4 ((Y0 R id s.1 s.2).1.getD i (dft A0)) (f s.1 ((Y0 R id s.1 s.2).1.getD i (dft A0)).2.2.2.2.2))
def A42(key:Int)(list:List (Den A8))(id:Int)(Y:List (Den A0))(x:Int):List (Den A0):=bif decide (x=id) then Y else(y8 key list (Y,0) x).1
section
variable {U:List Int} {L:List (Den A0)} {id:Int} {i:Nat}
structure SpI (U:List Int) (L:List (Den A0)) (i:Nat) (Y:List (Den A0)):Prop where
 al:S7 Y L
 gd:∀ j (hj:j<Y.length),j≠i->Gd U Y[j]
theorem B4B{Y:List (Den A0)}(hA:S7 Y L)(hi:i<L.length)(T:List (Den A7)):S7 (Y.set i (M4 L[i] T)) L:=by
 refine(A6u fun hj => ?_).trans hA;have:=hA.get i;rw[B3,D1 hj,B3,D1 hi] at this;exact this.symm
theorem B6c(hU:U.length≤80)(hi:i<L.length)(he:B8 id 0 L=(i:Int)){key:Int}(hkU:key∈U){list:List (Den A8)}(hl:one list)(T:List (Den A7)) :
  ∀ (H:List Int) (Y:List (Den A0)) (c:Int),(∀ x∈H,0≤B8 x 0 L)->SpI U L i Y->(id∈H->(S1 (M4 L[i] T) key list).1=M4 L[i] T) ->
   ∃ c',H.foldl (y8 key list) (Y.set i (M4 L[i] T),c)=((H.foldl (A42 key list id) Y).set i (M4 L[i] T),c')∧SpI U L i (H.foldl (A42 key list id) Y)∧c≤c' ∧
    ((0≤key∧key≤255)->(∃ x∈H,x≠id)->c<c')∧(¬ (0≤key∧key≤255)->id ∉ H->c'=c)
 |[],Y,c,_,hY,_=>⟨c,rfl,hY,A1K _,fun _ ⟨x,hx,_⟩=>by (cases hx),fun _ _=>rfl⟩
 |x :: xs,Y,c,hh,hY,hno=>by
  have hA:=B4B (L:=L) hY.al hi T;have hx:=hh x (by simp);have hiY:i<Y.length:=by rw[hY.al.len];exact hi
  have go:=fun Y' c1 (hY':SpI U L i Y')=>B6c hU hi he hkU hl T xs Y' c1 (fun y hy=>hh y (by simp[hy])) hY' (fun h=>hno (by simp[h]));rw[Q1,Q1];by_cases hxi:x=id
  ·subst hxi;have e0:A42 key list x Y x=Y:=by unfold A42;rw[O5 rfl];rfl
   have hp:=hno (by simp);have hg:(Y.set i (M4 L[i] T)).getD i (dft A0)=M4 L[i] T:=by rw[B3,j2 hiY];rfl
   have e1:y8 key list (Y.set i (M4 L[i] T),c) x=(Y.set i (M4 L[i] T),bif (S1 (M4 L[i] T) key list).2 then c+1 else c):=by
    unfold y8;simp only;rw[hA.D0q,he,C6,hg,hp,Z0];cases (S1 (M4 L[i] T) key list).2<;>rfl
   rw[e0,e1];obtain⟨c',h1,h2,h3,h4,h5⟩:=go Y (bif (S1 (M4 L[i] T) key list).2 then c+1 else c) hY;have hc:c≤(bif (S1 (M4 L[i] T) key list).2 then c+1 else c):=by
    cases (S1 (M4 L[i] T) key list).2
    ·exact A1K _
    ·simp only[A4];omega
   refine⟨c',h1,h2,A3Y hc h3,fun hk ⟨y,hy,hne⟩ => ?_,fun _ hn=>absurd (by simp) hn⟩;rcases D8.1 hy with rfl|hy
   ·exact absurd rfl hne
   ·have:=h4 hk ⟨y,hy,hne⟩;omega
  ·obtain⟨j,hj,f1,f2,f3⟩:=S4 hx;obtain⟨i',hi',g1,g2,g3⟩:=S4 (L:=L) (n:=id) (by rw[he];omega);have hii:i'=i:=by rw[he] at g1;omega
   subst hii;have hji:j≠i':=fun e=>by subst e;exact hxi (f2.symm.trans g2)
   have hjY:j<Y.length:=by rw[hY.al.len];exact hj
   have hYx:B8 x 0 Y=(j:Int):=by rw[hY.al.D0q,f1]
   have hgY:Y.getD j (dft A0)=Y[j]:=by rw[B3,D1 hjY];rfl
   have hgS:(Y.set i' (M4 L[i'] T)).getD j (dft A0)=Y[j]:=by
    rw[B3,List.getElem?_set_ne (fun e=>hji e.symm),D1 hjY];rfl
   have hhere:(Y[j]).2.1=true:=by
    obtain⟨j',hj',k1,k2,k3⟩:=S4 (L:=Y) (n:=x) (by rw[hYx];omega);have:j'=j:=by rw[hYx] at k1;omega
    subst this;exact k3
   have hq:=hY.gd j hjY hji;have e0:A42 key list id Y x=bif (S1 Y[j] key list).2 then Y.set j (S1 Y[j] key list).1 else Y:=by
    unfold A42 y8;rw[T4 hxi,A9];simp only;rw[hYx,C6,hgY];cases (S1 Y[j] key list).2<;>rfl
   have e1:y8 key list (Y.set i' (M4 L[i'] T),c) x=((A42 key list id Y x).set i' (M4 L[i'] T),bif (S1 Y[j] key list).2 then c+1 else c):=by
    rw[e0];unfold y8;simp only;rw[hA.D0q,f1,C6,hgS];cases (S1 Y[j] key list).2 with
    |true=>simp only[A4];rw[List.set_comm _ _ (fun e=>hji e.symm)]
    |false=>rfl
   have hY':SpI U L i' (A42 key list id Y x):=by
    rw[e0];by_cases hk:0≤key∧key≤255
    ·obtain⟨p1,p2⟩:=B7d hU hq hhere hk hkU hl;rw[p1,A4];refine⟨(A6u fun _=>B4i _ _ _).trans hY.al,fun m hm hmi => ?_⟩;rw[A3j];split
     ·exact p2
     ·exact hY.gd m (by simpa using hm) hmi
    ·rw[B8S hk];exact hY
   rw[e1];obtain⟨c',h1,h2,h3,h4,h5⟩:=go _ (bif (S1 Y[j] key list).2 then c+1 else c) hY';refine⟨c',h1,h2,?_,fun hk _ => ?_,fun hk hn => ?_⟩
   ·cases hb:(S1 Y[j] key list).2 with
    |true=>rw[hb,A4] at h3;omega
    |false=>rw[hb,A9] at h3;exact h3
   ·obtain⟨p1,p2⟩:=B7d hU hq hhere hk hkU hl;rw[p1,A4] at h3;omega
   ·have:=h5 hk (fun h=>hn (by simp[h]));rw[B8S hk,A9] at this;exact this
def A5x(L:List (Den A0))(id k:Int):Bool:=(decide (0≤k)&&decide (k≤255))&&(!((hold1 L id k).any fun y=>decide (y=id)) && !(hold1 L id k).isEmpty)
theorem C4g(hU:U.length≤80)(hi:i<L.length)(he:B8 id 0 L=(i:Int))(f:Int->List (Den A7)->List (Den A7)){Y:List (Den A0)}(hY:SpI U L i Y)(T:List (Den A7)){s:Den A7}(hs:s.1∈U∧y7 s.2∧one s.2)
  (hin:A5x L id s.1=false->s∈T):∃ Y',SpI U L i Y'∧Y'=(hold1 L id s.1).foldl (A42 s.1 s.2 id) Y∧spr f id i (Y.set i (M4 L[i] T)) s=Y'.set i (M4 L[i] (rmA (A5x L id) f T s)):=by
 have hA:=B4B (L:=L) hY.al hi T;have hH:hold1 (Y.set i (M4 L[i] T)) id s.1=hold1 L id s.1:=hA.hold1 id s.1;obtain⟨H,hHd⟩:∃ H,H=hold1 L id s.1:=⟨_,rfl⟩;have hany:(H.any fun y=>decide (y=id))=true↔id∈H:=by
  rw[w8];exact⟨fun⟨y,h1,h2⟩=>(I9 h2)▸h1,fun h=>⟨id,h,O5 rfl⟩⟩
 have hgo:A5x L id s.1=((decide (0≤(s.1:Int))&&decide ((s.1:Int)≤255))&&(!(H.any fun y=>decide (y=id)) && !H.isEmpty)):=by rw[hHd];rfl
 obtain⟨c',h1,h2,h3,h4,h5⟩:=B6c hU hi he hs.1 hs.2.2 T H Y 0 (by rw[hHd];exact B1X L id s.1) hY (fun hid=>by
  have hn:A5x L id s.1=false:=by rw[hgo,hany.2 hid];simp
  exact C01 (p:=M4 L[i] T) (hin hn) hs.2.1)
 refine⟨_,h2,by rw[hHd],?_⟩;have hiY:i<(H.foldl (A42 s.1 s.2 id) Y).length:=by rw[h2.al.len];exact hi
 have hg:((H.foldl (A42 s.1 s.2 id) Y).set i (M4 L[i] T)).getD i (dft A0)=M4 L[i] T:=by rw[B3,j2 hiY];rfl
 unfold spr rmA;rw[A8c,hH,← hHd,h1];simp only;rw[hg,Z0,hgo];by_cases hk:0≤s.1∧s.1≤255
 ·rw[O5 hk.1,O5 hk.2];cases ha:H.any fun y=>decide (y=id) with
  |true=>cases decide (c'=0)<;>rfl
  |false =>
   have hid:id ∉ H:=fun h=>by rw[hany.2 h] at ha;cases ha
   cases hE:H with
   |nil =>
    rw[hE] at h1;simp only[A7q,P5] at h1;rw[← h1.2];rfl
   |cons y ys =>
    have:0<c':=h4 hk ⟨y,by rw[hE];simp,fun e=>hid (by rw[hE,e];simp)⟩;rw[T4 (p:=c'=0) (by omega)];rfl
 ·have hf:(decide (0≤(s.1:Int))&&decide ((s.1:Int)≤255))=false:=by
   cases hx:(decide (0≤(s.1:Int))&&decide ((s.1:Int)≤255)) with
   |false=>rfl
   |true =>
    rw[A6] at hx;exact absurd ⟨I9 hx.1,I9 hx.2⟩ hk
  rw[hf,A1o,A9];cases ha:H.any fun y=>decide (y=id) with
  |true=>cases decide (c'=0)<;>rfl
  |false =>
   have hid:id ∉ H:=fun h=>by rw[hany.2 h] at ha;cases ha
   rw[h5 hk hid];rfl
theorem B1I(hU:U.length≤80)(hi:i<L.length)(he:B8 id 0 L=(i:Int)){f:Int->List (Den A7)->List (Den A7)}(hf:∀ k T,A5x L id k=true->(f k T).filter (fun s => !A5x L id s.1)=T.filter fun s => !A5x L id s.1)
  {S:List (Den A7)} (hS:∀ s∈S,s.1∈U∧y7 s.2∧one s.2):∀ (R:List (Den A7)) (Y:List (Den A0)) (T:List (Den A7)),SpI U L i Y->(∀ s∈R,s∈S)->(T.filter fun s => !A5x L id s.1)=(S.filter fun s => !A5x L id s.1) ->
   R.foldl (spr f id i) (Y.set i (M4 L[i] T))=(R.foldl (fun Y s=>(hold1 L id s.1).foldl (A42 s.1 s.2 id) Y) Y).set i (M4 L[i] (R.foldl (rmA (A5x L id) f) T))
 |[],_,_,_,_,_=>rfl
 |s :: R,Y,T,hY,hR,hT=>by
  have hsS:=hR s (by simp);obtain⟨Y',h1,h2,h3⟩:=C4g hU hi he f hY T (hS s hsS) (fun hn=>by
   have:s∈S.filter fun s => !A5x L id s.1:=Y4.2 ⟨hsS,by rw[hn];rfl⟩;rw[← hT] at this;exact(Y4.1 this).1)
  rw[Q1,Q1,Q1,h3,← h2];exact B1I hU hi he hf hS R Y' _ h1 (fun x hx=>hR x (by simp[hx])) ((B3V hf T s).trans hT)
theorem B75(hU:U.length≤80)(hi:i<L.length)(he:B8 id 0 L=(i:Int))(hG:∀ j (hj:j<L.length),j≠i->Gd U L[j])(hS:∀ s∈(L[i]).2.2.2.2.2,s.1∈U∧y7 s.2∧one s.2) :
  (L[i]).2.2.2.2.2.foldl (spr rmI id i) L=(L[i]).2.2.2.2.2.foldl (spr rmS id i) L:=by
 have h0:L.set i (M4 L[i] (L[i]).2.2.2.2.2)=L:=O4 hi;have hY:SpI U L i L:=⟨.refl _,hG⟩;have a:=B1I hU hi he (f:=rmI) (fun k T hk=>B3L hk T) hS (L[i]).2.2.2.2.2 L (L[i]).2.2.2.2.2 hY (fun _ h=>h) rfl;have b:=B1I hU hi he (f:=rmS) (fun k T hk=>B8R hk T) hS (L[i]).2.2.2.2.2 L (L[i]).2.2.2.2.2 hY (fun _ h=>h) rfl;rw[h0] at a b;rw[a,b,C2p]
end
open Go Go.Proofs.YtkmhopbmpeiofaaGreat.Nx Go.RowKit
set_option linter.unusedVariables false
set_option linter.unusedSimpArgs false
theorem C0x{N:Nat}(hN:Big N)(r:List (Den A0))(hr:okz (.sl A0) r):B2k N r=some r:=by
 have hN':1099511627776≤N:=hN;have hl:=hr.1;unfold B2k;refine(f7 r (fun i=>(r,([]:List (Den A0)),r.take i,(i:Int))) (fun i l=>some r) (fun i hi rec_ h => ?_) (fun rec_ => ?_) (by omega))
 ·show(bif _ then _ else _)=_;rw[E3 _ hi,E2 i,F2 _ hi,I5 (B9 i) (by omega)];rw[n9 hN r[i] (hr.2 _ (C2 hi)),A3,dT (p:=((r.take i).length+[r[i]].length)*96≤140737488355328) (by simp only[E7,B5,C8];omega),← List.take_succ_eq_append_getElem hi];exact h
 ·show(bif _ then _ else _)=_;rw[dF (M9 _),w7];rfl
theorem B7m{α:Type}(p:α->Bool):∀ (T:List α) (i:Nat),¬ 0≤Y1 p i T->T.eraseP p=T
 |[],_,_=>rfl
 |t :: ts,i,h=>by
  rw[A3O] at h;rw[A1C];cases hp:p t with
  |true=>rw[hp,A4] at h;omega
  |false =>
   rw[hp,A9] at h;rw[B7m p ts (i+1) h];rfl
theorem B7M{α:Type}(p:α->Bool):∀ (T:List α) (i j:Nat),Y1 p i T=((i+j:Nat):Int)->T.eraseP p=T.take j++T.drop (j+1)∧j<T.length
 |[],i,j,h=>by simp[Y1] at h;omega
 |t :: ts,i,j,h=>by
  rw[A3O] at h;rw[A1C];cases hp:p t with
  |true =>
   rw[hp,A4] at h;have:j=0:=by omega
   subst this;simp
  |false =>
   rw[hp,A9] at h;rcases j with _|j
   ·rcases B1F p ts (i+1) with e|⟨q,a1,a2,e⟩<;>rw[e] at h<;>omega
   ·obtain⟨h1,h2⟩:=B7M p ts (i+1) j (by rw[h];omega);rw[h1];simp;omega
theorem B3D{f:Int->List (Den A7)->List (Den A7)}(hf:∀ k T,(f k T).Sublist T){R:List (Den A0)}(hF:V4 R)(id:Int){i:Nat}(hi:i<R.length)(s:Den A7):V4 (spr f id i R s)∧S7 (spr f id i R s) R:=by
 have h1:=A8q hF id s.1 s.2;have h2:=A7A R id s.1 s.2;unfold spr;generalize (Y0 R id s.1 s.2).1=R' at h1 h2;have hi':i<R'.length:=by rw[h2.len];exact hi
 have hg:R'.getD i (dft A0)=R'[i]:=by rw[B3,D1 hi'];rfl
 have hz:=h1.1.2 _ (C2 hi');cases decide ((Y0 R id s.1 s.2).2.1=0) with
 |true=>exact⟨h1,h2⟩
 |false =>
  cases (hold1 R id s.1).any fun y=>decide (y=id) with
  |true=>exact⟨h1,h2⟩
  |false =>
   simp only[A9];rw[hg];have hsub:=hf s.1 (R'[i]).2.2.2.2.2;have hq:okz A0 (M4 R'[i] (f s.1 (R'[i]).2.2.2.2.2)):=by
    obtain⟨z1,z2,z3,z4,z5,z6⟩:=hz;exact⟨z1,z2,z3,z4,z5,⟨S2 hsub.length_le z6.1,fun x hx=>z6.2 x (hsub.subset hx)⟩⟩
   exact⟨h1.set hi' hq rfl (h1.2 _ (C2 hi')).2.2,(A6u fun _=>rfl).trans h2⟩
theorem C6c(k:Int)(T:List (Den A7)):(rmI k T).Sublist T:=List.eraseP_sublist
theorem B8I(k:Int)(T:List (Den A7)):(rmS k T).Sublist T:=List.filter_sublist
theorem C57{N:Nat}(hN:Big N){kx kr}(R:List (Den A0)){i:Nat}(hi:i<R.length)(S:List (Den A7)){k:Nat}(hk:k<S.length)(id:Int)(hz:okz A0 R[i]) :
  D4 (A5B (Ω:=Den V7) N kx kr) N (id,[],R,(i:Int),S,(k:Int),[],(0:Int))=kx (id,[],R,(i:Int),S,(k:Int),rmS (S[k]).1 (R[i]).2.2.2.2.2):=by
 have hN':=y5 hN;obtain⟨T,hT⟩:∃ T:List (Den A7),T=(R[i]).2.2.2.2.2:=⟨_,rfl⟩;have hTl:T.length≤1048576:=by rw[hT];exact hz.2.2.2.2.2.1
 have hg:List.getD (α:=Den Z3) R ((i:Nat):Int).toNat (dft Z3)=R[i]:=F2 (α:=Den A0) R hi _;rw[← hT];have key:=S3 (B:=A5B (Ω:=Den V7) N kx kr) (A:=List (Den A7)) (fun m a=>(id,[],R,(i:Int),S,(k:Int),a,(m:Int))) (fun m a r=>a.length≤m->r=kx (id,[],R,(i:Int),S,(k:Int),a++rmS (S[k]).1 (T.drop m))) T.length
  (fun m a rec_ hm ih ha=>by
   show(bif _ then _ else _)=_;rw[hg,← hT,E2 i,E3 R hi,E3 T hm,E2 m,E2 k,E3 S hk,F2 S hk,F2 T hm,I5 (B9 m) (by omega),X3 hm];simp only[D0,A4,B5,C8];rw[dT (p:=(a.length+(0+1))*32≤140737488355328) (by omega)];unfold rmS isK;rw[A3l];cases hd:decide ((T[m]).1=(S[k]).1) with
   |true =>
    simp only[N7,A9,E0,E5];exact ih a (by omega)
   |false =>
    simp only[N3,A4,H1];have:=ih (a++[T[m]]) (by simp only[A5,B5,C8];omega);rw[F9] at this;exact this)
  (fun a rec_ ha=>by
   show(bif _ then _ else _)=_;rw[hg,← hT,E2 i,E3 R hi,Y5 T,Q9];simp[rmS])
  N (by omega) []
 have:=key (by simp);simpa using this
theorem B8c{N:Nat}(hN:Big N)(L:List (Den A0))(hF:V4 L)(id:Int) :
  B2E N L id=some (bif decide (B8 id 0 L<0) then L else(L.getD (B8 id 0 L).toNat (dft A0)).2.2.2.2.2.foldl (spr rmS id (B8 id 0 L).toNat) L):=by
 have hN':=y5 hN;unfold B2E;rw[C0x hN L hF.1,A3,Q8 hN L hF.1,A3];by_cases h0:B8 id 0 L<0
 ·rw[dT h0];rfl
 ·rw[dF h0];obtain⟨i,hi,e1,e2,e3⟩:=S4 (L:=L) (n:=id) (by omega);rw[e1,E2 i,E3 L hi];simp only[D0,A4,A9];rw[F2 L hi,C6];have hz:=hF.1.2 _ (C2 hi);obtain⟨S,hS⟩:∃ S:List (Den A7),S=(L[i]).2.2.2.2.2:=⟨_,rfl⟩;have hSz:okz (.sl A7) S:=by rw[hS];exact hz.2.2.2.2.2
  have hSl:S.length≤1048576:=hSz.1;rw[← hS];have key:=S3 (B:=A77 N (fun (x14,x15)=>some x15) (fun ρ16=>some (ρ16))) (A:=List (Den A0)) (fun k R=>(id,[],R,(i:Int),S,(k:Int))) (fun k R r=>V4 R->S7 R L->r=some ((S.drop k).foldl (spr rmS id i) R)) S.length
   (fun k R rec_ hk ih h1 h2=>by
    have hiR:i<R.length:=by rw[h2.len];exact hi
    have hsk:okz A7 S[k]:=hSz.2 _ (C2 hk);have hnx:=B3D (f:=rmS) B8I h1 id hiR S[k];have ih':=ih _ hnx.1 (hnx.2.trans h2);have hp:=A8q h1 id (S[k]).1 (S[k]).2;have hpa:=A7A R id (S[k]).1 (S[k]).2;have hH:(Y0 R id (S[k]).1 (S[k]).2).2.2=hold1 R id (S[k]).1:=by rw[A8c]
    have hHl:(hold1 R id (S[k]).1).length≤2097152:=by
     unfold hold1;cases (M5 R (S[k]).1 65 id 0).2 with
     |false=>simp
     |true=>have:=A2i R (M5 R (S[k]).1 65 id 0).1.1;simp only[A4];omega
    show(bif _ then _ else _)=_;rw[E3 S hk,E2 k,F2 S hk,I5 (B9 k) (by omega),B1M hN R h1 id _ _ hsk.2.1,A3,X3 hk,Q1];simp only[D0,A4];rw[hH,B5C hN _ id hHl,A3];unfold spr at ih' ⊢;generalize (Y0 R id (S[k]).1 (S[k]).2).1=R' at hp hpa ih' ⊢
    have hiR':i<R'.length:=by rw[hpa.len];exact hiR
    generalize decide ((Y0 R id (S[k]).1 (S[k]).2).2.1=0)=b1 at ih' ⊢;cases b1 with
    |true=>exact ih'
    |false =>
     generalize ((hold1 R id (S[k]).1).any fun y=>decide (y=id))=b2 at ih' ⊢;cases b2 with
     |true=>exact ih'
     |false =>
      simp only[A9] at ih' ⊢;refine(C57 hN R' hiR' S hk id (hp.1.2 _ (C2 hiR'))).trans ?_;have hg:List.getD (α:=Den Z3) R' ((i:Nat):Int).toNat (dft Z3)=R'[i]:=F2 (α:=Den A0) R' hiR' _;have hg2:R'.getD i (dft A0)=R'[i]:=by rw[B3,D1 hiR'];rfl
      simp only;rw[hg,E2 i,E3 R' hiR',I5 (B9 k) (by omega),C6];rw[hg2] at ih' ⊢;exact ih')
   (fun R rec_ h1 h2=>by
    show(bif _ then _ else _)=_;rw[Y5 S,Q9];rfl)
   N (by omega) L
  have:=key hF (.refl _);rw[N8] at this;exact this
theorem B9e{N:Nat}(hN:Big N)(L:List (Den A0))(hF:V4 L)(id key:Int):B5r N L id key=some ((hold1 L id key).any fun y=>decide (y=id)):=by
 unfold B5r hold1;rw[A9J hN L hF,A3];cases (M5 L key 65 id 0).2 with
 |false=>rfl
 |true =>
  have:=A2i L (M5 L key 65 id 0).1.1;simp only[A4];rw[A2z hN L hF.1,A3,A8L hN _ id (by omega)];rfl
theorem B74{N:Nat}(hN:Big N)(hN2:4398046511104<N)(L:List (Den A0))(hF:V4 L)(id:Int) :
  B2P N L id=some (bif decide (B8 id 0 L<0) then L else(L.getD (B8 id 0 L).toNat (dft A0)).2.2.2.2.2.foldl (spr rmI id (B8 id 0 L).toNat) L):=by
 have hN':=y5 hN;unfold B2P;rw[A0r hN L hF.1,A3,W6 hN L hF.1,A3];by_cases h0:B8 id 0 L<0
 ·rw[dT h0];rfl
 ·rw[dF h0];obtain⟨i,hi,e1,e2,e3⟩:=S4 (L:=L) (n:=id) (by omega);rw[e1,E2 i,E3 L hi];simp only[D0,A4,A9];rw[F2 L hi,C6];have hz:=hF.1.2 _ (C2 hi);obtain⟨S,hS⟩:∃ S:List (Den A7),S=(L[i]).2.2.2.2.2:=⟨_,rfl⟩;have hSz:okz (.sl A7) S:=by rw[hS];exact hz.2.2.2.2.2
  have hSl:S.length≤1048576:=hSz.1;rw[← hS];have key:=S3 (B:=A7O N (fun (x7,x8)=>some x8) (fun ρ9=>some (ρ9))) (A:=List (Den A0)) (fun k R=>(id,[],R,(i:Int),S,(S.length:Int),(k:Int))) (fun k R r=>V4 R->S7 R L->r=some ((S.drop k).foldl (spr rmI id i) R)) S.length
   (fun k R rec_ hk ih h1 h2=>by
    have hiR:i<R.length:=by rw[h2.len];exact hi
    have hsk:okz A7 S[k]:=hSz.2 _ (C2 hk);have hnx:=B3D (f:=rmI) C6c h1 id hiR S[k];have ih':=ih _ hnx.1 (hnx.2.trans h2);have hp:=A8q h1 id (S[k]).1 (S[k]).2;have hpa:=A7A R id (S[k]).1 (S[k]).2;show(bif _ then _ else _)=_
    rw[E3 S hk,E2 k,F2 S hk,I5 (B9 k) (by omega),A9W hN hN2 R h1 id _ _ hsk.2.1,A3,X3 hk,Q1];simp only[D0,A4];rw[B9e hN _ hp,A3,hpa.hold1];unfold spr at ih' ⊢;generalize (Y0 R id (S[k]).1 (S[k]).2).1=R' at hp hpa ih' ⊢;have hiR':i<R'.length:=by rw[hpa.len];exact hiR
    generalize decide ((Y0 R id (S[k]).1 (S[k]).2).2.1=0)=b1 at ih' ⊢;cases b1 with
    |true=>exact ih'
    |false =>
     generalize ((hold1 R id (S[k]).1).any fun y=>decide (y=id))=b2 at ih' ⊢;cases b2 with
     |true=>exact ih'
     |false =>
      simp only[A9] at ih' ⊢;have hg2:R'.getD i (dft A0)=R'[i]:=by rw[B3,D1 hiR'];rfl
      have hself:R'.set i ((R'[i]).1,(R'[i]).2.1,(R'[i]).2.2.1,(R'[i]).2.2.2.1,(R'[i]).2.2.2.2.1,(R'[i]).2.2.2.2.2)=R':=O4 hiR';have hpz:=hp.1.2 _ (C2 hiR');have hTl:(R'[i]).2.2.2.2.2.length≤1048576:=hpz.2.2.2.2.2.1;rw[E2 i,E3 R' hiR',F2 R' hiR',C6,W3];simp only[D0,A4];rw[hself]
      have hsh:A7D N ((R'[i]).1,(R'[i]).2.1,(R'[i]).2.2.1,(R'[i]).2.2.2.1,(R'[i]).2.2.2.2.1,(R'[i]).2.2.2.2.2) (S[k]).1=some (Y1 (isK (S[k]).1) 0 (R'[i]).2.2.2.2.2):=A5S hN R'[i] hpz (S[k]).1;rw[hsh,A3,hg2];rw[hg2] at ih';by_cases hf:0≤Y1 (isK (S[k]).1) 0 (R'[i]).2.2.2.2.2
      ·rw[dT hf];obtain⟨j,hj⟩:∃ j:Nat,Y1 (isK (S[k]).1) 0 (R'[i]).2.2.2.2.2=(j:Int):=⟨(Y1 (isK (S[k]).1) 0 (R'[i]).2.2.2.2.2).toNat,by omega⟩;obtain⟨er,hjl⟩:=B7M (isK (S[k]).1) (R'[i]).2.2.2.2.2 0 j (by rw[hj,E1]);have hdel:B45 N (R'[i]).2.2.2.2.2 (j:Int) ((j+1:Nat):Int)=some (rmI (S[k]).1 (R'[i]).2.2.2.2.2,((),((),()))):=by
        unfold B45;rw[E2 j,E3 (R'[i]).2.2.2.2.2 hjl,dT (p:=(R'[i]).2.2.2.2.2.length≤1000000000) (by omega),dT (p:=((j+1:Nat):Int)=(j:Int)+1) (by omega)];unfold rmI A6K;rw[er,C6];rfl
       rw[hj,I5 (B9 j) (by omega),hdel,A3];exact ih'
      ·rw[dF hf];have:M4 R'[i] (rmI (S[k]).1 (R'[i]).2.2.2.2.2)=R'[i]:=by
        unfold rmI;rw[B7m _ _ _ hf];rfl
       rw[this,O4] at ih' ⊢;exact ih')
   (fun R rec_ h1 h2=>by
    show(bif _ then _ else _)=_;rw[Y5 S,Q9];rfl)
   N (by omega) L
  have:=key hF (.refl _);rw[N8] at this;exact this
open Go Go.Proofs.YtkmhopbmpeiofaaGreat.Nx Go.RowKit
set_option linter.unusedVariables false
set_option linter.unusedSimpArgs false
set_option maxRecDepth 100000
def B1K(k:Nat)(L:List (Den A0)):Prop:=∃ U:List Int,U.length≤k∧∀ p∈L,∀ s∈p.2.2.2.2.2,s.1∈U
def A0H(k:Nat)(L:List (Den A0)):Prop:=A29 k L∧B1K k L
theorem B1K.more{k k':Nat}(hk:k≤k'){L:List (Den A0)}(h:B1K k L):B1K k' L:=let ⟨U,h1,h2⟩:=h;⟨U,S2 h1 hk,h2⟩
theorem A0H.more{k k':Nat}(hk:k≤k'){L:List (Den A0)}(h:A0H k L):A0H k' L:=⟨h.1.more hk,h.2.more hk⟩
theorem B3k{k:Nat}{L:List (Den A0)}(h:B1K k L)(i:Nat){q:Den A0}(hq:∀ s∈q.2.2.2.2.2,∃ p∈L,s∈p.2.2.2.2.2):B1K k (L.set i q):=by
 obtain⟨U,h1,h2⟩:=h;refine⟨U,h1,fun p hp s hs => ?_⟩;rcases H5 hp with hp|rfl
 ·exact h2 p hp s hs
 ·obtain⟨p0,k1,k2⟩:=hq s hs;exact h2 p0 k1 s k2
theorem B2t{L:List (Den A0)}(i:Nat):∀ s∈(L.getD i (dft A0)).2.2.2.2.2,∃ p∈L,s∈p.2.2.2.2.2:=by
 intro s hs;rw[B3] at hs;by_cases hi:i<L.length
 ·rw[D1 hi] at hs;exact⟨L[i],C2 hi,hs⟩
 ·rw[T1 (by omega)] at hs;cases hs
theorem C0Z{N k:Nat}(hN:Big N)(hk:k≤1048576)(L:List (Den A0))(h:A0H k L)(id by_:Int)(hid:0≤id∧id≤255):∃ q,A09 N L id by_=some q∧A0H k q.1:=by
 obtain⟨q,e,hq⟩:=C2w hN hk L h.1 id by_ hid;have e2:=B0K hN L (h.1.1.f hk) h.1.1.2.1 id by_;rw[e] at e2;have:=P3 e2;subst this;refine⟨_,e,hq,?_⟩;unfold A5r;cases decide (A0t id 0 L<0) || !(M5 L id 65 by_ 0).2 with
 |true=>exact h.2
 |false=>exact B3k h.2 _ fun s hs=>by cases hs
theorem C6t{N k:Nat}(hN:Big N)(hk:k≤1048576)(L:List (Den A0))(h:A0H k L)(id:Int):∃ q,A3J N L id=some q∧A0H k q.1:=by
 obtain⟨q,e,hq⟩:=C51 hN hk L h.1 id;have e2:=A9i hN L (h.1.1.f hk) h.1.1.2.1 id;rw[e] at e2;have:=P3 e2;subst this;refine⟨_,e,hq,?_⟩;cases hg:(Y3 L id).2 with
 |false=>rw[B57 hg];exact h.2
 |true=>rw[B4g hg];exact B3k h.2 _ fun s hs=>by cases hs
theorem B77{N k:Nat}(hN:Big N)(hk:k≤1048576)(L:List (Den A0))(h:A0H k L)(id:Int):∃ q,A4x N L id=some q∧A0H k q.1:=by
 obtain⟨q,e,hq⟩:=B7T hN hk L h.1 id;have e2:=A8I hN L (h.1.1.f hk) id;rw[e] at e2;have:=P3 e2;subst this;refine⟨_,e,hq,?_⟩;unfold A4H;cases decide (B8 id 0 L<0) with
 |true=>exact h.2
 |false=>exact B3k h.2 _ (B2t _)
theorem C1y{N k:Nat}(hN:Big N)(hk:k≤1048576)(L:List (Den A0))(h:A0H k L)(id:Int):∃ q,A5h N L id=some q∧A0H k q.1:=by
 obtain⟨q,e,hq⟩:=C1K hN hk L h.1 id;have e2:=A6Q hN L (h.1.1.f hk).1 id;rw[e] at e2;have:=P3 e2;subst this;refine⟨_,e,hq,?_⟩;unfold A5p;cases decide (B8 id 0 L<0) with
 |true=>exact h.2
 |false =>
  cases decide (F7 L id<0) with
  |true=>exact h.2
  |false =>
   simp only[A9]
   generalize (bif decide (0≤B8 (List.getD L (B8 (F7 L id) 0 L).toNat (dft A0)).2.2.1 0 L)&&(!decide ((List.getD L (B8 (F7 L id) 0 L).toNat (dft A0)).2.2.1=F7 L id)&&(!decide ((List.getD L (B8 (F7 L id) 0 L).toNat (dft A0)).2.2.1=id)&&c8 id (List.getD L (B8 (F7 L id) 0 L).toNat (dft A0)).2.2.1 (F7 L id))) then(List.getD L (B8 (F7 L id) 0 L).toNat (dft A0)).2.2.1 else F7 L id)=n'
   have h1:B1K k (L.set (B8 id 0 L).toNat (setB (L.getD (B8 id 0 L).toNat (dft A0)) (X7 L n' id))):=B3k h.2 _ (B2t _);cases (decide (B8 (List.getD L (B8 n' 0 L).toNat (dft A0)).2.2.1 0 L<0)||c8 (List.getD L (B8 n' 0 L).toNat (dft A0)).2.2.1 id n') with
   |true=>exact B3k h1 _ (B2t _)
   |false=>exact h1
theorem C2i{U:List Int}{key:Int}{list:List (Den A8)}(hk:key∈U):∀ (H:List Int) (a:List (Den A0)×Int),(∀ p∈a.1,∀ s∈p.2.2.2.2.2,s.1∈U)->∀ p∈(H.foldl (y8 key list) a).1,∀ s∈p.2.2.2.2.2,s.1∈U
 |[],_,h=>h
 |x :: xs,a,h=>by
  refine C2i hk xs _ ?_;unfold y8;cases (S1 (a.1.getD (B8 x 0 a.1).toNat (dft A0)) key list).2 with
  |false=>exact h
  |true =>
   intro p hp s hs;rcases H5 hp with hp|rfl
   ·exact h p hp s hs
   ·have hG:∀ t∈(a.1.getD (B8 x 0 a.1).toNat (dft A0)).2.2.2.2.2,t.1∈U:=fun t ht=>by
     obtain⟨p0,k1,k2⟩:=B2t _ t ht;exact h p0 k1 t k2
    generalize a.1.getD (B8 x 0 a.1).toNat (dft A0)=q at hs hG;unfold S1 A1y at hs;revert hs;cases R4 (M4 q (X9 key (K7 (P9 key q.2.2.2.2.2) list) q.2.2.2.2.2)) with
    |false=>exact fun hs=>hG s hs
    |true =>
     intro hs;rcases A5y key _ _ s hs with rfl|hs
     ·exact hk
     ·exact hG s hs
theorem B9p{N k:Nat}(hN:Big N)(hk:k≤1000)(L:List (Den A0))(h:A0H k L)(by_ key:Int)(list:List (Den A8))(hl:oki 1 list):∃ q,a9 N L by_ key list=some q∧A0H (k+4) q.1:=by
 obtain⟨q,e,hq⟩:=C0g hN hk L h.1 by_ key list hl;have e2:=A81 hN L (h.1.1.f (by omega)) by_ key list (by have:=hl.1;omega);rw[e] at e2;have:=P3 e2;subst this;refine⟨_,e,hq,?_⟩;obtain⟨U,h1,h2⟩:=h.2;refine⟨key :: U,by simp only[B5];omega,?_⟩;show ∀ p∈(Y0 L by_ key list).1,_;rw[A8c]
 exact C2i (by simp) _ (L,0) fun p hp s hs=>I7 _ (h2 p hp s hs)
theorem C1v:A1h.all (fun L=>(A4G L).all fun p=>decide (List.length (α:=Den A7) p.2.2.2.2.2=0))=true:=by decide +kernel
theorem C6s{L:List Int}(h:L∈A1h):A0H 0 (A4G L):=by
 refine⟨C6j h,[],B9 _,fun p hp s hs => ?_⟩;have:=C1v;rw[D6] at this;have:=this L h;rw[D6] at this;have:=I9 (this p hp);rw[G7.1 this] at hs;cases hs
theorem B7Y{N k:Nat}(hN:Big N)(hk:k≤900){kx kr}{rec_:D3 (.pr (.bv 0 M7) (.pr (.d 1 I) (.pr (.bx 4 C4) (.pr (.bx 5 C4) (.d 6 I)))))->Option ((Den C4)×N9 (.pr (.bv 0 M7) (.d 1 I)))}(c:Den M7)(hc:okC c)(most:Int)(e0 L:List (Den A0))(h:A0H k L)(i:Nat)(hi:(i:Int)<most)(him:i≤1000)
  (R:Option ((Den C4)×N9 (.pr (.bv 0 M7) (.d 1 I)))->Prop) (hr:∀ c' L',okC c'->A0H (k+4) L'->R (rec_ (c',most,e0,L',((i+1:Nat):Int)))) :
  R (A3q N kx kr rec_ (c,most,e0,L,(i:Int))):=by
 have hF:=h.1.1.f (by omega);have hl4:=h.1.1.1.1;have hl8:=h.1.1.1.2;obtain⟨x,c1,e1,x0,x1,hc1⟩:=f6 N c hc (L.length:Int) (by omega);obtain⟨t,c2,e2,t0,t1,hc2⟩:=f6 N c1 hc1 8 (by omega);obtain⟨j,rfl⟩:∃ j:Nat,x=(j:Int):=⟨x.toNat,by omega⟩;have hj:j<L.length:=by omega
 have hid:=(h.1.1.2.2 _ (C2 hj)).1;have up:∀ {L':List (Den A0)},A0H k L'->A0H (k+4) L':=fun h=>h.more (by omega);obtain⟨y,c3,e3,y0,y1,hc3⟩:=f6 N c2 hc2 4 (by omega);obtain⟨m,rfl⟩:∃ m:Nat,y=(m:Int):=⟨y.toNat,by omega⟩;have hm:m<L.length:=by omega
 obtain⟨q1,f1,g1⟩:=C0Z hN (by omega) L h (L[j]).1 (L[m]).1 hid;obtain⟨q2,f2,g2⟩:=C6t hN (by omega) L h (L[j]).1;obtain⟨q3,f3,g3⟩:=B77 hN (by omega) L h (L[j]).1;obtain⟨q4,f4,g4⟩:=C1y hN (by omega) L h (L[j]).1;obtain⟨z,c4,e4,_,_,hc4⟩:=f6 N c2 hc2 256 (by omega)
 obtain⟨w,c5,e5,hw,hc5⟩:=B6v N c4 hc4 [(⟨#[97]⟩:ByteArray),(⟨#[98]⟩:ByteArray),(⟨#[99]⟩:ByteArray)] (by simp);obtain⟨b,c6,e6,hc6⟩:=B3r N c5 hc5 4 (by omega);obtain⟨q5,f5,g5⟩:=B9p hN (by omega) L h (L[j]).1 z [(w,b)] ⟨by simp,fun t ht=>by
  rw[C1.1 ht];simp only[D8,A6a,or_false] at hw;rcases hw with rfl|rfl|rfl<;>exact B9 1⟩
 show R (bif _ then _ else _);rw[dT hi,e1,A3];simp only[A4];rw[E2 j,E3 L hj,F2 L hj,e2];simp only[D0,A4,A3];simp only[e3,e4,e5,e6,f2,f3,f4,f5,A3,E2 m,E3 L hm,F2 L hm,f1,D0,A4,Y7,I5 (B9 i) (by omega:i≤140737488355328)];have r1:=hr c3 q1.1 hc3 (up g1)
 have r2:=hr c2 q2.1 hc2 (up g2);have r3:=hr c2 q3.1 hc2 (up g3);have r4:=hr c2 q4.1 hc2 (up g4);have r5:=hr c6 q5.1 hc6 g5;cases decide (t=0)<;>cases decide (t=1)<;>cases decide (t=2)<;>cases decide (t=3)<;>cases decide (t=4)<;>cases decide (t=5)<;>assumption
theorem B4M{N:Nat}(hN:Big N)(c:Den M7)(hc:okC c)(most:Int)(hm:0≤most∧most≤19):∃ r c',B25 N c most=some (r,c',())∧A0H 76 r∧okC c':=by
 have hN':=y5 hN;unfold B25;obtain⟨L0,c0,e0,hL0,hc0⟩:=C22 N c hc;have hlen:L0.length≤1048576:=by
  have:A1h.all (fun L=>decide (L.length≤8))=true:=by decide
  rw[D6] at this;have:=I9 (this L0 hL0);omega
 rw[e0,A3];simp only;rw[B52 hN L0 hlen,A3];obtain⟨n,hn⟩:∃ n:Nat,most=(n:Int):=⟨most.toNat,by omega⟩;subst hn;have kk:=S3 (B:=A3q N (fun (x44,x45,x46)=>some (x46,x44,())) (fun ρ47=>some (ρ47))) (A:=Den M7×List (Den A0)) (fun i a=>(a.1,(n:Int),[],a.2,(i:Int))) (fun i a r=>okC a.1->A0H (4*i) a.2->∃ q c',r=some (q,c',())∧A0H 76 q∧okC c') n
  (fun i a rec_ hi ih h1 h2=>by
   refine B7Y hN (k:=4*i) (by omega) a.1 h1 (n:Int) [] a.2 h2 i (by omega) (by omega) (fun r=>∃ q c',r=some (q,c',())∧A0H 76 q∧okC c') (fun c' L' g1 g2 => ?_);exact ih (c',L') g1 (g2.more (by omega)))
  (fun a rec_ h1 h2=>by
   show ∃ q c',(bif _ then _ else _)=_∧_;rw[dF (p:=(n:Int)<(n:Int)) (by omega)];exact⟨_,_,rfl,h2.more (by omega),h1⟩)
  N (by omega) (c0,A4G L0)
 obtain⟨q,c',e,g1,g2⟩:=kk hc0 (C6s hL0);have e':D4 (A3q N (fun (x44,x45,x46)=>some (x46,x44,())) (fun ρ47=>some (ρ47))) N (c0,(n:Int),[],A4G L0,(0:Int))=some (q,c',()):=e;rw[e'];exact⟨q,c',rfl,g1,g2⟩
theorem Gd.more{U:List Int}{x:Int}{q:Den A0}(h:Gd U q):Gd (x :: U) q:=⟨h.1,fun s hs=>by
 obtain⟨a,b,c,d⟩:=h.2 s hs;exact⟨a,I7 _ b,c,d⟩⟩
theorem C9E{U:List Int}{p:Den A0}(h:R4 p=true)(k:∀ s∈p.2.2.2.2.2,s.1∈U∧one s.2):Gd U p:=by
 refine⟨h,fun s hs => ?_⟩;obtain⟨k1,k2⟩:=k s hs;unfold R4 at h;cases hh:p.2.1 with
 |false =>
  rw[hh] at h;simp only[A9,A6,D7] at h;have:List.length (α:=Den A7) p.2.2.2.2.2=0:=by have:=h.2.2.2.2;omega
  rw[G7.1 this] at hs;cases hs
 |true =>
  rw[hh] at h;simp only[A4,A6] at h;obtain⟨i,hi⟩:=A53 _ _ _ h.2.2.2.2.2.2.2 s hs;unfold Y6 at hi;rw[A6,A6,A6] at hi;have h1:=hi.1;unfold inR at h1;simp only[A6,D7] at h1;exact⟨h1,k1,C2v hi.2.2.1,k2⟩
def A8Z(L:List (Den A0))(id:Int):Prop:=C33 L∧∃ U:List Int,U.length≤80∧(∀ p∈L,p.1≠id->Gd U p)∧∀ p∈L,∀ s∈p.2.2.2.2.2,s.1∈U∧y7 s.2∧one s.2
theorem A3H{N:Nat}(hN:Big N)(c:Den M7)(hc:okC c):∃ L id c',A8u N c=some ((L,id),c')∧A8Z L id∧okC c':=by
 obtain⟨t,c1,e1,t0,t1,hc1⟩:=f6 N c hc 14 (by omega);obtain⟨y,c2,e2,y0,y1,hc2⟩:=f6 N c1 hc1 60 (by omega);obtain⟨z,c3,e3,z0,z1,hc3⟩:=f6 N c2 hc2 12 (by omega);obtain⟨L,c4,e4,hS,hc4⟩:=B4M hN c3 hc3 z ⟨z0,by omega⟩;have hI:=hS.1.1;have hb:=hS.1.2.base;have hF:=hI.f (by omega);have hl4:=hI.1.1;have hl8:=hI.1.2
 have hA:C33 L:=⟨hF,by omega,hI.2.1,⟨0,1,by omega,by omega,by omega,hb 0 (by omega) (by omega),hb 1 (by omega) (by omega)⟩⟩;unfold A8u;simp only[e1,e2,e3,e4,A3];rw[p7 hN L hF.1,A3,dF (p:=(L.length:Int)=0) (by omega)];have j0:=A1V (L.length:Int) y0;have j1:=A0Y y (b:=(L.length:Int)) (by omega)
 generalize y.tmod (L.length:Int)=jj at j0 j1;obtain⟨j,rfl⟩:∃ j:Nat,jj=(j:Int):=⟨jj.toNat,by omega⟩;have hj:j<L.length:=by omega
 have w2:wrap64 ((j:Int)+2)=((j+2:Nat):Int):=by rw[w64 (by omega) (by omega)];rfl
 rw[w2];have m0:=A1V (L.length:Int) (show(0:Int)≤((j+2:Nat):Int) by omega);have m1:=A0Y ((j+2:Nat):Int) (b:=(L.length:Int)) (by omega);have hself:(L.set j ((L[j]).1,(L[j]).2.1,(L[j]).2.2.1,(L[j]).2.2.2.1,(L[j]).2.2.2.2))=L:=O4 hj
 simp only[N3,A4,E2 j,E3 L hj,D0,F2 L hj,C6,W3,Y7];have hgd:List.getD (α:=Den A0) L j (dft A0)=L[j]:=by rw[B3,D1 hj];rfl
 have hb3:=(hI.2.2 _ (C2 hj)).2.2.1.1;rw[dT m0,dT m1];simp only[hgd,hself,E3 L hj,D0,A4,Y7,B5,C8];have hq:=hI.2.2 _ (C2 hj);have hz:=B13 (by omega) hq;have hset:∀ q:Den A0,okz A0 q->q.1=(L[j]).1->(∀ x∈q.2.2.2.1,x≠(L[j]).1)->C33 (L.set j q):=fun q g1 g2 g3=>by
  refine⟨⟨⟨by rw[G1];omega,fun p hp => ?_⟩,fun p hp => ?_⟩,by rw[G1];omega,B4w hI.2.1 hj g2,C6Z hl4 hb j q⟩
  ·rcases H5 hp with hp|rfl
   ·exact hF.1.2 p hp
   ·exact g1
  ·rcases H5 hp with hp|rfl
   ·exact hF.2 p hp
   ·rw[g2];exact⟨hq.1.1,hq.1.2,g3⟩
 obtain⟨z1,z2,z3,z4,z5,z6⟩:=hz;have hsl:List.length (α:=Den A7) (L[j]).2.2.2.2.2≤80:=by have:=hq.2.2.2.1;omega
 have hne:(List.getD (α:=Den A0) L (((j+2:Nat):Int).tmod (L.length:Int)).toNat (dft A0)).1≠(L[j]).1:=by
  rw[Int.tmod_eq_emod_of_nonneg (by omega)] at m0 m1 ⊢;obtain⟨m,hm⟩:∃ m:Nat,((j+2:Nat):Int) % (L.length:Int)=(m:Int):=⟨(((j+2:Nat):Int) % (L.length:Int)).toNat,by omega⟩;rw[hm] at m0 m1 ⊢;have hmj:m≠j:=by
   rcases D9 (j+2) L.length with h|h
   ·rw[Int.emod_eq_of_lt (by omega) (by omega)] at hm;omega
   ·have:((j+2:Nat):Int) % (L.length:Int)=((j+2:Nat):Int)-(L.length:Int):=by
     rw[← Int.sub_emod_right,Int.emod_eq_of_lt (by omega) (by omega)]
    omega
  have hml:m<L.length:=by omega
  rw[C6,B3,D1 hml];intro e;have hn:=hI.2.1;rw[A0d,O9] at hn;rcases D9 m j with h|h
  ·exact hn m j (by simpa using hml) (by simpa using hj) h (by simpa using e)
  ·exact hn j m (by simpa using hj) (by simpa using hml) (by omega) (by simpa using e.symm)
 rw[dT (p:=(0+1+List.length (L[j]).2.2.2.1)*8≤140737488355328) (by omega),dT (p:=(0+(0+1))*8≤140737488355328) (by omega),dT (p:=(List.length (α:=Den A7) (L[j]).2.2.2.2.2+(0+1))*32≤140737488355328) (by omega)];obtain⟨U,hU,hUk⟩:=hS.2;have hg:∀ p∈L,Gd (y*5 :: U) p:=fun p hp=>(C9E (hS.1.2.ok p hp) (fun s hs=>⟨hUk p hp s hs,((hI.2.2 p hp).2.2.2.2 s hs).2⟩)).more
 have hU':(y*5 :: U).length≤80:=by simp only[B5];omega
 have hDall:∀ (L':List (Den A0)) (id:Int),(∀ p∈L',p∈L)->∃ U:List Int,U.length≤80∧(∀ p∈L',p.1≠id->Gd U p)∧∀ p∈L',∀ s∈p.2.2.2.2.2,s.1∈U∧y7 s.2∧one s.2:=fun L' id h =>
  ⟨y*5 :: U,hU',fun p hp _=>hg p (h p hp),fun p hp s hs=>((hg p (h p hp)).2 s hs).2⟩
 have hD:∀ q:Den A0,q.1=(L[j]).1->(∀ s∈q.2.2.2.2.2,s∈(L[j]).2.2.2.2.2∨s=(y*5,[]))->∃ U:List Int,U.length≤80∧(∀ p∈L.set j q,p.1≠(L[j]).1->Gd U p)∧∀ p∈L.set j q,∀ s∈p.2.2.2.2.2,s.1∈U∧y7 s.2∧one s.2:=fun q h1 h2 =>
  ⟨y*5 :: U,hU',fun p hp hne=>by
   rcases H5 hp with hp|rfl
   ·exact hg p hp
   ·exact absurd h1 hne,fun p hp s hs=>by
   rcases H5 hp with hp|rfl
   ·exact((hg p hp).2 s hs).2
   ·rcases h2 s hs with h|rfl
    ·exact((hg _ (C2 hj)).2 s h).2
    ·exact⟨by simp,List.Pairwise.nil,fun t ht=>by cases ht⟩⟩
 have hin:inB (0:Int) (3:Int) (L.length:Int)=true:=by unfold inB;simp;omega
 rw[hin];have w5:wrap64 (y*5)=y*5:=w64 (by omega) (by omega);cases decide (t=0)
 ·cases decide (t=1)
  ·cases decide (t=2)
   ·cases decide (t=3)
    ·cases decide (t=4)
     ·cases decide (t=5)
      ·cases decide (t=6)
       ·exact⟨_,_,_,rfl,⟨hA,hDall _ _ fun _ h=>h⟩,hc4⟩
       ·exact⟨_,_,_,rfl,⟨⟨⟨⟨by rw[E7];omega,fun p hp=>hF.1.2 p (Q0 hp)⟩,fun p hp=>hF.2 p (Q0 hp)⟩,by simp only[E7];omega,by rw[W0];exact hI.2.1.sublist (List.take_sublist _ _),⟨0,1,by rw[E7];omega,by rw[E7];omega,by omega,by rw[A2N];exact hb 0 (by omega) (by omega),by rw[A2N];exact hb 1 (by omega) (by omega)⟩⟩,hDall _ _ fun p hp=>Q0 hp⟩,hc4⟩
      ·exact⟨_,_,_,rfl,⟨hA,hDall _ _ fun _ h=>h⟩,hc4⟩
     ·exact⟨_,_,_,rfl,⟨hset _ ⟨z1,z2,z3,z4,z5,⟨by rw[A5,B5,C8];omega,fun s hs=>by
       rcases C9.1 hs with h|h
       ·exact z6.2 s h
       ·rw[C1.1 h];exact⟨trivial,by simp,fun _ h=>by cases h⟩⟩⟩ rfl hq.2.1,hD _ rfl fun s hs=>by
       rcases C9.1 hs with h|h
       ·exact .inl h
       ·right;rw[C1.1 h,w5]⟩,hc4⟩
    ·exact⟨_,_,_,rfl,⟨hset _ ⟨z1,trivial,z3,z4,z5,z6⟩ rfl hq.2.1,hD _ rfl fun s hs=>.inl hs⟩,hc4⟩
   ·exact⟨_,_,_,rfl,⟨hset _ ⟨z1,z2,z3,z4,⟨by simp,fun _ _=>trivial⟩,z6⟩ rfl hq.2.1,hD _ rfl fun s hs=>.inl hs⟩,hc4⟩
  ·exact⟨_,_,_,rfl,⟨hset _ ⟨z1,z2,z3,⟨by rw[A5,B5,C8];omega,fun _ _=>trivial⟩,z5,z6⟩ rfl (fun x hx=>by
    rcases C9.1 hx with h|h
    ·rw[C1.1 h];exact hne
    ·exact hq.2.1 x h),hD _ rfl fun s hs=>.inl hs⟩,hc4⟩
 ·exact⟨_,_,_,rfl,⟨hset _ ⟨z1,z2,trivial,z4,z5,z6⟩ rfl hq.2.1,hD _ rfl fun s hs=>.inl hs⟩,hc4⟩
open Go Go.Proofs.YtkmhopbmpeiofaaGreat.Nx Go.RowKit
set_option linter.unusedVariables false
set_option linter.unusedSimpArgs false
theorem A79{N:Nat}(hN:Big N)(c:Den M7)(hc:okC c):∃ l c',A5R N c=some (l,c')∧(l.length≤3∧∀ t∈l,t.1.size≤2)∧okC c':=by
 have hN':=y5 hN;unfold A5R;obtain⟨m,hm⟩:∃ m:Nat,m=3:=⟨3,rfl⟩;have key:=S3 (B:=A4S N (fun (x4,x5)=>some (x5,x4)) (fun ρ6=>some (ρ6))) (A:=Den M7×List (Den A8)) (fun i a=>(a.1,a.2,(i:Int))) (fun i a r=>okC a.1->(a.2.length≤i∧∀ t∈a.2,t.1.size≤2)->∃ l c',r=some (l,c')∧(l.length≤3∧∀ t∈l,t.1.size≤2)∧okC c') m
  (fun i a rec_ hi ih h1 h2=>by
   obtain⟨c,l⟩:=a;obtain⟨x,c1,e1,x0,x1,hc1⟩:=f6 N c h1 4 (by omega);obtain⟨t,c2,e2,ht,hc2⟩:=B6v N c1 hc1 [(⟨#[97]⟩:ByteArray),(⟨#[98]⟩:ByteArray),ByteArray.empty,(⟨#[99,99]⟩:ByteArray)] (by simp);obtain⟨b,c3,e3,hc3⟩:=B3r N c2 hc2 3 (by omega);show ∃ l c',(U9 N c (4:Int)).bind _=_∧_;rw[e1,A3];simp only;have hl:l.length≤i:=h2.1;by_cases hx:(i:Int)<x
   ·rw[dT hx,A4,e2,A3];simp only;rw[e3,A3];simp only[B5,C8];rw[dT (p:=(l.length+(0+1))*24≤140737488355328) (by omega),A4,I5 (B9 i) (by omega)];refine ih (c3,l++[(t,b)]) hc3 ⟨by simp only[A5,B5,C8];omega,fun u hu => ?_⟩;rcases C9.1 hu with hu|hu
    ·exact h2.2 u hu
    ·rw[C1.1 hu];simp only[D8,A6a,or_false] at ht;have h2:t.size≤2:=by
      rcases ht with rfl|rfl|rfl|rfl<;>decide
     exact h2
   ·rw[dF hx];exact⟨_,_,rfl,⟨by omega,h2.2⟩,hc1⟩)
  (fun a rec_ h1 h2=>by
   obtain⟨c,l⟩:=a;obtain⟨x,c1,e1,x0,x1,hc1⟩:=f6 N c h1 4 (by omega);show ∃ l c',(U9 N c (4:Int)).bind _=_∧_;rw[e1,A3];simp only;have hl:l.length≤m:=h2.1;rw[dF (p:=(m:Int)<x) (by omega)];exact⟨_,_,rfl,⟨by omega,h2.2⟩,hc1⟩)
  N (by omega) (c,[])
 obtain⟨l,c',e,h1,h2⟩:=key hc ⟨by simp,fun t ht=>by cases ht⟩;have e':D4 (A4S N (fun (x4,x5)=>some (x5,x4)) (fun ρ6=>some (ρ6))) N (c,[],(0:Int))=some (l,c'):=e;rw[e'];exact⟨l,c',rfl,h1,h2⟩
theorem B7Z{N:Nat}(hN:Big N)(code:List Int)(hL:code.length≤1048576):∃ L id key,B44 N code=some (L,id,key)∧A8Z L id:=by
 unfold B44;obtain⟨c,e,hc⟩:=A4Q hN code hL;obtain⟨k,c1,e1,_,hc1⟩:=B80 N c hc [(0:Int),(5:Int),(81:Int),(100:Int),(150:Int),(255:Int),(256:Int),(-1:Int)] (by simp);obtain⟨L,id,c2,e2,hA,_⟩:=A3H hN c1 hc1;simp only[e,e1,e2,A3];exact⟨_,_,_,rfl,hA⟩
theorem B6n{N:Nat}(hN:Big N)(code:List Int)(hL:code.length≤1048576):∃ L id key list,B4X N code=some (L,id,key,list)∧A8Z L id∧list.length≤3:=by
 unfold B4X;obtain⟨c,e,hc⟩:=A4Q hN code hL;obtain⟨l,c1,e1,hl,_⟩:=A79 hN c hc;obtain⟨L,id,key,e2,hD⟩:=B7Z hN code hL;simp only[e,e1,e2,A3];exact⟨_,_,_,_,rfl,hD,hl.1⟩
theorem B9o{N:Nat}(hN:Big N)(code:List Int)(hL:code.length≤1048576):∃ L id key,B5e N code=some (L,id,key)∧A8Z L id:=by
 unfold B5e;obtain⟨c,e,hc⟩:=A4Q hN code hL;obtain⟨L,id,c1,e1,hD,hc1⟩:=A3H hN c hc;obtain⟨k,c2,e2,k0,k1,hc2⟩:=f6 N c1 hc1 256 (by omega);simp only[e,e1,e2,A3];rw[Q8 hN L hD.1.f.1,A3];by_cases h0:0≤B8 id 0 L
 ·rw[dT h0];obtain⟨i,hi,f1,f2,f3⟩:=S4 h0;have hself:L.set i ((L[i]).1,(L[i]).2.1,(L[i]).2.2.1,(L[i]).2.2.2.1,(L[i]).2.2.2.2.1,(L[i]).2.2.2.2.2)=L:=O4 hi;have hgd:L.getD i (dft A0)=L[i]:=by rw[B3,D1 hi];rfl
  rw[f1,E3 L hi,C6,W3];simp only[D0,A4,hgd,hself,E3 L hi];cases decide ((0:Int)<(List.length (α:=Den A7) (L[i]).2.2.2.2.2:Int)) with
  |true=>exact⟨_,_,_,rfl,hD⟩
  |false=>exact⟨_,_,_,rfl,hD⟩
 ·rw[dF h0];exact⟨_,_,_,rfl,hD⟩
theorem B78{N:Nat}(hN:Big N)(code:List Int)(hL:code.length≤1048576):∃ L id,B5c N code=some (L,id)∧A8Z L id:=by
 unfold B5c;obtain⟨c,e,hc⟩:=A4Q hN code hL;obtain⟨L,id,c1,e1,hD,hc1⟩:=A3H hN c hc;simp only[e,e1,A3];exact⟨_,_,rfl,hD⟩
theorem B8l{N:Nat}(hN:Big N)(code:List Int)(hL:code.length≤1048576):∃ a b,B40 N code=some (a,b)∧(a.length≤3∧∀ t∈a,t.1.size≤2)∧(b.length≤3∧∀ t∈b,t.1.size≤2):=by
 unfold B40;obtain⟨c,e,hc⟩:=A4Q hN code hL;obtain⟨a,c1,e1,ha,hc1⟩:=A79 hN c hc;obtain⟨b,c2,e2,hb,hc2⟩:=A79 hN c1 hc1;simp only[e,e1,e2,A3];exact⟨_,_,rfl,ha,hb⟩
theorem B28{N:Nat}(hN:Big N)(code:List Int)(hL:code.length≤1048576):∃ p,B2l N code=some p∧okz A0 p:=by
 unfold B2l;obtain⟨c,e,hc⟩:=A4Q hN code hL;obtain⟨k,c1,e1,k0,k1,hc1⟩:=f6 N c hc 8 (by omega);obtain⟨L,id,c2,e2,hA,_⟩:=A3H hN c1 hc1;have hl:=hA.1.len;simp only[e,e1,e2,A3];have m0:=A1V (L.length:Int) k0;have m1:=A0Y k (b:=(L.length:Int)) (by omega)
 rw[dF (p:=(L.length:Int)=0) (by omega),dT (p:=0≤k.tmod (L.length:Int)) m0,dT (p:=k.tmod (L.length:Int)<(L.length:Int)) m1,W3];exact⟨_,rfl,C1q hA.1.f.1 _⟩
theorem C5f{N:Nat}(hN:Big N)(code:List Int)(hL:code.length≤1048576):∃ p key list,B5g N code=some (p,key,list)∧okz A0 p∧list.length≤3:=by
 unfold B5g;obtain⟨c,e,hc⟩:=A4Q hN code hL;obtain⟨l,c1,e1,hl,hc1⟩:=A79 hN c hc;obtain⟨k,c2,e2,_,hc2⟩:=B80 N c1 hc1 [(0:Int),(7:Int),(255:Int),(256:Int),(-1:Int)] (by simp);obtain⟨p,e3,hp⟩:=B28 hN code hL;simp only[e,e1,e2,e3,A3];exact⟨_,_,_,rfl,hp,hl.1⟩
theorem B9x{N:Nat}(hN:Big N)(code:List Int)(hL:code.length≤1048576):∃ p key,B48 N code=some (p,key)∧okz A0 p:=by
 unfold B48;obtain⟨c,e,hc⟩:=A4Q hN code hL;obtain⟨k,c1,e1,k0,k1,hc1⟩:=f6 N c hc 256 (by omega);obtain⟨p,e3,hp⟩:=B28 hN code hL;obtain⟨b,c2,e2,hc2⟩:=B3r N c1 hc1 2 (by omega);simp only[e,e1,e2,e3,A3];have d1:decide ((0:Int)≤0)=true:=rfl;cases decide ((0:Int)<(List.length (α:=Den A7) p.2.2.2.2.2:Int)) with
 |false=>exact⟨_,_,rfl,hp⟩
 |true =>
  cases b with
  |true=>exact⟨_,_,rfl,hp⟩
  |false=>exact⟨_,_,rfl,hp⟩
theorem A8Z.D0r{L:List (Den A0)}{id:Int}(h:A8Z L id):B9G L:=fun p hp s hs=>by
 obtain⟨_,U,_,_,h3⟩:=h;obtain⟨_,a,b⟩:=h3 p hp s hs;have:=B3M a b;omega
theorem B4D{l:List (Den A8)}{k:Nat}(hk:k≤1048576)(h1:l.length≤1048576)(h2:∀ t∈l,t.1.size≤k):okz (.sl A8) l :=
 ⟨h1,fun t ht=>⟨by have:=h2 t ht;omega,trivial⟩⟩
theorem C7o{L:List (Den A0)}{id:Int}(hD:A8Z L id)(by_ key:Int):okz (.sl A8) (A7l L by_ key).1:=by
 have hU:=hD.2;obtain⟨U,_,_,h3⟩:=hU;have main:∀ (H:List Int) (acc:List (Den A8)),y7 acc∧one acc->y7 (H.foldl (A55 L key) acc)∧one (H.foldl (A55 L key) acc):=by
  intro H;induction H with
  |nil=>exact fun _ h=>h
  |cons x xs ih =>
   intro acc h;refine ih _ ⟨A2W _ _,B0Q h.2 ?_⟩;rcases A9m (key:=key) (S:=(L.getD (B8 x 0 L).toNat (dft A0)).2.2.2.2.2) with e|⟨s,h1,_,e⟩
   ·rw[e];intro t ht;cases ht
   ·rw[e];obtain⟨p,k1,k2⟩:=B2t _ s h1;exact(h3 p k1 s k2).2.2
 unfold A7l;cases (M5 L key 65 by_ 0).2 with
 |false=>exact⟨by simp,fun _ h=>by cases h⟩
 |true =>
  obtain⟨a,b⟩:=main (S8 L (M5 L key 65 by_ 0).1.1) [] ⟨List.Pairwise.nil,fun t ht=>by cases ht⟩;have:=B3M a b;simp only[A4];exact B4D (k:=1) (by omega) (by omega) b
theorem C6A{L:List (Den A0)}(hF:V4 L)(id:Int):okz C4 (B0l L id).1:=by
 unfold B0l;cases decide (B8 id 0 L<0) with
 |true=>exact hF.1
 |false =>
  simp only[A9];cases (Y3 L id).2 with
  |false=>exact hF.1
  |true =>
   simp only[A4];cases decide (0≤B8 (F7 L id) 0 L) with
   |false=>exact B7k hF id
   |true=>exact B8z (B7k hF id) (A83 _ (C1q hF.1 _)) _
theorem B2p{f:Int->List (Den A7)->List (Den A7)}(hf:∀ k T,(f k T).Sublist T)(id:Int){i:Nat}:∀ (S:List (Den A7)) {R:List (Den A0)},V4 R->i<R.length->V4 (S.foldl (spr f id i) R)
 |[],_,h,_=>h
 |s :: S,R,h,hi=>by
  obtain⟨h1,h2⟩:=B3D hf h id hi s;exact B2p hf id S h1 (by rw[h2.len];exact hi)
theorem pure_FnKeepsTold(a0:Den (.sl (.i .u8)))(g0:good (.sl (.i .u8)) a0):∃ N,A2h N a0=some true:=by
 refine⟨8796093022208,?_⟩;have hN:Big 8796093022208:=by show(1099511627776:Nat)≤_;omega
 have hM:4398046511104<8796093022208:=by omega
 generalize 8796093022208=N at hN hM;unfold A2h C0c;by_cases hL:List.length (α:=Int) a0≤1048576
 ·rw[dF (by omega),A3,A9];obtain⟨L1,id1,k1,l1,e1,hD1,hl1⟩:=B6n hN a0 hL;obtain⟨L2,id2,k2,e2,hD2⟩:=B9o hN a0 hL;obtain⟨L3,id3,e3,hD3⟩:=B78 hN a0 hL;obtain⟨z,u,e4,hz,hu⟩:=B8l hN a0 hL;obtain⟨p,k5,l5,e5,hp,hl5⟩:=C5f hN a0 hL;obtain⟨q,k6,e6,hq⟩:=B9x hN a0 hL;have hF1:=hD1.1.f;have hF2:=hD2.1.f;have hF3:=hD3.1.f
  have o1:okz C4 (Y0 L1 id1 k1 l1).1:=(A8q hF1 id1 k1 l1).1;have o2:=C7o hD2 id2 k2;have o3:=C6A hF3 id3;have hml:∀ {a b:List (Den A8)},(a.length≤3∧∀ t∈a,t.1.size≤2)->(b.length≤3∧∀ t∈b,t.1.size≤2)->okz (.sl A8) (K7 a b):=fun {a b} ha hb=>by
   have h1:=A1H (a++b) [];simp only[C8,A5] at h1;have h2:∀ t∈K7 a b,t.1.size≤2:=by
    intro t ht;have:y6 t.1 (K7 a b)=true:=A7B.2 ⟨t,ht,rfl⟩;unfold K7 at this;rw[A4O] at this;unfold y6 at this;simp only[List.any_nil,p9] at this;obtain⟨x,x1,x2⟩:=A7B.1 this;rw[← x2];rcases C9.1 x1 with h|h
    ·exact ha.2 x h
    ·exact hb.2 x h
   exact B4D (k:=2) (by omega) (by unfold K7;omega) h2
  have o4:=hml hz hu;have o5:okz A0 (S1 p k5 l5).1:=A51 hp _;have o6:okz (.sl A8) (P9 k6 q.2.2.2.2.2):=A9s fun s hs=>hq.2.2.2.2.2.2 s hs;have o7:okz (.sl I) (S8 L3 id3):=⟨by have:=A2i L3 id3;omega,fun _ _=>trivial⟩;have hsp:∃ R,okz C4 R∧B2P N L3 id3=some R∧B2E N L3 id3=some R:=by
   rw[B74 hN hM L3 hF3,B8c hN L3 hF3];by_cases h0:B8 id3 0 L3<0
   ·rw[dT h0];exact⟨_,hF3.1,rfl,rfl⟩
   ·rw[dF h0];obtain⟨i,hi,f1,f2,f3⟩:=S4 (L:=L3) (n:=id3) (by omega);have hgd:L3.getD i (dft A0)=L3[i]:=by rw[B3,D1 hi];rfl
    obtain⟨U,hU,hG,hS⟩:=hD3.2;rw[f1,C6,hgd];simp only[A9];rw[B75 hU hi f1 (fun j hj hne=>hG _ (C2 hj) fun e=>hne (A89 hD3.1.nd hj hi (by rw[e,f2]))) (hS _ (C2 hi))];exact⟨_,(B2p B8I id3 _ hF3 hi).1,rfl,rfl⟩
  obtain⟨R,o8,s1,s2⟩:=hsp;simp only[e1,e2,e3,e4,e5,e6,A3,A9W hN hM L1 hF1 _ _ l1 (by omega),A81 hN L1 hF1 _ _ l1 (by omega),C0t hN hM L2 hF2 hD2.D0r,B9A hN L2 hF2 hD2.D0r,
   C1W hN hM L3 hF3,C2T hN L3 hF3 hD3.1.nd,A8N hN hM p hp k5 l5 (by omega),A6y hN p hp k5 l5 (by omega),s1,s2,A2V hM z u (by omega) (by omega),A4F hN z u (by omega) (by omega),A2V hM u z (by omega) (by omega),
   B6t u z,A9D hN q hq,A52 hN q hq,A2z hN L3 hF3.1,A1k hN L3 hF3.1,A9S hN _ o1,A5i hN _ o2,A9S hN _ o3,A5i hN _ o4,B4s hN _ o5,A5i hN _ o6,A8O hN _ o7,A9S hN R o8,
   A0D,Z6,A4]
 ·rw[dT (by omega)];rfl
end Go.Proofs.YtkmhopbmpeiofaaGreat.C
