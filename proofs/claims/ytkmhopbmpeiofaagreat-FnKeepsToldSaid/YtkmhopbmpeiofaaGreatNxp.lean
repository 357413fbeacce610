/- The evaluator runs code as the program does: sound, with no condition beyond those each lemma names. -/
import Derived.Test.YtkmhopbmpeiofaaGreatNxo
set_option linter.unusedVariables false
set_option linter.unusedSimpArgs false
namespace Go.Proofs.YtkmhopbmpeiofaaGreat.Nx
open Go Go.RowKit
section
variable {P:Program} {S:Bool} {Ω:Type} {r:Ω} {Γ:List CX} {Θ:TyO} {n:Nat} {C:Ctx} {t:TS} {a:Act} {w:World}
theorem B9l(hc:M8 C (D2 n t) a w){d:Option Nat}{k:TS→Option Ω}{no:NO}(h:A01 n Θ t d k no=some r):ae (D2 n t) d (Kt k r n) no:=by
 cases no with
 |al z=>exact C7N h
 |bx m x=>exact C8m h
 |bsl sz m ag z ps=>exact C54 h
 |mk sz b ag z l c=>exact C7G h
 |st m x y =>
  obtain⟨N,M,K,hcd⟩:=hc;refine C79 (fun j row off hx T o L e => ?_) (fun j row off hx T L r o c e => ?_) h
  case refine_2 =>
   have ha:(D2 n t).ev x=.ptr j L.length row off:=by rw[J0,hx];simp only[av,A7n e]
   obtain⟨b,m,L1,q1,q2,q3,q4,q5,q6,q7,q8⟩:=hcd.ptr ha (by rw[E6,B2H e];rfl);simpa[tb] using q7
  have ha:(D2 n t).ev x=.ptr j L.length row off:=by rw[J0,hx];simp only[av,T8 e]
  obtain⟨b,m,L1,q1,q2,q3,q4,q5,q6,q7,q8⟩:=hcd.ptr ha (by rw[E6,w9 e];rfl);exact q7
 |app str sz b x y=>exact C65 h
 |csb x=>exact C55 h
 |cpy x y=>exact C6G h
 |isn g x=>exact C53 h
 |_=>cases h
theorem B2O(hΓ:ΓOk P S Γ)(hc:M8 C (D2 n t) a w){o:NOp}{k:TS→Option Ω}(h:B3I Γ Θ n t o k=some r):A8e P S (D2 n t) o (Kt k r n):=by
 have args:∀ l:List Operand,l.map (D2 n t).ev=(l.map (t.ev n)).map (av t.hp):=fun l=>by
  rw[H7];exact E4 fun x _=>J0 n t x
 obtain⟨N,M,L,hcd⟩:=id hc;have reads:∀ no:NO,o.n=no→(chk (rd n t no).1 (k (t.put o.d (rd n t no).2))=some r)→apc (D2 n t) no∧Kt k r n ((D2 n t).put o.d (apv (D2 n t) no)):=fun no _ h=>by
  obtain⟨h1,h2⟩:=m7 h;obtain⟨k1,k2⟩:=B5L hcd no h1;refine⟨k1,Kt.of h2 ?_⟩;rw[T9,k2];exact L7.refl _
 obtain⟨d,g,no⟩:=o;have effs:∀ no:NO,A01 n Θ t d k no=some r→ae (D2 n t) d (Kt k r n) no:=fun no h=>B9l hc h;unfold B3I at h;unfold A8e;cases no with
 |call f l =>
  simp only at h ⊢;rw[args];exact B0E hΓ h
 |callv x l =>
  simp only at h ⊢;rw[J0];split at h
  ·rename_i f cap e;rw[e];simp only[av,O8];rw[args,← G0];exact B0E hΓ h
  ·cases h
 |al z=>exact effs (.al z) h
 |bx m x=>exact effs (.bx m x) h
 |bsl sz m ag z ps=>exact effs (.bsl sz m ag z ps) h
 |mk sz b ag z l c=>exact effs (.mk sz b ag z l c) h
 |st m x y=>exact effs (.st m x y) h
 |app str sz b x y=>exact effs (.app str sz b x y) h
 |csb x=>exact effs (.csb x) h
 |cpy x y=>exact effs (.cpy x y) h
 |dead=>exact effs .dead h
 |isn g x=>exact effs (.isn g x) h
 |_=>exact reads _ rfl h
theorem B1k{s:AS}{g:Nat}{x:AV}(h:s.sl.getD g .any=x):s.put (some g) x=s:=by
 show({ s with sl:=s.sl.set g x }:AS)=s;rcases D9 g s.sl.length with hl|hl
 ·rw[← h,B3,D1 hl];simp
 ·rw[Q6 hl]
theorem A9v(hΓ:ΓOk P S Γ)(hc:M8 C (D2 n t) a w){o:NOp}{k:TS→Option Ω}(h:xst Γ Θ n t o k=some r):stW P S (D2 n t) o (Kt k r n):=by
 unfold xst at h;unfold stW;split at h
 ·rename_i hg;rw[hg];exact B2O hΓ hc h
 ·rename_i g want hg;rw[hg];split at h
  ·rename_i b hb;have hev:(D2 n t).ev (.tmp g)=.val (.bool b):=by
    rw[J0];show av t.hp (t.get n g)=_;rw[hb];rfl
   have hsame:D2 n (t.put (some g) (.v .bl b))=D2 n t:=by
    rw[T9];exact B1k hev
   simp only[hev];have yes:∀ c,b=c→B3I Γ Θ n (t.put (some g) (.v .bl c)) o k=some r→A8e P S ((D2 n t).put (some g) (.val (.bool c))) o (Kt k r n):=by
    rintro c rfl h;have hc':M8 C (D2 n (t.put (some g) (.v .bl b))) a w:=by rw[hsame];exact hc
    have:=B2O hΓ hc' h;rw[T9] at this;exact this
   have no:∀ c,k ((t.put (some g) (.v .bl c)).put o.d (.c undef))=some r→Kt k r n (((D2 n t).put (some g) (.val (.bool c))).put o.d (.val undef)):=fun c h=>by
    refine Kt.of h ?_;rw[T9,T9];exact L7.refl _
   split at h
   ·cases b with
    |true=>exact⟨fun _=>yes true rfl h,fun e=>by cases e⟩
    |false=>exact⟨(fun e=>by cases e),fun _=>no false h⟩
   ·cases b with
    |true=>exact⟨(fun e=>by cases e),fun _=>no true h⟩
    |false=>exact⟨fun _=>yes false rfl h,fun e=>by cases e⟩
  ·rename_i hb;have hev:(D2 n t).ev (.tmp g)=.val (.tuple ⟨[]⟩):=by
    rw[J0];show av t.hp (t.get n g)=_;rw[hb];rfl
   simp only[hev];refine Kt.of h ?_;rw[T9];exact L7.refl _
  ·cases h
variable {ops:Array Oper} {Q:Exit→Act→World→Prop}
theorem B9I(hΓ:ΓOk P S Γ)(hs:Region.noSelect ops=true)(hQ:∀ c a w,¬ Q (.panic c) a w){k:TS→Option Ω}(hK:∀ t a w,k t=some r→M8 C (D2 n t) a w→Q .normal a w) :
  ∀ (fuel:Nat) (listed:Array Bool) (rt:RT),A1d P S ops fuel listed=some rt→∀ (t:TS) (a:Act) (w:World),A6S Γ Θ n rt k t=some r→M8 C (D2 n t) a w→B7n P .any ops Q (A3n P S ops) fuel listed a w:=by
 intro fuel;induction fuel with
 |zero =>
  intro listed rt h t a w hr hc;unfold A1d at h;split at h
  ·rename_i he;cases h;exact⟨by simpa using he,hK _ _ _ hr hc⟩
  ·cases h
 |succ fuel ih =>
  intro listed rt h t a w hr hc;unfold A1d at h;split at h
  ·rename_i i hi;obtain⟨o,nn,t',h1,h2,h3,rfl⟩:=B3a h;have hmem:=List.mem_of_find?_eq_some hi;have hfree:=A6G hi;have hc:=A9F (Θ:=Θ) nn.n hc;have hst:=A9v hΓ hc hr;obtain⟨N,M,L,hcd⟩:=hc;have h2':=h2;unfold B0d at h2';split at h2'
   ·rename_i no g hno hg;cases h2';obtain⟨hrd,hDl,hf⟩:=B9V h1 hno hfree;have hop:nOp P o.op=some no:=by
     rcases B1V hno with h|h|h
     ·exact h
     ·have:=(B4e h).1;rw[hrd] at this;cases this
     ·rcases B0M h with⟨_,_,_,_,rfl⟩|⟨_,_,_,_,rfl⟩<;>cases hrd
    rcases B4z hcd hg hst with⟨hw,ha⟩|⟨hw,hk⟩
    ·obtain⟨c1,t1,c2,c3⟩:=B2a hrd ha;obtain⟨v,⟨q1,q2⟩,rr⟩:=B0A hcd hop c1;have hy:YK P ops no.looks o v a w:=.inl ⟨hw,fun w' hk=>by
      cases hl:no.looks with
      |true=>exact q1 w' (hk hl) o rfl
      |false=>exact q2 hl w' o rfl⟩
     exact B2h h1 (Region.noSelect_spec hs) hQ B6D fuel listed a w hDl hf hmem hy (ih _ _ h3 _ _ _ c2 (c3 C _ _ ⟨N,M,L,hcd.put _ rr⟩))
    ·obtain⟨t1,c2,c3⟩:=hk;have hy:YK P ops no.looks o undef a w:=.inr ⟨hw,rfl⟩;exact B2h h1 (Region.noSelect_spec hs) hQ B6D fuel listed a w hDl hf hmem hy (ih _ _ h3 _ _ _ c2 (c3 C _ _ ⟨N,M,L,hcd.put _ (.val _)⟩))
   ·cases h2'
  ·refine⟨fun he => ?_,fun i hi => ?_⟩
   ·rw[he] at h;cases h;exact hK _ _ _ hr hc
   ·
    have all:∀ (l:List Nat) (rt:RT),A5M (A4J P ops (A1d P S ops fuel) listed) l=some rt→A6S Γ Θ n rt k t=some r→∀ i∈l,∃ rt',A4J P ops (A1d P S ops fuel) listed i=some rt'∧A6S Γ Θ n rt' k t=some r:=by
     intro l;induction l with
     |nil=>intro rt _ _ i hi;cases hi
     |cons j l ihl =>
      intro rt h hr i hi;cases l with
      |nil =>
       simp only[C1] at hi;subst hi;exact⟨rt,h,hr⟩
      |cons j' l =>
       simp only[A5M] at h;split at h
       ·rename_i a b h1 h2;cases h;obtain⟨k1,k2⟩:=B20 hr;rcases D8.1 hi with rfl|hi
        ·exact⟨a,h1,k1⟩
        ·exact ihl b h2 k2 i hi
       ·cases h
    obtain⟨rt',hb,hr'⟩:=all _ _ h hr i hi;obtain⟨o,nn,t'',h3,h4,h5,rfl⟩:=B3a hb;have hc:=A9F (Θ:=Θ) nn.n hc;exact B6l (fun a' w' ⟨s',⟨t1,k1,k2⟩,k3⟩=>ih _ _ h5 t1 a' w' k1 (k2 C _ _ k3)) (B6x hc h3 h4 (A9v hΓ hc hr'))
theorem C9N(hΓ:ΓOk P S Γ){k:TS→Option Ω}(hK:∀ t a w,k t=some r→M8 C (D2 n t) a w→Q .normal a w):∀ (l:List Oper) (j:Nat) (rt:RT),(∀ i,l[i]? = ops[j+i]?)→B7Q P ops l=some rt →
  ∀ (t:TS) (a:Act) (w:World),A6S Γ Θ n rt k t=some r→M8 C (D2 n t) a w→wpOps P ops Q (List.range' j l.length) a w:=by
 intro l;induction l with
 |nil =>
  intro j rt _ h t a w hr hc;cases h;exact hK _ _ _ hr hc
 |cons o l ih =>
  intro j rt hl h t a w hr hc;simp only[B7Q] at h;split at h
  ·rename_i nn t' h1 h2;cases h;have hc:=A9F (Θ:=Θ) nn.n hc;rw[B5,List.range'_succ,wpOps_cons];have h0:ops[j]? = some o:=by simpa using (hl 0).symm
   refine wpOp_mono (fun a' w' ⟨_,s',⟨t1,k1,k2⟩,k3⟩=>ih (j+1) t' (fun i=>by have:=hl (i+1);simpa[G4,Z1 1 i] using this) h2 t1 a' w' k1 (k2 C _ _ k3)) (B6x hc h0 h1 (A9v hΓ hc hr))
  ·cases h
end
open Go Go.RowKit
def V9:NC→List (Nat×NC)
 |.seq a b=>V9 a++V9 b
 |.cond _ a b=>V9 a++V9 b
 |.block id b=>match b with
  |.loop c=>(id,c) :: V9 c
  |b=>V9 b
 |.loop b=>V9 b
 |_=>[]
theorem B8A{R:Type}:∀ {Λ:List (LC R)} {id:Nat} {l:LC R},A2K Λ id=some l→l.id=id
 |[],_,_,h=>by cases h
 |x :: Λ,id,l,h=>by
  simp only[A2K] at h;cases hb:Nat.beq x.id id with
  |true =>
   rw[hb,A4] at h;cases h;simpa using hb
  |false =>
   rw[hb,A9] at h;exact B8A h
section
variable {P:Program} {R:Type} {Γ:List CX} {Θ:TyO} {Λ:List (LC R)} {n:Nat} {res:TS→Option R} {C:Ctx}
def H8(Γ:List CX)(Θ:TyO)(Λ:List (LC R))(n:Nat)(res:TS→Option R)(l:LC R)(B:NC):Prop :=
 ∃ (N:Nat) (lp:∀ (Ω:Type),(D3 l.x→Option Ω)→(R→Option Ω)→(D3 l.s→Option Ω)→D3 l.s→Option Ω),
  (∀ (Ω:Type) (kx:D3 l.x→Option Ω) (kr:R→Option Ω) (s:D3 l.s),l.run kx kr s=D4 (lp Ω kx kr) N s) ∧
  ∀ (Ω:Type) (g:D3 l.s→Option Ω) (kx:D3 l.x→Option Ω) (kr:R→Option Ω) (s:D3 l.s),
   A3T (A25 Γ Θ Λ n res B (fun t=>(A3V n l.q l.s t).bind g) (fun i t=>bif Nat.beq i l.id then(A3V n l.q l.x t).bind kx else none) kr) l.s s=lp Ω kx kr g s
def LQT(C:Ctx)(n:Nat)(res:TS→Option R){Ω:Type}(kn:TS→Option Ω)(ke:Nat→TS→Option Ω)(kr:R→Option Ω)(r:Ω):Exit→Act→World→Prop
 |.normal,a,w=>∃ t,kn t=some r∧M8 C (D2 n t) a w
 |.exit i,a,w=>∃ t,ke i t=some r∧M8 C (D2 n t) a w
 |.ret,a,w=>∃ t ρ,res t=some ρ∧kr ρ=some r∧M8 C (D2 n t) a w
 |_,_,_=>False
theorem C0A{p:Nat→Prop}(h:∃ n,p n):∃ n,p n∧∀ m,p m→n≤m:=by
 obtain⟨n,hn⟩:=h;induction n using Nat.strongRecOn with
 |_ n ih =>
  by_cases hl:∃ m,m<n∧p m
  ·obtain⟨m,h1,h2⟩:=hl;exact ih m h1 h2
  ·refine⟨n,hn,fun m hm => ?_⟩;rcases D9 m n with h|h
   ·exact absurd ⟨m,h,hm⟩ hl
   ·exact h
def XS(P:Program)(Γ:List CX)(Θ:TyO)(Λ:List (LC R))(n:Nat)(res:TS→Option R)(C:Ctx)(nc:NC):Prop :=
 (∀ id B,(id,B)∈V9 nc→∀ l,A2K Λ id=some l→H8 Γ Θ Λ n res l B) →
  ∀ (Ω:Type) (c:Code) (kn:TS→Option Ω) (ke:Nat→TS→Option Ω) (kr:R→Option Ω) (r:Ω) (t:TS) (a:Act) (w:World),
   W9 P c=some nc→A25 Γ Θ Λ n res nc kn ke kr t=some r→M8 C (D2 n t) a w→c.wp P (LQT C n res kn ke kr r) a w
theorem B4p(hm:P.follows .mixedOrders=true)(hΓ:∀ cx∈Γ,A9a P cx){q:Nat}(hC:∀ k,q≤k→C.M0 k=none)(hq:∀ id l,A2K Λ id=some l→q≤l.q):∀ (nc:NC),XS P Γ Θ Λ n res C nc∧∀ B,nc=.loop B→XS P Γ Θ Λ n res C B:=by
 intro nc;induction nc with
 |skip =>
  refine⟨?_,fun B e=>by cases e⟩;intro _ Ω c kn ke kr r t a w hn h hc;rw[C1O hn];exact wp_skip ⟨t,h,hc⟩
 |reg S rt =>
  refine⟨?_,fun B e=>by cases e⟩;intro _ Ω c kn ke kr r t a w hn h hc;obtain⟨id,ops,d,rfl,h1,h2⟩:=C4S hn;have hK:∀ t a w,kn t=some r→M8 C (D2 n t) a w→LQT C n res kn ke kr r .normal a w:=fun t a w k c=>⟨t,k,c⟩;cases d with
  |false =>
   refine wp_region ?_;have:=C9N (C:=C) (Q:=LQT C n res kn ke kr r) (B0e hΓ S) hK ops.toList 0 rt (by simp) (h1 rfl) t a w h hc;simpa[List.range_eq_range'] using this
  |true =>
   obtain⟨k1,k2⟩:=h2 rfl;obtain⟨N,M,L,hcd⟩:=hc;exact wp_region_any hm (A5b _ _ _ _ (B9I (C:=C) (Q:=LQT C n res kn ke kr r) (B0e hΓ S) k1 (fun _ _ _ e=>e) hK _ _ rt k2 t a _ h ⟨N,M,L,hcd.drew _⟩))
 |regs rt rs =>
  refine⟨?_,fun B e=>by cases e⟩;intro _ Ω c kn ke kr r t a w hn h hc;obtain⟨id,ops,rfl,k1,k2,k3⟩:=C2u hn;have hK:∀ t a w,kn t=some r→M8 C (D2 n t) a w→LQT C n res kn ke kr r .normal a w:=fun t a w k c=>⟨t,k,c⟩;simp only[A25] at h;obtain⟨N,M,L,hcd⟩:=hc;cases hb:A9I Γ rt with
  |true =>
   rw[hb,A4] at h;exact wp_region_any hm (A5b _ _ _ _ (B9I (C:=C) (Q:=LQT C n res kn ke kr r) (B0e hΓ true) k1 (fun _ _ _ e=>e) hK _ _ rs k3 t a _ h ⟨N,M,L,hcd.drew _⟩))
  |false =>
   rw[hb,A9] at h;exact wp_region_any hm (A5b _ _ _ _ (B9I (C:=C) (Q:=LQT C n res kn ke kr r) (B0e hΓ false) k1 (fun _ _ _ e=>e) hK _ _ rt k2 t a _ h ⟨N,M,L,hcd.drew _⟩))
 |seq x y ihx ihy =>
  refine⟨?_,fun B e=>by cases e⟩;replace ihx:=ihx.1;replace ihy:=ihy.1;intro hl Ω c kn ke kr r t a w hn h hc;obtain⟨c1,c2,rfl,n1,n2⟩:=C3s hn;refine wp_seq (wp_mono (ihx (fun id B hb=>hl id B (by simp only[V9];exact O3 _ hb)) Ω c1 _ ke kr r t a w n1 h hc) fun e a w q => ?_);cases e with
  |normal =>
   obtain⟨t',k1,k2⟩:=q;exact ihy (fun id B hb=>hl id B (by simp only[V9];exact Q3 _ hb)) Ω c2 kn ke kr r t' a w n2 k1 k2
  |_=>exact q
 |cond o x y ihx ihy =>
  refine⟨?_,fun B e=>by cases e⟩;replace ihx:=ihx.1;replace ihy:=ihy.1;intro hl Ω c kn ke kr r t a w hn h hc;obtain⟨c1,c2,rfl,n1,n2⟩:=C1w hn;simp only[A25] at h;split at h
  ·rename_i p hp;obtain⟨N,M,L,hcd⟩:=hc;have hev:(D2 n t).ev o=.val (.bool p):=by rw[J0,hp];rfl
   refine wp_cond (hcd.evv hev) ?_;cases p with
   |true=>exact ihx (fun id B hb=>hl id B (by simp only[V9];exact O3 _ hb)) Ω c1 kn ke kr r t a w n1 h ⟨N,M,L,hcd⟩
   |false=>exact ihy (fun id B hb=>hl id B (by simp only[V9];exact Q3 _ hb)) Ω c2 kn ke kr r t a w n2 h ⟨N,M,L,hcd⟩
  ·cases h
 |block id b ih =>
  refine⟨?_,fun B e=>by cases e⟩;obtain⟨ih,ihB⟩:=ih;intro hl Ω c kn ke kr r t a w hn h hc;obtain⟨c1,rfl,n1⟩:=B9g hn;have plain:(∀ id B,(id,B)∈V9 b→∀ l,A2K Λ id=some l→H8 Γ Θ Λ n res l B)→A25 Γ Θ Λ n res b kn (fun i t=>bif Nat.beq i id then kn t else ke i t) kr t=some r→(Code.block id c1).wp P (LQT C n res kn ke kr r) a w:=fun hl h=>by
   refine wp_block (wp_mono (ih hl Ω c1 kn _ kr r t a w n1 h hc) fun e a w q => ?_);cases e with
   |exit i =>
    obtain⟨t',k1,k2⟩:=q;simp only at k1;simp only[Exit.inBlock];by_cases hi:i=id
    ·subst hi;simp only[W3,A4] at k1;rw[E9 rfl];exact⟨t',k1,k2⟩
    ·have:Nat.beq i id=false:=by rw[← w6,F4];exact hi
     rw[this,A9] at k1;rw[G6 hi];exact⟨t',k1,k2⟩
   |_=>exact q
  cases b with
  |loop B =>
   simp only[A25] at h;split at h
   ·rename_i l hlc;have hid:=B8A hlc;obtain⟨N,lp,e1,e2⟩:=hl id B (by simp[V9]) l hlc;obtain⟨s,hs,h⟩:=U7.1 h;have hc0:=A6H hC (hq _ _ hlc) hs hc;rw[e1] at h;obtain⟨cB,rfl,nB⟩:=C1G n1;have hround:∀ (g:D3 l.s→Option Ω) (s:D3 l.s) (a:Act) (w:World),lp Ω (A3T kn l.x) kr g s=some r→M8 C (D2 n (stL l.s s)) a w →
      cB.wp P (LQT C n res (fun t=>(A3V n l.q l.s t).bind g) (fun i t=>bif Nat.beq i l.id then(A3V n l.q l.x t).bind (A3T kn l.x) else none) kr r) a w:=by
     intro g s a w h hc;have hin:∀ id' B',(id',B')∈V9 B→∀ l,A2K Λ id'=some l→H8 Γ Θ Λ n res l B':=fun id' B' hb=>hl id' B' (by simp only[V9];exact I7 _ hb);rw[← e2,B38] at h;exact ihB B rfl hin Ω cB _ _ kr r _ a w nB h hc
    refine wp_block ?_
    let J:Nat→Act→World→Prop:=fun m a w=>∃ s,D4 (lp Ω (A3T kn l.x) kr) m s=some r∧M8 C (D2 n (stL l.s s)) a w
    have hJ:∃ m,J m a w:=⟨N,s,h,hc0⟩
    let μ:Act→World→Nat:=fun a w=>by
     classical
     exact if h:∃ m,J m a w then Classical.choose (C0A h) else 0
    refine wp_loop (fun a w=>∃ m,J m a w) μ hJ fun a w hI => ?_;have hμ:J (μ a w) a w:=by
     simp only[μ,dif_pos hI];exact(Classical.choose_spec (C0A hI)).1
    obtain⟨s,k1,k2⟩:=hμ;generalize hm':μ a w=m at k1;cases m with
    |zero=>cases k1
    |succ m =>
     refine wp_mono (hround _ s a w k1 k2) fun e a' w' q => ?_;cases e with
     |normal =>
      obtain⟨t',q1,q2⟩:=q;obtain⟨s',q3,q4⟩:=U7.1 q1;have hy:J m a' w':=⟨s',q4,A6H hC (hq _ _ hlc) q3 q2⟩;refine⟨⟨_,hy⟩,?_⟩;have hex:∃ m,J m a' w':=⟨_,hy⟩;have:μ a' w'≤m:=by
       simp only[μ,dif_pos hex];exact(Classical.choose_spec (C0A hex)).2 _ hy
      omega
     |exit i =>
      obtain⟨t',q1,q2⟩:=q;simp only at q1;cases hi:Nat.beq i l.id with
      |false=>rw[hi] at q1;cases q1
      |true =>
       rw[hi,A4] at q1;simp only[F4] at hi;obtain⟨x,q3,q4⟩:=U7.1 q1;show(if i=id then _ else _)
       rw[E9 (hi.trans hid)];exact⟨_,by rw[B38] at q4;exact q4,A6H hC (hq _ _ hlc) q3 q2⟩
     |ret=>exact q
     |_=>exact q.elim
   ·cases h
  |_=>exact plain (by simpa only[V9] using hl) h
 |loop b ih =>
  refine⟨?_,fun B e=>by cases e;exact ih.1⟩;intro _ Ω c kn ke kr r t a w hn h hc;cases h
 |exit id =>
  refine⟨?_,fun B e=>by cases e⟩;intro _ Ω c kn ke kr r t a w hn h hc;rw[C2M hn];exact wp_exit ⟨t,h,hc⟩
 |ret =>
  refine⟨?_,fun B e=>by cases e⟩;intro _ Ω c kn ke kr r t a w hn h hc;rw[C20 hn];simp only[A25] at h;split at h
  ·rename_i ρ h1;exact wp_ret ⟨A0e t,ρ,h1,h,A4A hc⟩
  ·obtain⟨ρ,h1,h2⟩:=U7.1 h;exact wp_ret ⟨t,ρ,h1,h2,hc⟩
end
open Go Go.RowKit
section
variable {P:Program} {n:Nat} {t:TS} {C:Ctx} {a:Act} {w:World} {N N':NT} {M M':MT} {L:List (Nat×Nat)} {ℓ ℓ':Nat→List (Nat×Nat)} {hpT:THP}
theorem B3d(hc:H4 C (D2 n t) a w N M L){r:NR}(h:Hc (A8x n t r).1):A9u (D2 n t) r∧B3w (D2 n t) r=av t.hp (A8x n t r).2:=by
 cases r with
 |t x=>exact⟨trivial,J0 n t (.tmp x)⟩
 |c x m ag=>exact B5L hc (.ld m ag (.tmp x)) h
theorem B8d{T:Ty}{z:TV}{y:Den T}{l:List (Option Nat)}(h:A98 t.hp T z=some (y,l))(base:Nat) :
  (A0x base T y).2.length=l.length∧∀ (hN:∀ b o,N b o→N' b o) (hH:∀ (i:Nat) (x:Option Blk),(F1 t.hp)[i]? = some x→HB w N M i x (ℓ i)) (hA:At M M' ℓ ℓ' hpT base l (A0x base T y).2),
   (∀ i b,(A0x base T y).2[i]? = some b→HB w N' M' (base+i) (some (tb hpT b)) (ℓ' (base+i))) ∧
   ∀ v,Rep w N M (av t.hp z) v []→Rep w N' M' (av hpT (A0x base T y).1) v []:=by
 unfold A98 at h;unfold A0x;cases hf:T.flat with
 |true =>
  rw[hf,A4] at h;obtain⟨y',h1,h2⟩:=T7.1 h;cases h2;refine⟨rfl,fun hN hH hA=>⟨fun i b e=>by simp at e,fun v r => ?_⟩⟩;have:=(A7t t.hp h1).2 _ _ _ _ r;have hl:(enc false T y).low 0=true:=A4n (A4f 0 false T y);simp only[A4,B5A];exact(this.lowM (M':=M') (n:=0) (fun j hj=>by omega) hl).nn hN
 |false =>
  rw[hf,A9] at h;simp only[A9];split at h
  ·rename_i y' l' hz;cases hb:(T.ag==z.isA) with
   |false=>rw[hb] at h;cases h
   |true =>
    rw[hb,A4] at h;cases h;simp only[j7] at hb;obtain⟨c1,ec,k1⟩:=j8 t.hp T z.cs _ _ [] hz;rw[D5] at ec;subst ec;have hSR:=k1 base;cases hag:T.ag with
    |true =>
     simp only[A4];refine⟨hSR.len.1,fun hN hH hA=>⟨fun i b e=>hSR.blocks hN hH hA i b e,fun v r => ?_⟩⟩;rw[hag] at hb;have hz':av t.hp z=.agg (z.cs.map (av t.hp)):=by
      cases z with
      |v A x=>cases A<;>first|(cases hb;done)|(simp only[TV.cs,A0u];rfl)
      |ag cs=>simp only[TV.cs,av,O8]
      |_=>cases hb
     rw[hz'] at r;cases r with
     |agg r =>
      simp only[av,O8];exact .agg (hSR.cells hN hA r)
    |false =>
     simp only[A9];refine⟨hSR.len.1,fun hN hH hA=>⟨fun i b e=>hSR.blocks hN hH hA i b e,fun v r => ?_⟩⟩;rw[hag] at hb;have hcs:z.cs=[z]:=by
      cases z with
      |v A x=>cases A<;>first|rfl|cases hb
      |ag cs=>cases hb
      |_=>rfl
     have hl:=hSR.len.2;have rr:=hSR.cells (N':=N') (vs:=[v]) hN hA (by rw[hcs];exact .cons (L1:=[]) (L2:=[]) r .nil);rw[hcs] at hl;match hq:(rsC base T y).1,hl with
     |[c],_ =>
      rw[hq] at rr;simp only[F6,U3] at rr;have:=rr.get 0;simpa using this
  ·cases h
theorem A4E(hc:H4 C (D2 n t) a w N M L):∀ (R:RK) (rs:List NR) (x:G8 R) (l:List (Option Nat)) (rest:List NR),A0R n t R rs=some (x,l,rest) →
  ∃ r1,rs=r1++rest∧B02 (A9u (D2 n t)) r1∧∀ base,(I3 base R x).2.length=l.length∧((I3 base R x).1.length=r1.length) ∧
   ∀ (hN:∀ b o,N b o→N' b o) (hH:∀ (i:Nat) (x:Option Blk),(F1 t.hp)[i]? = some x→HB w N M i x (ℓ i)) (hA:At M M' ℓ ℓ' hpT base l (I3 base R x).2),
   (∀ i b,(I3 base R x).2[i]? = some b→HB w N' M' (base+i) (some (tb hpT b)) (ℓ' (base+i))) ∧
   ∀ vs,F5 w N M (r1.map (B3w (D2 n t))) vs []→F5 w N' M' ((I3 base R x).1.map (av hpT)) vs []:=by
 have allapp:∀ (a b:List NR),B02 (A9u (D2 n t)) a→B02 (A9u (D2 n t)) b→B02 (A9u (D2 n t)) (a++b):=by
  intro a;induction a with
  |nil=>intro b _ h;exact h
  |cons x a ih=>intro b h k;exact⟨h.1,ih b h.2 k⟩
 intro R;induction R with
 |un =>
  intro rs x l rest h;simp only[A0R,C3,P5,A8H] at h;obtain⟨rfl,rfl⟩:=h;refine⟨[],rfl,trivial,fun base=>⟨rfl,rfl,fun hN hH hA=>⟨fun i b e=>by simp[I3] at e,fun vs r => ?_⟩⟩⟩;cases r;exact .nil
 |t T =>
  intro rs x l rest h;cases rs with
  |nil=>cases h
  |cons q rs =>
   simp only[A0R] at h;obtain⟨h1,h2⟩:=m7 h;split at h2
   ·rename_i y l' h3;cases h2;obtain⟨c1,c2⟩:=B3d hc h1;refine⟨[q],rfl,⟨c1,trivial⟩,fun base => ?_⟩;obtain⟨k1,k2⟩:=B8d (N:=N) (N':=N') (M:=M) (M':=M') (ℓ:=ℓ) (ℓ':=ℓ') (hpT:=hpT) (w:=w) h3 base;refine⟨k1,rfl,fun hN hH hA => ?_⟩;obtain⟨k3,k4⟩:=k2 hN hH hA;refine⟨k3,fun vs r => ?_⟩;simp only[F6,U3] at r ⊢;generalize hK:([]:List Nat)=K at r;cases r with
    |cons hx ht =>
     obtain⟨rfl,rfl⟩:=G9.1 hK.symm;cases ht;rw[c2] at hx;exact .cons (L1:=[]) (L2:=[]) (k4 _ hx) .nil
   ·cases h2
 |pv T =>
  intro rs x l rest h;cases rs with
  |nil=>cases h
  |cons q rs =>
   simp only[A0R] at h;obtain⟨h1,h2⟩:=m7 h;split at h2
   ·rename_i j row off hj;cases hb:(Nat.beq row 0&&Nat.beq off 0) with
    |false=>rw[hb] at h2;cases h2
    |true =>
     rw[hb,A4] at h2;simp only[A6,F4] at hb;obtain⟨rfl,rfl⟩:=hb;split at h2
     ·rename_i cs e2;split at h2
      ·rename_i y hz;cases h2;obtain⟨c1,c2⟩:=B3d hc h1;refine⟨[q],rfl,⟨c1,trivial⟩,fun base=>⟨rfl,rfl,fun hN hH hA => ?_⟩⟩;obtain⟨m1,m2⟩:=hA.so 0 j rfl;rw[H2] at m1 m2;have e5:=hA.hp 0 _ rfl;rw[H2] at e5;refine⟨fun i b eb => ?_,fun vs r => ?_⟩
       ·cases i with
        |zero =>
         simp only[I3,E8,C3] at eb;subst eb;exact C0w hN hH hz e2 m1 m2
        |succ i=>simp[I3] at eb
       ·simp only[F6,U3,I3] at r ⊢;generalize hK:([]:List Nat)=K at r;cases r with
        |cons hx ht =>
         obtain⟨rfl,rfl⟩:=G9.1 hK.symm;cases ht;rw[c2,hj] at hx;refine .cons (L1:=[]) (L2:=[]) ?_ .nil;have a1:av t.hp (.ptr j 0 0)=.ptr j 1 0 0:=by simp only[av,A2B e2]
         have a2:av hpT (.ptr base 0 0)=.ptr base 1 0 0:=by simp only[av,A2B e5]
         rw[a1] at hx;rw[a2];cases hx with
         |ptr mm h3 h4=>exact .ptr mm (by rw[m1];exact h3) h4
      ·cases h2
     ·cases h2
   ·cases h2
 |pr a b iha ihb =>
  intro rs x l rest h;simp only[A0R] at h;split at h
  ·rename_i x1 l1 rs1 h1;split at h
   ·rename_i x2 l2 rs2 h2;cases h;obtain⟨r1,rfl,p1,p2⟩:=iha _ _ _ _ h1;obtain⟨r2,rfl,p3,p4⟩:=ihb _ _ _ _ h2;refine⟨r1++r2,by simp,allapp _ _ p1 p3,fun base => ?_⟩;obtain⟨q1,q2,q3⟩:=p2 base;obtain⟨q4,q5,q6⟩:=p4 (base+(I3 base a x1).2.length)
    refine⟨by simp only[I3];rw[A5,q4,A5,q1],by simp only[I3];rw[A5,q5,A5,q2],fun hN hH hA => ?_⟩;simp only[I3] at hA;obtain⟨s1,s2⟩:=q3 hN hH (At.left hA q1);obtain⟨s3,s4⟩:=q6 hN hH (At.right hA q1);refine⟨fun i b' e => ?_,fun vs r => ?_⟩
    ·simp only[I3] at e;rcases D9 i (I3 base a x1).2.length with hi|hi
     ·rw[B7 hi] at e;exact s1 i b' e
     ·rw[B6 hi] at e;have:=s3 _ b' e;rw[G4,show(I3 base a x1).2.length+(i-(I3 base a x1).2.length)=i from by omega] at this;exact this
    ·rw[G0] at r;obtain⟨v1,v2,L1,L2,rfl,hL,r1',r2'⟩:=r.append;obtain⟨rfl,rfl⟩:=G9.1 hL.symm;simp only[I3,G0];exact F5.join (L1:=[]) (L2:=[]) (s2 _ r1') (s4 _ r2')
   ·cases h
  ·cases h
theorem B6r(h:R9 C (D2 n t) a w N M ℓ):∀ (R:RK) (rs:List NR) (x:G8 R) (l:List (Option Nat)) (rest:List NR),A0R n t R rs=some (x,l,rest)→∀ j∈L8 l,j<t.hp.length:=by
 have sr:∀ {base:Nat} {cs cs':List TV} {l:List (Option Nat)} {B:List TB},SR t.hp base cs cs' l B→∀ j∈L8 l,j<t.hp.length:=by
  intro base cs cs' l B h;induction h with
  |nil=>intro j hj;simp[L8] at hj
  |leaf _ _ ih=>exact ih
  |own h1 _ _ ih =>
   intro j hj;simp only[L8,D8] at hj;rcases hj with rfl|hj
   ·exact(B4.1 h1).1
   ·exact ih j hj
  |none _ ih=>exact ih
 intro R;induction R with
 |un=>intro rs x l rest h j hj;simp only[A0R,C3,P5,A8H] at h;obtain⟨rfl,_⟩:=h;simp[L8] at hj
 |t T =>
  intro rs x l rest h j hj;cases rs with
  |nil=>cases h
  |cons q rs =>
   simp only[A0R] at h;obtain⟨_,h2⟩:=m7 h;split at h2
   ·rename_i y l' h3;cases h2;unfold A98 at h3;cases hf:T.flat with
    |true =>
     rw[hf,A4] at h3;obtain⟨y',_,e⟩:=T7.1 h3;cases e;simp[L8] at hj
    |false =>
     rw[hf,A9] at h3;split at h3
     ·rename_i hz;cases hb:(T.ag==(A8x n t q).2.isA) with
      |false=>rw[hb] at h3;cases h3
      |true =>
       rw[hb,A4] at h3;cases h3;obtain⟨c1,_,k1⟩:=j8 t.hp T _ _ _ [] hz;exact sr (k1 0) j hj
     ·cases h3
   ·cases h2
 |pv T =>
  intro rs x l rest h j hj;cases rs with
  |nil=>cases h
  |cons q rs =>
   simp only[A0R] at h;obtain⟨_,h2⟩:=m7 h;split at h2
   ·rename_i j' row off _;cases hb:(Nat.beq row 0&&Nat.beq off 0) with
    |false=>rw[hb] at h2;cases h2
    |true =>
     rw[hb,A4] at h2;split at h2
     ·rename_i cs e2;split at h2
      ·cases h2;simp only[L8,C1] at hj;subst hj;exact(B4.1 e2).1
      ·cases h2
     ·cases h2
   ·cases h2
 |pr a b iha ihb =>
  intro rs x l rest h j hj;simp only[A0R] at h;split at h
  ·rename_i h1;split at h
   ·rename_i h2;cases h;rw[V6,C9] at hj;rcases hj with hj|hj
    ·exact iha _ _ _ _ h1 j (V6.2 hj)
    ·exact ihb _ _ _ _ h2 j (V6.2 hj)
   ·cases h
  ·cases h
end
theorem C6I{P:Program}{f:FuncId}{nf:NF}{Γ:List CX}{Θ:TyO}{p:PK}{R:RK}{Λ:List (LC (G8 R))}(hf:nFn P f=some nf)(hm:P.follows .mixedOrders=true)(hΓ:∀ cx∈Γ,A9a P cx)
  (hΛ:∀ id B,(id,B)∈V9 nf.body→∀ l,A2K Λ id=some l→H8 Γ Θ Λ nf.n (A7S nf.n R nf.res) l B) (hp:∀ a,(A6s p a).length≤nf.n):J9 P ⟨f,p,R,xfn Γ Θ nf p R Λ⟩:=by
 intro arg ρ hx;replace hx:xfn Γ Θ nf p R Λ arg=some ρ:=hx;unfold nFn at hf;split at hf
 ·rename_i fn hfn;split at hf
  ·cases hf
  ·rename_i hname;split at hf
   ·rename_i c hb;split at hf
    ·rename_i b r h1 h2;cases hf;simp only at hp hx hΛ;refine⟨⟨fn,hfn,by rw[hb];rfl,by simpa using hname⟩,fun w N M L vs he hr => ?_⟩
     let C:Ctx:=⟨w,L.map Prod.fst,N,fun _=>none⟩
     have hlen:=hr.length;have hC:∀ k,C.M0 k=none:=fun _=>rfl;have hstart:D2 fn.ntmps ⟨A1f 0 (B9C p arg),[]⟩=⟨A6s p arg++List.replicate (fn.ntmps-(A6s p arg).length) .any,[]⟩:=by
      rw[C2O (hp arg)];unfold D2;show E fn.ntmps [] _=_;unfold A6s B9C;rw[B1t]
     have hinit:M8 C (D2 fn.ntmps ⟨A1f 0 (B9C p arg),[]⟩) { tmps:=(⟨vs⟩:Array Value)++Array.replicate (fn.ntmps-(⟨vs⟩:Array Value).size) undef,defers:=[] } w:=by
      rw[hstart];refine⟨N,M,L,rfl,?_,he.hr,he.nd,fun p hp=>⟨(he.own p hp).1,.inr (L9 hp),(he.own p hp).2⟩,he.nlt,fun _ _ h=>h,fun _ _ h=>.inl h,FrN.refl _ _ _,he.un,fun k m m0 _ h0=>(by cases h0),fun _ _=>rfl⟩;have:(((⟨vs⟩:Array Value)++Array.replicate (fn.ntmps-(⟨vs⟩:Array Value).size) undef).toList)=vs++List.replicate (fn.ntmps-(A6s p arg).length) undef:=by
       simp[hlen]
      show F5 w N M _ (((⟨vs⟩:Array Value)++Array.replicate (fn.ntmps-(⟨vs⟩:Array Value).size) undef).toList) [];rw[this];exact F5.join (L1:=[]) (L2:=[]) hr (F5.replicate _)
     refine calls_of_wp hfn hb (wp_mono ((B4p (C:=C) hm hΓ (q:=0) (fun k _=>rfl) (fun _ _ _=>P1 _) b).1 hΛ (G8 R) c _ _ _ ρ _ _ w h1 hx hinit) fun e a w' q => ?_)
     have fin:∀ t,A7S fn.ntmps R r t=some ρ→M8 C (D2 fn.ntmps t) a w'→a.defers=[]∧∃ v,(results fn a.tmps).run P w'=.ok v w'∧(fun e w'=>∃ r,e=Ending.returned r∧∃ x hp N' M' L',C0p w N M L (Is (A5z R ρ) (A3K R ρ)) r w' x hp N' M' L') (.returned v) w':=by
      intro t ht hc;replace hc:=A5e r t hc;unfold A7S at ht;generalize A8m fn.ntmps t r=t at ht hc;replace hc:=A3p (A9o R) r t hc;generalize A9B fn.ntmps t (A9o R) r=t at ht hc;obtain⟨N1,M1,ℓ,hD⟩:=hc.fn;unfold C0T at ht;split at ht
      ·rename_i x l hd;cases hnb:d5 (L8 l) with
       |false=>rw[hnb] at ht;cases ht
       |true =>
        rw[hnb,A4] at ht;cases ht;have hnd:=j5 hnb;have hlt:=B6r hD R r ρ l [] hd;obtain⟨r1,er,hall,hres⟩:=A4E (N':=N1) (M':=fun _=>none) (ℓ:=ℓ) (ℓ':=ℓ) (hpT:=[]) hD.d R r ρ l [] hd;rw[D5] at er;subst er;obtain⟨hlen1,hlen2,_⟩:=hres 0;obtain⟨v,v1,v2⟩:=B0J hD.d h2 hall;obtain⟨M',ℓ',k1,k2,k3⟩:=B3A l (I3 0 R ρ).2 hlen1 M1 ℓ
        obtain⟨r1',er',_,hres'⟩:=A4E (N':=N1) (M':=M') (ℓ:=ℓ) (ℓ':=ℓ') (hpT:=A9b R ρ) hD.d R r ρ l [] hd;rw[D5] at er';subst er';have hH:=hD.hp;rw[E6] at hH;obtain⟨b1,b2⟩:=(hres' 0).2.2 (fun _ _ h=>h) hH k1;have hlt':∀ i j,l[i]? = some (some j)→j<(D2 fn.ntmps t).hp.length:=fun i j e=>by
         rw[E6,F3];exact hlt j (V6.2 (I8 e))
        have hpl:(A3K R ρ).length=(I3 0 R ρ).2.length:=by unfold A3K A9b;rw[F3,C7]
        have hrep:Rep w' N1 M' (A5z R ρ) v []:=by
         unfold A5z;generalize (I3 0 R ρ).1=zs at b2 hlen2;match hr1:r,zs,hlen2 with
         |[],[],_ =>
          have:=b2 [] .nil;cases v2 with
          |tup q=>cases q;exact .tup .nil
         |[q],[z],_ =>
          have:=b2 [v] (.cons (L1:=[]) (L2:=[]) v2 .nil);have:=this.get 0;simpa[A00] using this
         |q :: q' :: qs,z :: z' :: zs,_ =>
          cases v2 with
          |tup qv =>
           have:=b2 _ qv;show Rep w' N1 M' (.tup (avL (A9b R ρ) (z :: z' :: zs))) _ [];rw[O8];exact .tup this
        refine⟨hD.df,v,v1,v,rfl,A5z R ρ,A3K R ρ,N1,M',(List.range (A3K R ρ).length).flatMap ℓ',⟨rfl,rfl⟩,hrep,⟨?_,?_,?_,hD.nlt,fun k hk=>k2 k (by rw[← hpl];exact hk)⟩,hD.fr,fun k m m0 _ h0=>(by rw[he.un k (P1 _)] at h0;cases h0),hD.nup,hD.ndn,?_⟩
        ·refine HR.of_fn fun i y hy => ?_;rw[E1];unfold A3K A9b at hy;rw[I1,H3] at hy;cases hb':(I3 0 R ρ).2[i]? with
         |none=>rw[hb'] at hy;cases hy
         |some b' =>
          rw[hb'] at hy;simp only[F8,C3] at hy;subst hy;have:=b1 i b' hb';rw[E1] at this;exact this
        ·rw[A0C];refine b8.2 ⟨fun i hi => ?_,?_⟩
         ·cases hq:l[i]? with
          |none =>
           have:ℓ' i=[]:=by
            cases hl:ℓ' i with
            |nil=>rfl
            |cons p _=>obtain⟨j,e,_⟩:=k3 i p (by rw[hl];simp);rw[hq] at e;cases e
           rw[this];simp
          |some o =>
           cases o with
           |none =>
            have:ℓ' i=[]:=by
             cases hl:ℓ' i with
             |nil=>rfl
             |cons p _=>obtain⟨j,e,_⟩:=k3 i p (by rw[hl];simp);rw[hq] at e;cases e
            rw[this];simp
           |some j =>
            have:=(k1.so i j hq).2;rw[E1] at this;rw[this];exact hD.nd j (hlt' i j hq)
         ·rw[O9];intro i i' hi hi' hii x hx y hy e;simp only[y9] at hx hy;obtain⟨p,hp,rfl⟩:=C5.1 hx;obtain⟨q,hq,e'⟩:=C5.1 hy;obtain⟨j,ej,m1⟩:=k3 i p hp;obtain⟨j',ej',m2⟩:=k3 i' q hq;refine hD.dj j j' (hlt' i j ej) (hlt' i' j' ej') (fun ee => ?_) p m1 q m2 (e.trans e'.symm);subst ee;have:=A6L hnd ej ej';omega
        ·intro p hp;obtain⟨i,hi,hp⟩:=J6.1 hp;obtain⟨j,e,m1⟩:=k3 i p hp;obtain⟨o1,o2,o3⟩:=hD.own j (hlt' i j e) p m1;exact⟨o1,o3⟩
        ·intro p hp;obtain⟨i,hi,hp⟩:=J6.1 hp;obtain⟨j,e,m1⟩:=k3 i p hp;exact(hD.own j (hlt' i j e) p m1).2.1
      ·cases ht
     cases e with
     |normal=>obtain⟨t,k1,k2⟩:=q;exact fin t k1 k2
     |ret =>
      obtain⟨t,ρ',k0,k1,k2⟩:=q;cases k1;exact fin t k0 k2
     |exit id=>obtain⟨t,k1,k2⟩:=q;cases k1
     |_=>exact q.elim
    ·cases hf
   ·cases hf
 ·cases hf
end Go.Proofs.YtkmhopbmpeiofaaGreat.Nx
