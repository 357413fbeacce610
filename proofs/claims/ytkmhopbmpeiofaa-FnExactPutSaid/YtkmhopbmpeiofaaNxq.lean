/- Contracts of functions, rows of law, and the pure library: sound, with no condition beyond those each lemma names. -/
import Derived.IntWalk
import Derived.Test.YtkmhopbmpeiofaaNxp
set_option linter.unusedVariables false
set_option linter.unusedSimpArgs false
namespace Go.Proofs.Ytkmhopbmpeiofaa.Nx
open Go Go.RowKit
theorem ust_blen : ∀ (s : SK) (x : DenS s) (base : Nat),(ust base s x).2.length = blen s := by
 intro s
 induction s with
 | un | d | fn | ip | o | mo | lg | av | al | sum | bv => intro x base; rfl
 | bx k T => intro x base; simp only [ust,blen,List.length_append,List.length_singleton,rsC_nsl]
 | ow k T => intro x base; exact rsC_nsl T x base
 | pr a b iha ihb =>
  intro x base
  simp only [ust,blen,List.length_append,iha,ihb]
theorem ust_slots : ∀ (s : SK) (x : DenS s) (base k : Nat) (y : TV),(k,y) ∈ (ust base s x).1 → k ∈ slotsS s := by
 intro s
 induction s with
 | un | al | sum => intro x base k y h; cases h
 | d | fn | ip | o | mo | lg | av | bx | ow | bv => intro x base k y h; simp only [ust,List.mem_singleton,Prod.mk.injEq] at h; simp [slotsS,h.1]
 | pr a b iha ihb =>
  intro x base k y h
  simp only [ust] at h
  simp only [slotsS,List.mem_append]
  rcases List.mem_append.1 h with h | h
  ·exact .inl (iha _ _ _ _ h)
  ·exact .inr (ihb _ _ _ _ h)
theorem outL_spec (hp : THP) : ∀ (T : Ty) (base : Nat) (y : DenL T),outL hp base T = some y → ∀ i,i < T.nsl → ∃ (A : Ty) (o : Bool) (L : List (Den A)),hp[base + i]? = some (some (.arr A o L)) ∧ (o || A.flat) = true ∧ (blkL T y)[i]? = some (.arr A true L) := by
 intro T
 induction T with
 | i | bl | tx | sv | ar => intro base y _ i hi; simp [Ty.nsl] at hi
 | sl t _ =>
  intro base y h i hi
  have : i = 0 := by simp [Ty.nsl] at hi; omega
  subst this
  simp only [outL] at h
  split at h
  ·rename_i A o L e
   cases ho : (o || A.flat) with
   | false => rw [ho] at h; cases h
   | true =>
    rw [ho,cond_true] at h
    obtain ⟨e3,hz⟩ := cst_some h
    cases e3
    cases hz
    exact ⟨_,o,_,e,ho,rfl⟩
  ·cases h
 | st t ih => exact fun base y h i hi => ih base y h i hi
 | pr a b iha ihb =>
  intro base y h i hi
  simp only [outL] at h
  split at h
  ·rename_i x1 x2 h1 h2
   cases h
   simp only [Ty.nsl] at hi
   simp only [blkL]
   have hl := blkL_nsl a x1
   rcases Nat.lt_or_ge i a.nsl with q | q
   ·rw [List.getElem?_append_left (by omega)]
    exact iha _ _ h1 i q
   ·rw [List.getElem?_append_right (by omega),hl]
    obtain ⟨A,o,L,k1,k2,k3⟩ := ihb _ _ h2 (i - a.nsl) (by omega)
    refine ⟨A,o,L,?_,k2,k3⟩
    rw [show base + i = base + a.nsl + (i - a.nsl) from by omega]; exact k1
  ·cases h
inductive Fxd (hp : THP) (b : Nat) (m : List (Option Nat)) (S : List TB) (j : Nat) : Option TB → Prop
 | gone : Fxd hp b m S j none
 | arr {A : Ty} {o : Bool} {L : List (Den A)} : hp[j]? = some (some (.arr A o L)) → (o || A.flat) = true → Fxd hp b m S j (some (.arr A true L))
 | box {cs : List TV} {T : Ty} {x : Den T} {o : Nat} {l : List (Option Nat)} : hp[j]? = some (some (.box cs)) → SR hp (b + o) cs (rsC (b + o) T x).1 l (rsC (b + o) T x).2 →
   (∀ (i : Nat) z,l[i]? = some z → m[o + i]? = some z) → (∀ (i : Nat) z,(rsC (b + o) T x).2[i]? = some z → S[o + i]? = some z) → Fxd hp b m S j (some (.box (rsC (b + o) T x).1))
 | bv {cs : List TV} {T : Ty} {x : Den T} : hp[j]? = some (some (.box cs)) → asCls T cs = some (x,[]) → Fxd hp b m S j (some (.box (tcls T x)))
theorem Fxd.left {hp : THP} {b : Nat} {m m' : List (Option Nat)} {S S' : List TB} {j : Nat} {z : Option TB} (h : Fxd hp b m S j z) : Fxd hp b (m ++ m') (S ++ S') j z := by
 cases h with
 | gone => exact .gone
 | arr h1 h2 => exact .arr h1 h2
 | bv h1 h2 => exact .bv h1 h2
 | box h1 h2 h3 h4 =>
  refine .box h1 h2 (fun i z e => ?_) fun i z e => ?_
  ·have := h3 i z e
   rw [List.getElem?_append_left (List.getElem?_eq_some_iff.1 this).1]; exact this
  ·have := h4 i z e
   rw [List.getElem?_append_left (List.getElem?_eq_some_iff.1 this).1]; exact this
theorem Fxd.right {hp : THP} {b : Nat} {m m' : List (Option Nat)} {S S' : List TB} {j : Nat} {z : Option TB} {n : Nat} (hm : m'.length = n) (hS : S'.length = n) (h : Fxd hp (b + n) m S j z) : Fxd hp b (m' ++ m) (S' ++ S) j z := by
 cases h with
 | gone => exact .gone
 | arr h1 h2 => exact .arr h1 h2
 | bv h1 h2 => exact .bv h1 h2
 | box h1 h2 h3 h4 =>
  rename_i o l
  rw [Nat.add_assoc] at h2 h4 ⊢
  refine .box h1 h2 (fun i z e => ?_) fun i z e => ?_
  ·have := h3 i z e
   rw [List.getElem?_append_right (by omega),hm,show n + o + i - n = o + i from by omega]; exact this
  ·have := h4 i z e
   rw [List.getElem?_append_right (by omega),hS,show n + o + i - n = o + i from by omega]; exact this
theorem sr_ok {hp : THP} {base : Nat} {cs cs' : List TV} {l : List (Option Nat)} {B : List TB} (h : SR hp base cs cs' l B) : ∀ i : Nat,(∀ j,l[i]? = some (some j) → ∃ (A : Ty) (o : Bool) (L : List (Den A)),hp[j]? = some (some (.arr A o L)) ∧ (o || A.flat) = true ∧ B[i]? = some (.arr A true L)) ∧
  (l[i]? = some none → ∃ A : Ty,B[i]? = some (.arr A true [])) := by
 induction h with
 | nil => intro i; exact ⟨fun j h => by simp at h,fun h => by simp at h⟩
 | leaf _ _ ih => exact ih
 | own h1 h2 _ ih =>
  intro i
  cases i with
  | zero => exact ⟨fun j e => by simp only [List.getElem?_cons_zero,Option.some.injEq] at e; subst e; exact ⟨_,_,_,h1,h2,rfl⟩,fun e => by simp at e⟩
  | succ i => simpa using ih i
 | none _ ih =>
  intro i
  cases i with
  | zero => exact ⟨fun j e => by simp at e,fun _ => ⟨_,rfl⟩⟩
  | succ i => simpa using ih i
theorem outW_spec (hp : THP) : ∀ (s : SK) (base : Nat) (y : DenW s) (m : List (Option Nat)),outW hp base s = some (y,m) → m.length = slen s ∧ (∀ (b i : Nat),i < blen s → ∃ z,(fxW s b y)[i]? = some z ∧ Fxd hp b m (slW s b y) (base + i) z ∧ (z.isSome = true → base + i ∈ fixL s base)) ∧
  ∀ (b i : Nat),(∀ j,m[i]? = some (some j) → ∃ (A : Ty) (o : Bool) (L : List (Den A)),hp[j]? = some (some (.arr A o L)) ∧ (o || A.flat) = true ∧ (slW s b y)[i]? = some (.arr A true L)) ∧ (m[i]? = some none → ∃ A : Ty,(slW s b y)[i]? = some (.arr A true [])) := by
 intro s
 induction s with
 | un | d | fn | ip | al | sum =>
  intro base y m h
  simp only [outW,Option.some.injEq,Prod.mk.injEq] at h
  obtain ⟨_,rfl⟩ := h
  exact ⟨rfl,fun b i hi => by simp [blen] at hi,fun b i => ⟨fun j h => by simp at h,fun h => by simp at h⟩⟩
 | o k T =>
  intro base y m h
  simp only [outW] at h
  split at h
  ·rename_i A o L e
   cases ho : (o || A.flat) with
   | false => rw [ho] at h; cases h
   | true =>
    rw [ho,cond_true] at h
    split at h
    ·rename_i x hx
     cases h
     obtain ⟨e3,hz⟩ := cst_some hx
     cases e3
     cases hz
     refine ⟨rfl,fun b i hi => ?_,fun b i => ⟨fun j h => by simp at h,fun h => by simp at h⟩⟩
     have : i = 0 := by simp [blen] at hi; omega
     subst this
     exact ⟨_,rfl,.arr e ho,fun _ => by simp [fixL]⟩
    ·cases h
  ·cases h
 | mo k T =>
  intro base y m h
  simp only [outW,Option.some.injEq,Prod.mk.injEq] at h
  obtain ⟨_,rfl⟩ := h
  refine ⟨rfl,fun b i hi => ?_,fun b i => ⟨fun j h => by simp at h,fun h => by simp at h⟩⟩
  have : i = 0 := by simp [blen] at hi; omega
  subst this
  exact ⟨none,rfl,.gone,fun h => by cases h⟩
 | lg k T =>
  intro base y m h
  simp only [outW,Option.some.injEq,Prod.mk.injEq] at h
  obtain ⟨_,rfl⟩ := h
  refine ⟨rfl,fun b i hi => ?_,fun b i => ⟨fun j h => by simp at h,fun h => by simp at h⟩⟩
  have : i = 0 := by simp [blen] at hi; omega
  subst this
  exact ⟨none,rfl,.gone,fun h => by cases h⟩
 | av k m1 K =>
  intro base y m h
  simp only [outW,Option.some.injEq,Prod.mk.injEq] at h
  obtain ⟨_,rfl⟩ := h
  refine ⟨rfl,fun b i hi => ?_,fun b i => ⟨fun j h => by simp at h,fun h => by simp at h⟩⟩
  have : i = 0 := by simp [blen] at hi; omega
  subst this
  exact ⟨none,rfl,.gone,fun h => by cases h⟩
 | ow k T =>
  intro base y m h
  simp only [outW] at h
  split at h
  ·rename_i x hx
   cases h
   have key := outL_spec hp T base _ hx
   refine ⟨rfl,fun b i hi => ?_,fun b i => ⟨fun j h => by simp at h,fun h => by simp at h⟩⟩
   obtain ⟨A,o,L,k1,k2,k3⟩ := key i hi
   refine ⟨_,by simp only [fxW,List.getElem?_map,k3,Option.map_some],.arr k1 k2,fun _ => ?_⟩
   simp only [fixL,List.mem_map,List.mem_range]
   exact ⟨i,hi,rfl⟩
  ·cases h
 | bx k T =>
  intro base y m h
  simp only [outW] at h
  split at h
  ·rename_i cs e
   split at h
   ·rename_i x l hx
    cases h
    obtain ⟨c1,hc1,k1⟩ := srcC_spec hp T cs _ _ [] hx
    rw [List.append_nil] at hc1
    subst hc1
    have hl := (k1 0).len.1
    rw [rsC_nsl] at hl
    refine ⟨hl.symm,fun b i hi => ?_,fun b i => sr_ok (k1 b) i⟩
    simp only [blen] at hi
    rcases Nat.lt_or_ge i T.nsl with q | q
    ·exact ⟨none,by simp only [fxW]; rw [List.getElem?_append_left (by simpa using q),List.getElem?_replicate,if_pos q],.gone,fun h => by cases h⟩
    ·have : i = T.nsl := by omega
     subst this
     refine ⟨some (.box (rsC b T y).1),by simp only [fxW]; rw [List.getElem?_append_right (by simp),List.length_replicate,Nat.sub_self]; rfl,?_,fun _ => by simp [fixL]⟩
     exact Fxd.box (o := 0) e (k1 b) (fun i z e => by rw [Nat.zero_add]; exact e) (fun i z e => by rw [Nat.zero_add]; exact e)
   ·cases h
  ·cases h
 | bv k T =>
  intro base y m h
  simp only [outW] at h
  split at h
  ·rename_i cs e
   split at h
   ·rename_i x hx
    cases h
    refine ⟨rfl,fun b i hi => ?_,fun b i => ⟨fun j h => by simp at h,fun h => by simp at h⟩⟩
    have : i = 0 := by simp [blen] at hi; omega
    subst this
    exact ⟨_,rfl,.bv e hx,fun _ => by simp [fixL]⟩
   ·cases h
  ·cases h
 | pr a b iha ihb =>
  intro base y m h
  simp only [outW] at h
  split at h
  ·rename_i x1 l1 x2 l2 h1 h2
   cases h
   obtain ⟨p1,p2,p3⟩ := iha _ _ _ h1
   obtain ⟨q1,q2,q3⟩ := ihb _ _ _ h2
   refine ⟨by simp only [List.length_append,slen,p1,q1],fun c i hi => ?_,fun c i => ?_⟩
   ·simp only [blen] at hi
    simp only [fxW,slW]
    rcases Nat.lt_or_ge i (blen a) with h | h
    ·obtain ⟨z,k1,k2,k3⟩ := p2 c i h
     exact ⟨z,by rw [List.getElem?_append_left (by rw [fxW_len]; exact h)]; exact k1,k2.left,fun e => by simp only [fixL]; exact List.mem_append_left _ (k3 e)⟩
    ·obtain ⟨z,k1,k2,k3⟩ := q2 (c + slen a) (i - blen a) (by omega)
     rw [show base + blen a + (i - blen a) = base + i from by omega] at k2 k3
     exact ⟨z,by rw [List.getElem?_append_right (by rw [fxW_len]; exact h),fxW_len]; exact k1,k2.right p1 (slW_len a x1 c),fun e => by simp only [fixL]; exact List.mem_append_right _ (k3 e)⟩
   ·simp only [slW]
    have hs := slW_len a x1 c
    rcases Nat.lt_or_ge i (slen a) with h | h
    ·rw [List.getElem?_append_left (by omega),List.getElem?_append_left (by omega)]
     exact p3 c i
    ·rw [List.getElem?_append_right (by omega),List.getElem?_append_right (by omega),p1,hs]
     exact q3 (c + slen a) (i - slen a)
  ·cases h
theorem repL_get {w : World} {N : NT} {M : MT} : ∀ (ys : List AV) (vs : List Value),ys.length = vs.length → (∀ i,Rep w N M (ys.getD i .any) (vs.getD i undef) []) → RepL w N M ys vs [] := by
 intro ys
 induction ys with
 | nil => intro vs hl _; cases vs with | nil => exact .nil | cons => simp at hl
 | cons y ys ih =>
  intro vs hl h
  cases vs with
  | nil => simp at hl
  | cons v vs => exact .cons (L1 := []) (L2 := []) (by simpa using h 0) (ih vs (by simpa using hl) fun i => by simpa using h (i + 1))
theorem CM_of_x {P : Program} {f : FuncId} {nf : NF} {Γ : List CX} {Θ : TyO} {s : SK} {R : RK} {Λ : List (LC (DenR R × DenW s))} (hf : nFn P f = some nf) (hm : P.follows .mixedOrders = true) (hΓ : ∀ cx ∈ Γ,CXok P cx)
  (hΛ : ∀ id B,(id,B) ∈ loopsOf nf.body → ∀ l,lcAt Λ id = some l → LoopEq Γ Θ Λ nf.n (resOfM nf.n R nf.res s) l B) (hq : ∀ id l,lcAt Λ id = some l → blen s ≤ l.q)
  (hsl : ∀ k ∈ slotsS s,k < (slotsS s).length) (hp : (slotsS s).length ≤ nf.n) : CMok P ⟨f,s,R,xfnM Γ Θ nf s R Λ⟩ := by
 intro arg out hx
 replace hx : xfnM Γ Θ nf s R Λ arg = some out := hx
 unfold xfnM at hx
 obtain ⟨out',hx,hlen⟩ := Option.bind_eq_some_iff.1 hx
 cases hlw : lenW s arg out'.2 with
 | false => rw [hlw] at hlen; cases hlen
 | true =>
 rw [hlw,cond_true] at hlen
 cases hlen
 obtain ⟨ρ,y⟩ := out
 unfold nFn at hf
 split at hf
 ·rename_i fn hfn
  split at hf
  ·cases hf
  ·rename_i hname
   split at hf
   ·rename_i c hb
    split at hf
    ·rename_i b r h1 h2
     cases hf
     simp only at hp hx hΛ
     refine ⟨hlw,⟨fn,hfn,by rw [hb]; rfl,by simpa using hname⟩,fun w N M L vs he hr => ?_⟩
     let C : Ctx := ⟨w,L.map Prod.fst,N,M⟩
     have hlenv : vs.length = (slotsS s).length := by
      have := hr.length
      rw [toAS_len] at this; omega
     have hblen := ust_blen s arg 0
     have hC : ∀ k,blen s ≤ k → C.M0 k = none := fun k hk => he.un k (by rw [toHP_len,List.length_map,hblen]; exact hk)
     have hinit : Conc C (toAS fn.ntmps (mkS s arg)) { tmps := (⟨vs⟩ : Array Value) ++ Array.replicate (fn.ntmps - (⟨vs⟩ : Array Value).size) undef,defers := [] } w := by
      refine ⟨N,M,L,rfl,?_,by rw [toAS_hp]; exact he.hr,he.nd,fun p hp => ⟨(he.own p hp).1,.inr (List.mem_map_of_mem hp),(he.own p hp).2⟩,he.nlt,fun _ _ h => h,fun _ _ h => .inl h,FrN.refl _ _ _,fun k hk => he.un k (by rw [toAS_hp] at hk; exact hk),fun k m m0 h1 h0 => (by cases h1.symm.trans h0; exact ⟨Nat.le_refl _,fun _ => rfl⟩),fun k hk => he.un k (by rw [toAS_hp] at hk; exact hk)⟩
      refine repL_get _ _ (by rw [toAS_len]; simp; omega) fun i => ?_
      rw [toAS_get]
      unfold TS.get
      cases hi : Nat.blt i fn.ntmps with
      | false => exact .any _
      | true =>
       simp only [cond_true]
       rcases fnd_mem (mkS s arg).u i with e | e
       ·rw [e]; exact .any _
       ·have hik := hsl i (ust_slots s arg 0 i _ e)
        have rr := hr.get i
        rw [toAS_get] at rr
        unfold TS.get at rr
        rw [show Nat.blt i (slotsS s).length = true from by rw [Nat.blt_eq]; exact hik,cond_true] at rr
        have : (((⟨vs⟩ : Array Value) ++ Array.replicate (fn.ntmps - (⟨vs⟩ : Array Value).size) undef).toList.getD i undef) = vs.getD i undef := by
         simp only [Array.toList_append,List.getD_eq_getElem?_getD]
         rw [List.getElem?_append_left (by omega)]
        rw [this]; exact rr
     refine calls_of_wp hfn hb (wp_mono ((xrun_both (C := C) hm hΓ hC hq b).1 hΛ (DenR R × DenW s) c _ _ _ (ρ,y) _ _ w h1 hx hinit) fun e a w' q => ?_)
     have fin : ∀ t,resOfM fn.ntmps R r s t = some (ρ,y) → Conc C (toAS fn.ntmps t) a w' → a.defers = [] ∧ ∃ v,(results fn a.tmps).run P w' = .ok v w' ∧ (fun e w' => ∃ v,e = Ending.returned v ∧ ∃ N' M' L',BackM w N M L (resBM R ρ s y) (resBL R ρ s y).length (tupT (resR 0 R ρ).1) v w' N' M' L') (.returned v) w' := by
      intro t ht hc
      replace hc := ownzR_conc r t hc
      unfold resOfM at ht
      generalize ownzR fn.ntmps t r = t at ht hc
      replace hc := seeR_conc (svsR R) r t hc
      generalize seeR fn.ntmps t (svsR R) r = t at ht hc
      obtain ⟨N1,M1,ℓ,hD⟩ := hc.fn
      unfold resOfM0 at ht
      split at ht
      ·rename_i x l hd
       split at ht
       case h_2 => cases ht
       rename_i y' m hy
       cases hnb : nodupB (somes (l ++ m) ++ fixL s 0) with
       | false => rw [hnb] at ht; cases ht
       | true =>
        rw [hnb,cond_true] at ht
        cases ht
        have hnd0 := nodupB_iff hnb
        have hnd : (somes (l ++ m)).Nodup := (List.nodup_append.1 hnd0).1
        have hdj : ∀ x ∈ somes (l ++ m),∀ z ∈ fixL s 0,x ≠ z := (List.nodup_append.1 hnd0).2.2
        have hlt0 := lt_somes hD R r ρ l [] hd
        have hs1 : ∀ l m : List (Option Nat),somes (l ++ m) = somes l ++ somes m := fun l m => by
         induction l with
         | nil => rfl
         | cons x l ih => cases x <;> simp [somes,ih]
        obtain ⟨hml,hfx,hsl'⟩ := outW_spec t.hp s 0 y m hy
        have hltm : ∀ j ∈ somes m,j < t.hp.length := fun j hj => by
         obtain ⟨i,hi⟩ := List.getElem?_of_mem (somes_mem.1 hj)
         obtain ⟨A,o,Z,k1,_⟩ := (hsl' 0 i).1 j hi
         exact (List.getElem?_eq_some_iff.1 k1).1
        have hlt : ∀ j ∈ somes (l ++ m),j < t.hp.length := fun j hj => by
         rw [hs1] at hj
         rcases List.mem_append.1 hj with h | h
         ·exact hlt0 j h
         ·exact hltm j h
        obtain ⟨r1,er,hall,hres⟩ := resDec_spec (N' := N1) (M' := fun _ => none) (ℓ := ℓ) (ℓ' := ℓ) (hpT := []) hD.d R r ρ l [] hd
        rw [List.append_nil] at er
        subst er
        obtain ⟨hlen1,hlen2,_⟩ := hres 0
        let np := (resR 0 R ρ).2.length
        let nq := (resBL R ρ s y).length
        let F := fxW s np y
        let hpT := resBM R ρ s y
        have hFl : F.length = blen s := fxW_len s y np
        have hlenB : (resBL R ρ s y).length = (l ++ m).length := by
         unfold resBL
         rw [List.length_append,List.length_append,hlen1,slW_len,hml]
        obtain ⟨v,v1,v2⟩ := snd_results hD.d h2 hall
        obtain ⟨M',ℓ',k1,k2,k3⟩ := kept_ex (l ++ m) (resBL R ρ s y) hlenB M1 ℓ
        let M2 : MT := fun i => if i < nq then M' i else (match F[i - nq]? with | some (some _) => M1 (i - nq) | some none => some none | none => none)
        let ℓ2 : Nat → List (Nat × Nat) := fun i => if i < nq then ℓ' i else (match F[i - nq]? with | some (some _) => ℓ (i - nq) | some none => [] | none => [])
        have hM2a : ∀ i,i < nq → M2 i = M' i ∧ ℓ2 i = ℓ' i := fun i hi => ⟨by simp only [M2,hi,if_true],by simp only [ℓ2,hi,if_true]⟩
        have hM2b : ∀ i (z : TB),F[i]? = some (some z) → M2 (nq + i) = M1 i ∧ ℓ2 (nq + i) = ℓ i := fun i z e => by
         have : ¬ nq + i < nq := by omega
         refine ⟨?_,?_⟩
         ·simp only [M2,this,if_false,Nat.add_sub_cancel_left,e]
         ·simp only [ℓ2,this,if_false,Nat.add_sub_cancel_left,e]
        have hM2c : ∀ i,F[i]? = some none → M2 (nq + i) = some none ∧ ℓ2 (nq + i) = [] := fun i e => by
         have : ¬ nq + i < nq := by omega
         refine ⟨?_,?_⟩
         ·simp only [M2,this,if_false,Nat.add_sub_cancel_left,e]
         ·simp only [ℓ2,this,if_false,Nat.add_sub_cancel_left,e]
        have hM2d : ∀ i,F[i]? = none → M2 (nq + i) = none ∧ ℓ2 (nq + i) = [] := fun i e => by
         have : ¬ nq + i < nq := by omega
         refine ⟨?_,?_⟩
         ·simp only [M2,this,if_false,Nat.add_sub_cancel_left,e]
         ·simp only [ℓ2,this,if_false,Nat.add_sub_cancel_left,e]
        have hpTn : ∀ (i : Nat) (z : TB),(resBL R ρ s y)[i]? = some z → hpT[i]? = some (some z) := fun i z e => by
         show ((resBL R ρ s y).map some ++ F)[i]? = _
         rw [List.getElem?_append_left (by rw [List.length_map]; exact (List.getElem?_eq_some_iff.1 e).1),List.getElem?_map,e]; rfl
        have hpTl : hpT.length = nq + blen s := by
         show ((resBL R ρ s y).map some ++ F).length = _
         rw [List.length_append,List.length_map,hFl]
        have hpTm : ∀ i,hpT[nq + i]? = F[i]? := fun i => by
         show ((resBL R ρ s y).map some ++ F)[nq + i]? = _
         rw [List.getElem?_append_right (by rw [List.length_map]; exact Nat.le_add_right _ _),List.length_map]
         congr 1
         exact Nat.add_sub_cancel_left _ _
        have k1' : At M1 M2 ℓ ℓ2 hpT 0 (l ++ m) (resBL R ρ s y) := by
         refine ⟨fun i b e => by rw [Nat.zero_add]; exact hpTn i b e,fun i j e => ?_,fun i b e e' => ?_⟩
         ·have hi : i < nq := by show i < (resBL R ρ s y).length; rw [hlenB]; exact (List.getElem?_eq_some_iff.1 e).1
          have := k1.so i j e
          rw [Nat.zero_add] at this ⊢
          rw [(hM2a i hi).1,(hM2a i hi).2]; exact this
         ·have hi : i < nq := (List.getElem?_eq_some_iff.1 e').1
          have := k1.no i b e e'
          rw [Nat.zero_add] at this ⊢
          rw [(hM2a i hi).1,(hM2a i hi).2]
          refine ⟨?_,this.2⟩
          rw [this.1]
          have harr : isDat b = true := by
           rcases List.mem_append.1 (List.mem_of_getElem? e') with h | h
           ·exact resR_dat R ρ 0 b h
           ·have := slW_arr s y _ b h
            cases b <;> first | exact this | cases this
          cases b with
          | arr T o L => rfl
          | box cs => simp [tb]
          | rws => cases harr
          | hol => cases harr
          | tld => cases harr
          | log => cases harr
          | ara => first | rfl | cases harr
        have kL := At.left k1' hlen1
        have kR := At.right k1' hlen1
        rw [Nat.zero_add] at kR
        obtain ⟨r1',er',_,hres'⟩ := resDec_spec (N' := N1) (M' := M2) (ℓ := ℓ) (ℓ' := ℓ2) (hpT := hpT) hD.d R r ρ l [] hd
        rw [List.append_nil] at er'
        subst er'
        have hH := hD.hp
        rw [toAS_hp] at hH
        obtain ⟨b1,b2⟩ := (hres' 0).2.2 (fun _ _ h => h) hH kL
        have hrep : Rep w' N1 M2 (av hpT (tupT (resR 0 R ρ).1)) v [] := by
         generalize (resR 0 R ρ).1 = zs at b2 hlen2
         match hr1 : r,zs,hlen2 with
         | [],[],_ =>
          have := b2 [] .nil
          cases v2 with
          | tup q => cases q; exact .tup .nil
         | [q],[z],_ =>
          have := b2 [v] (.cons (L1 := []) (L2 := []) v2 .nil)
          have := this.get 0
          simpa [tupT] using this
         | q :: q' :: qs,z :: z' :: zs,_ =>
          cases v2 with
          | tup qv =>
           have := b2 _ qv
           show Rep w' N1 M2 (.tup (avL hpT (z :: z' :: zs))) _ []
           rw [avL_map]
           exact .tup this
        have hsrc : ∀ i,∀ p ∈ ℓ2 i,∃ j,p ∈ ℓ j ∧ j < t.hp.length ∧ ((i < nq ∧ (l ++ m)[i]? = some (some j)) ∨ (nq ≤ i ∧ j = i - nq ∧ j ∈ fixL s 0)) := fun i p hp => by
         rcases Nat.lt_or_ge i nq with h | h
         ·rw [(hM2a i h).2] at hp
          obtain ⟨j,e,hj⟩ := k3 i p hp
          exact ⟨j,hj,hlt j (somes_mem.2 (List.mem_of_getElem? e)),.inl ⟨h,e⟩⟩
         ·obtain ⟨q,rfl⟩ : ∃ q,i = nq + q := ⟨i - nq,by omega⟩
          cases hF : F[q]? with
          | none => rw [(hM2d q hF).2] at hp; cases hp
          | some z =>
           have hq : q < blen s := by rw [← hFl]; exact (List.getElem?_eq_some_iff.1 hF).1
           obtain ⟨z',g1,g2,g3⟩ := hfx np q hq
           rw [show (fxW s np y)[q]? = some z from hF] at g1
           cases g1
           rw [Nat.zero_add] at g2 g3
           cases z with
           | none => rw [(hM2c q hF).2] at hp; cases hp
           | some z =>
            rw [(hM2b q z hF).2] at hp
            refine ⟨q,hp,?_,.inr ⟨by omega,by omega,g3 rfl⟩⟩
            cases g2 with
            | arr e _ => exact (List.getElem?_eq_some_iff.1 e).1
            | box e _ _ _ => exact (List.getElem?_eq_some_iff.1 e).1
            | bv e _ => exact (List.getElem?_eq_some_iff.1 e).1
        have hown : ∀ i,∀ p ∈ ℓ2 i,p.1 < w'.heap.size ∧ (C.w0.heap.size ≤ p.1 ∨ p.1 ∈ C.X) ∧ ∀ o,N1 p.1 o → o < p.2 := fun i p hp => by
         obtain ⟨j,hj,hl,_⟩ := hsrc i p hp
         exact hD.own j (by rw [toAS_hp,toHP_len]; exact hl) p hj
        have hinj : ∀ i i' j,((i < nq ∧ (l ++ m)[i]? = some (some j)) ∨ (nq ≤ i ∧ j = i - nq ∧ j ∈ fixL s 0)) → ((i' < nq ∧ (l ++ m)[i']? = some (some j)) ∨ (nq ≤ i' ∧ j = i' - nq ∧ j ∈ fixL s 0)) → i = i' := fun i i' j h h' => by
         rcases h with ⟨a1,a2⟩ | ⟨a1,a2,a3⟩ <;> rcases h' with ⟨c1,c2⟩ | ⟨c1,c2,c3⟩
         ·exact nodup_somes hnd a2 c2
         ·exact absurd rfl (hdj j (somes_mem.2 (List.mem_of_getElem? a2)) j c3)
         ·exact absurd rfl (hdj j (somes_mem.2 (List.mem_of_getElem? c2)) j a3)
         ·omega
        refine ⟨hD.df,v,v1,v,rfl,N1,M2,(List.range (toHP hpT).length).flatMap ℓ2,hrep,⟨?_,?_,?_,hD.nlt,fun k hk => ?_⟩,hD.fr,hD.nup,hD.ndn,?_,fun k m1 m0 e1 e0 => ?_⟩
        ·refine HR.of_fn fun i z hz => ?_
         rw [Nat.zero_add]
         rw [toHP_get] at hz
         rcases Nat.lt_or_ge i nq with hi | hi
         ·have hbi : (resBL R ρ s y)[i]? = some ((resBL R ρ s y)[i]'hi) := List.getElem?_eq_getElem hi
          rw [hpTn i _ hbi] at hz
          simp only [Option.map_some,Option.some.injEq] at hz
          subst hz
          rcases Nat.lt_or_ge i np with hi2 | hi2
          ·have hb2 : (resR 0 R ρ).2[i]? = some ((resBL R ρ s y)[i]'hi) := by
            rw [← hbi]
            show _ = ((resR 0 R ρ).2 ++ slW s np y)[i]?
            rw [List.getElem?_append_left hi2]
           have := b1 i _ hb2
           rw [Nat.zero_add] at this
           exact this
          ·have hb2 : (slW s np y)[i - np]? = some ((resBL R ρ s y)[i]'hi) := by
            rw [← hbi]
            show _ = ((resR 0 R ρ).2 ++ slW s np y)[i]?
            rw [List.getElem?_append_right hi2]
           have hmi : i - np < m.length := by rw [hml,← slW_len s y np]; exact (List.getElem?_eq_some_iff.1 hb2).1
           generalize (resBL R ρ s y)[i]'hi = bb at hb2
           cases hmz : m[i - np]? with
           | none => rw [List.getElem?_eq_getElem hmi] at hmz; cases hmz
           | some oj =>
            cases oj with
            | none =>
             obtain ⟨A,e⟩ := (hsl' np (i - np)).2 hmz
             rw [hb2] at e
             cases e
             obtain ⟨g1,g2⟩ := kR.no _ _ hmz hb2
             rw [show (resR 0 R ρ).2.length + (i - np) = i from by show np + (i - np) = i; omega] at g1 g2
             exact hb_none g1 g2
            | some j =>
             obtain ⟨A,o,Z,q1,q2,e⟩ := (hsl' np (i - np)).1 j hmz
             rw [hb2] at e
             cases e
             obtain ⟨g1,g2⟩ := kR.so _ _ hmz
             rw [show (resR 0 R ρ).2.length + (i - np) = i from by show np + (i - np) = i; omega] at g1 g2
             exact hb_own (fun _ _ h => h) hH q1 q2 g1 g2
         ·obtain ⟨q,rfl⟩ : ∃ q,i = nq + q := ⟨i - nq,by omega⟩
          rw [hpTm] at hz
          cases hF : F[q]? with
          | none => rw [hF] at hz; cases hz
          | some zz =>
           rw [hF] at hz
           simp only [Option.map_some,Option.some.injEq] at hz
           subst hz
           have hq : q < blen s := by rw [← hFl]; exact (List.getElem?_eq_some_iff.1 hF).1
           obtain ⟨z',g1,g2,g3⟩ := hfx np q hq
           rw [show (fxW s np y)[q]? = some zz from hF] at g1
           cases g1
           rw [Nat.zero_add] at g2 g3
           cases g2 with
           | gone => exact hM2c q hF
           | arr e1 e2 =>
            obtain ⟨f1,f2⟩ := hM2b q _ hF
            exact hb_own (fun _ _ h => h) hH e1 e2 f1 f2
           | bv e1 e2 =>
            obtain ⟨f1,f2⟩ := hM2b q _ hF
            exact hb_bv (fun _ _ h => h) hH e2 e1 f1 f2
           | box e1 e2 e3 e4 =>
            rename_i cs T x o l'
            obtain ⟨f1,f2⟩ := hM2b q _ hF
            refine hb_box (fun _ _ h => h) hH e2 ⟨fun i b e => ?_,fun i j e => ?_,fun i b e e' => ?_⟩ e1 f1 f2
            ·rw [Nat.add_assoc]
             exact kR.hp (o + i) b (e4 i b e)
            ·rw [Nat.add_assoc]
             exact kR.so (o + i) j (e3 i _ e)
            ·rw [Nat.add_assoc]
             exact kR.no (o + i) b (e3 i _ e) (e4 i b e')
        ·rw [List.map_flatMap]
         refine List.pairwise_flatMap.2 ⟨fun i hi => ?_,?_⟩
         ·rcases Nat.lt_or_ge i nq with h | h
          ·rw [(hM2a i h).2]
           cases hq' : (l ++ m)[i]? with
           | none =>
            have : ℓ' i = [] := by
             cases hl : ℓ' i with
             | nil => rfl
             | cons p _ => obtain ⟨j,e,_⟩ := k3 i p (by rw [hl]; simp); rw [hq'] at e; cases e
            rw [this]; simp
           | some o =>
            cases o with
            | none =>
             have : ℓ' i = [] := by
              cases hl : ℓ' i with
              | nil => rfl
              | cons p _ => obtain ⟨j,e,_⟩ := k3 i p (by rw [hl]; simp); rw [hq'] at e; cases e
             rw [this]; simp
            | some j =>
             have := (k1.so i j hq').2
             rw [Nat.zero_add] at this
             rw [this]
             exact hD.nd j (by rw [toAS_hp,toHP_len]; exact hlt j (somes_mem.2 (List.mem_of_getElem? hq')))
          ·obtain ⟨q,rfl⟩ : ∃ q,i = nq + q := ⟨i - nq,by omega⟩
           cases hF : F[q]? with
           | none => rw [(hM2d q hF).2]; simp
           | some z =>
            cases z with
            | none => rw [(hM2c q hF).2]; simp
            | some z =>
             rw [(hM2b q z hF).2]
             rcases Nat.lt_or_ge q t.hp.length with hq | hq
             ·exact hD.nd q (by rw [toAS_hp,toHP_len]; exact hq)
             ·have : ∀ p ∈ ℓ2 (nq + q),False := fun p hp => by
               obtain ⟨j,_,hl,h⟩ := hsrc _ p hp
               rcases h with h | h <;> omega
              rw [← (hM2b q z hF).2]
              cases hl : ℓ2 (nq + q) with
              | nil => simp
              | cons p _ => exact (this p (by rw [hl]; simp)).elim
         ·rw [List.pairwise_iff_getElem]
          intro i i' hi hi' hii x hx y' hy' e
          simp only [List.getElem_range] at hx hy'
          obtain ⟨p,hp,rfl⟩ := List.mem_map.1 hx
          obtain ⟨q,hq,e'⟩ := List.mem_map.1 hy'
          obtain ⟨j,m1,l1,g1⟩ := hsrc i p hp
          obtain ⟨j',m2,l2,g2⟩ := hsrc i' q hq
          refine hD.dj j j' (by rw [toAS_hp,toHP_len]; exact l1) (by rw [toAS_hp,toHP_len]; exact l2) (fun ee => ?_) p m1 q m2 (e.trans e'.symm)
          subst ee
          have := hinj i i' j g1 g2
          omega
        ·intro p hp
         obtain ⟨i,hi,hp⟩ := List.mem_flatMap.1 hp
         obtain ⟨o1,o2,o3⟩ := hown i p hp
         exact ⟨o1,o3⟩
        ·rw [toHP_len,hpTl] at hk
         obtain ⟨q,rfl⟩ : ∃ q,k = nq + q := ⟨k - nq,by omega⟩
         exact (hM2d q (List.getElem?_eq_none (by omega))).1
        ·intro p hp
         obtain ⟨i,hi,hp⟩ := List.mem_flatMap.1 hp
         exact (hown i p hp).2.1
        ·cases hF : F[k]? with
         | none => rw [show M2 ((resBL R ρ s y).length + k) = none from (hM2d k hF).1] at e1; cases e1
         | some z =>
          cases z with
          | none => rw [show M2 ((resBL R ρ s y).length + k) = some none from (hM2c k hF).1] at e1; cases e1
          | some z =>
           rw [show M2 ((resBL R ρ s y).length + k) = M1 k from (hM2b k z hF).1] at e1
           exact hD.mv k m1 m0 e1 e0
      ·cases ht
     cases e with
     | normal =>
      obtain ⟨t,k1,k2⟩ := q
      exact fin t k1 k2
     | ret =>
      obtain ⟨t,ρ',k1,k2,k3⟩ := q
      cases k2
      exact fin t k1 k3
     | exit i =>
      obtain ⟨t,k1,_⟩ := q
      cases k1
     | _ => exact q.elim
    ·cases hf
   ·cases hf
 ·cases hf
end Go.Proofs.Ytkmhopbmpeiofaa.Nx
namespace Go.Proofs.Ytkmhopbmpeiofaa.Nx
open Go Go.RowKit
def lenP : PK → Nat
 | .un => 0
 | .d _ => 1
 | .ip _ => 1
 | .fn _ _ => 1
 | .pr a b => lenP a + lenP b
theorem capT_len : ∀ (p : PK) (a : DenP p),(capT p a).length = lenP p
 | .un,_ => rfl
 | .d _,_ => rfl
 | .ip _,_ => rfl
 | .fn _ _,_ => rfl
 | .pr a b,x => by simp [capT,lenP,capT_len a,capT_len b]
def AllOk (P : Program) : List CX → Prop
 | [] => True
 | cx :: Γ => CXok P cx ∧ AllOk P Γ
theorem AllOk.mem {P : Program} : ∀ {Γ : List CX},AllOk P Γ → ∀ cx ∈ Γ,CXok P cx
 | [],_,_,h => by cases h
 | c :: Γ,h,ct,hm => by
  rcases List.mem_cons.1 hm with rfl | hm
  ·exact h.1
  ·exact AllOk.mem h.2 ct hm
def LoopsOk {R : Type} (Γ : List CX) (Θ : TyO) (Λ : List (LC R)) (n : Nat) (res : TS → Option R) : List (LC R) → List (Nat × NC) → Prop
 | [],_ => True
 | l :: ls,bs => LoopEq Γ Θ Λ n res l (bs.headD (0,.skip)).2 ∧ LoopsOk Γ Θ Λ n res ls bs.tail
def idsOk {R : Type} (Λ : List (LC R)) (bs : List (Nat × NC)) : Bool :=
 nodupB (bs.map Prod.fst) && (bs.map Prod.fst == Λ.map LC.id)
theorem LoopEq.mk {R : Type} {Γ : List CX} {Θ : TyO} {Λ : List (LC R)} {n : Nat} {res : TS → Option R} {l : LC R} {B : NC} (N : Nat) (lp : ∀ (Ω : Type),(DenS l.x → Option Ω) → (R → Option Ω) → (DenS l.s → Option Ω) → DenS l.s → Option Ω)
  (h : ∀ (Ω : Type) (g : DenS l.s → Option Ω) (kx : DenS l.x → Option Ω) (kr : R → Option Ω) (s : DenS l.s),
   splitL (xrun Γ Θ Λ n res B (fun t => (maskL n l.q l.s t).bind g) (fun i t => bif Nat.beq i l.id then (maskL n l.q l.x t).bind kx else none) kr) l.s s = lp Ω kx kr g s)
  (h0 : (fun (Ω : Type) (kx : DenS l.x → Option Ω) (kr : R → Option Ω) => l.run kx kr) = fun Ω kx kr => iter (lp Ω kx kr) N := by rfl) : LoopEq Γ Θ Λ n res l B :=
 ⟨N,lp,fun Ω kx kr s => congrFun (congrFun (congrFun (congrFun h0 Ω) kx) kr) s,h⟩
theorem loops_at {R : Type} {Γ : List CX} {Θ : TyO} {Λ0 : List (LC R)} {n : Nat} {res : TS → Option R} : ∀ {Λ : List (LC R)} {bs : List (Nat × NC)},(bs.map Prod.fst).Nodup → bs.map Prod.fst = Λ.map LC.id → LoopsOk Γ Θ Λ0 n res Λ bs →
  ∀ id B,(id,B) ∈ bs → ∀ l,lcAt Λ id = some l → LoopEq Γ Θ Λ0 n res l B
 | [],[],_,_,_,id,B,hm,_,_ => by cases hm
 | [],_ :: _,_,h,_,_,_,_,_,_ => by cases h
 | _ :: _,[],_,h,_,_,_,_,_,_ => by cases h
 | l0 :: Λ,b :: bs,hn,he,hl,id,B,hm,l,hlc => by
  simp only [List.map_cons,List.cons.injEq] at he
  rw [List.map_cons] at hn
  obtain ⟨n1,n2⟩ := List.nodup_cons.1 hn
  rcases List.mem_cons.1 hm with rfl | hm
  ·simp only [lcAt] at hlc
   have : Nat.beq l0.id id = true := by rw [Nat.beq_eq]; exact he.1.symm
   rw [this,cond_true] at hlc
   cases hlc
   exact hl.1
  ·simp only [lcAt] at hlc
   have : Nat.beq l0.id id = false := by
    rw [← Bool.not_eq_true,Nat.beq_eq]
    intro e
    exact n1 (by rw [he.1,e]; exact List.mem_map.2 ⟨_,hm,rfl⟩)
   rw [this,cond_false] at hlc
   exact loops_at n2 he.2 hl.2 id B hm l hlc
theorem CT_ok {P : Program} {f : FuncId} {Γ : List CX} {Θ : TyO} {p : PK} {R : RK} {Λ : List (LC (DenR R))} {F : DenP p → Option (DenR R)} (hs : (nFn P f).isSome = true) (hm : P.follows .mixedOrders = true) (hΓ : AllOk P Γ)
  (hi : idsOk Λ (loopsOf (nfOf P f).body) = true) (hl : LoopsOk Γ Θ Λ (nfOf P f).n (resOf (nfOf P f).n R (nfOf P f).res) Λ (loopsOf (nfOf P f).body)) (hp : Nat.ble (lenP p) (nfOf P f).n = true)
  (hF : ∀ a,xfn Γ Θ (nfOf P f) p R Λ a = F a) : CTok P ⟨f,p,R,F⟩ := by
 obtain ⟨nf,hnf⟩ := Option.isSome_iff_exists.1 hs
 have e : nfOf P f = nf := by unfold nfOf; rw [hnf]; rfl
 rw [e] at hi hl hp hF
 have : F = xfn Γ Θ nf p R Λ := funext fun a => (hF a).symm
 rw [this]
 simp only [idsOk,Bool.and_eq_true,beq_iff_eq] at hi
 refine CT_of_x hnf hm (fun ct h => AllOk.mem hΓ ct h) (loops_at (nodupB_iff hi.1) hi.2 hl) fun a => ?_
 unfold argAV
 rw [List.length_map,capT_len]
 exact Nat.le_of_ble_eq_true hp
end Go.Proofs.Ytkmhopbmpeiofaa.Nx
namespace Go.Proofs.Ytkmhopbmpeiofaa.Nx
open Go Go.RowKit
def keepsAll {R : Type} (q : Nat) : List (LC R) → Bool
 | [] => true
 | l :: Λ => Nat.ble q l.q && keepsAll q Λ
theorem keepsAll_at {R : Type} {q : Nat} : ∀ {Λ : List (LC R)},keepsAll q Λ = true → ∀ id l,lcAt Λ id = some l → q ≤ l.q
 | [],_,_,_,h => by cases h
 | l0 :: Λ,h,id,l,hl => by
  simp only [keepsAll,Bool.and_eq_true] at h
  simp only [lcAt] at hl
  cases hb : Nat.beq l0.id id with
  | true => rw [hb,cond_true] at hl; cases hl; exact Nat.le_of_ble_eq_true h.1
  | false => rw [hb,cond_false] at hl; exact keepsAll_at h.2 id l hl
def slotsOk (s : SK) : Bool := (slotsS s).all fun k => Nat.blt k (slotsS s).length
theorem CM_ok {P : Program} {f : FuncId} {Γ : List CX} {Θ : TyO} {s : SK} {R : RK} {Λ : List (LC (DenR R × DenW s))} {F : DenS s → Option (DenR R × DenW s)} (hs : (nFn P f).isSome = true) (hm : P.follows .mixedOrders = true) (hΓ : AllOk P Γ)
  (hi : idsOk Λ (loopsOf (nfOf P f).body) = true) (hl : LoopsOk Γ Θ Λ (nfOf P f).n (resOfM (nfOf P f).n R (nfOf P f).res s) Λ (loopsOf (nfOf P f).body))
  (hp : (Nat.ble (slotsS s).length (nfOf P f).n && (slotsOk s && keepsAll (blen s) Λ)) = true)
  (hF : ∀ x,xfnM Γ Θ (nfOf P f) s R Λ x = F x) : CMok P ⟨f,s,R,F⟩ := by
 obtain ⟨nf,hnf⟩ := Option.isSome_iff_exists.1 hs
 have e : nfOf P f = nf := by unfold nfOf; rw [hnf]; rfl
 rw [e] at hi hl hp hF
 have : F = xfnM Γ Θ nf s R Λ := funext fun a => (hF a).symm
 rw [this]
 simp only [idsOk,Bool.and_eq_true,beq_iff_eq] at hi
 simp only [Bool.and_eq_true] at hp
 obtain ⟨p1,p3,p4⟩ := hp
 refine CM_of_x hnf hm (fun cx h => AllOk.mem hΓ cx h) (loops_at (nodupB_iff hi.1) hi.2 hl) (keepsAll_at p4) (fun k hk => ?_) (Nat.le_of_ble_eq_true p1)
 unfold slotsOk at p3
 rw [List.all_eq_true] at p3
 have := p3 k hk
 rwa [Nat.blt_eq] at this
theorem CT_okN {P : Program} {f : FuncId} {nf : NF} (hn : nFn P f = some nf) {Γ : List CX} {Θ : TyO} {p : PK} {R : RK} {Λ : List (LC (DenR R))} {F : DenP p → Option (DenR R)} (hm : P.follows .mixedOrders = true) (hΓ : AllOk P Γ)
  (hi : idsOk Λ (loopsOf nf.body) = true) (hl : LoopsOk Γ Θ Λ nf.n (resOf nf.n R nf.res) Λ (loopsOf nf.body)) (hp : Nat.ble (lenP p) nf.n = true)
  (hF : ∀ a,xfn Γ Θ nf p R Λ a = F a) : CTok P ⟨f,p,R,F⟩ := by
 have e : nfOf P f = nf := by unfold nfOf; rw [hn]; rfl
 subst e
 exact CT_ok (by rw [hn]; rfl) hm hΓ hi hl hp hF
theorem CM_okN {P : Program} {f : FuncId} {nf : NF} (hn : nFn P f = some nf) {Γ : List CX} {Θ : TyO} {s : SK} {R : RK} {Λ : List (LC (DenR R × DenW s))} {F : DenS s → Option (DenR R × DenW s)} (hm : P.follows .mixedOrders = true) (hΓ : AllOk P Γ)
  (hi : idsOk Λ (loopsOf nf.body) = true) (hl : LoopsOk Γ Θ Λ nf.n (resOfM nf.n R nf.res s) Λ (loopsOf nf.body))
  (hp : (Nat.ble (slotsS s).length nf.n && (slotsOk s && keepsAll (blen s) Λ)) = true)
  (hF : ∀ x,xfnM Γ Θ nf s R Λ x = F x) : CMok P ⟨f,s,R,F⟩ := by
 have e : nfOf P f = nf := by unfold nfOf; rw [hn]; rfl
 subst e
 exact CM_ok (by rw [hn]; rfl) hm hΓ hi hl hp hF
end Go.Proofs.Ytkmhopbmpeiofaa.Nx
namespace Go.Proofs.Ytkmhopbmpeiofaa.Nx
open Go Go.RowKit
mutual
def tyS : SH → Ty
 | .b => .bl
 | .i k => .i k
 | .s => .tx
 | .sl _ _ _ e => .sl (tyS e)
 | .st l => .st (tyL l)
def tyL : List SH → Ty
 | [] => .bl
 | [x] => tyS x
 | x :: y :: l => .pr (tyS x) (tyL (y :: l))
end
mutual
def okS : SH → Bool
 | .sl sz b ag e => Nat.beq sz (tyS e).sz && (Nat.blt 0 b && (ag == (tyS e).ag && okS e))
 | .st l => !l.isEmpty && okL l
 | _ => true
def okL : List SH → Bool
 | [] => true
 | x :: l => okS x && okL l
end
@[reducible] def good : (T : Ty) → Den T → Prop
 | .i k,x => k.min ≤ x ∧ x ≤ k.max
 | .bl,_ => True
 | .tx,x => x.size ≤ reachBytes
 | .sl t,x => x.length ≤ reachBytes ∧ ∀ y ∈ x,good t y
 | .sv t,x => x.length ≤ reachBytes ∧ ∀ y ∈ x,good t y
 | .ar _ k,x => ∀ y ∈ x,k.min ≤ y ∧ y ≤ k.max
 | .pr a b,x => good a x.1 ∧ good b x.2
 | .st t,x => good t x
mutual
theorem shC_den : ∀ (sh : SH),okS sh = true → ∀ xs,shC sh xs → ∃ d : Den (tyS sh),xs = cls false (tyS sh) d ∧ good (tyS sh) d
 | .b,_,xs,h => by
  obtain ⟨b,rfl⟩ := h
  exact ⟨b,rfl,trivial⟩
 | .i k,_,xs,h => by
  obtain ⟨n,h1,h2,rfl⟩ := h
  exact ⟨n,rfl,h1,h2⟩
 | .s,_,xs,h => by
  obtain ⟨t,h1,rfl⟩ := h
  exact ⟨t,rfl,h1⟩
 | .sl sz b ag e,hok,xs,h => by
  simp only [okS,Bool.and_eq_true,Nat.beq_eq,Nat.blt_eq,beq_iff_eq] at hok
  obtain ⟨rfl,hb,rfl,he⟩ := hok
  obtain ⟨rows,h1,h2,rfl⟩ := h
  have : ∃ L : List (Den (tyS e)),rows = L.map (cls false (tyS e)) ∧ ∀ y ∈ L,good (tyS e) y := by
   clear h2
   induction rows with
   | nil => exact ⟨[],rfl,fun _ h => by cases h⟩
   | cons r rows ih =>
    obtain ⟨d,e1,e2⟩ := shC_den e he r (h1 r (by simp))
    obtain ⟨L,e3,e4⟩ := ih fun r hr => h1 r (by simp [hr])
    refine ⟨d :: L,by rw [e1,e3]; rfl,fun y hy => ?_⟩
    rcases List.mem_cons.1 hy with rfl | hy
    ·exact e2
    ·exact e4 y hy
  obtain ⟨L,rfl,hg⟩ := this
  refine ⟨L,?_,?_,hg⟩
  ·show [AV.sl false (tyS e).sz ((L.map (cls false (tyS e))).map (mkr (tyS e).ag))] = [AV.sl false (tyS e).sz (L.map fun y => mkr (tyS e).ag (cls false (tyS e) y))]
   rw [List.map_map]; rfl
  ·rw [List.length_map] at h2
   exact Nat.le_trans (Nat.le_mul_of_pos_right _ hb) h2
 | .st l,hok,xs,h => by
  simp only [okS,Bool.and_eq_true,Bool.not_eq_true',List.isEmpty_eq_false_iff] at hok
  exact shCs_den l hok.1 hok.2 xs h
theorem shCs_den : ∀ (l : List SH),l ≠ [] → okL l = true → ∀ xs,shCs l xs → ∃ d : Den (tyL l),xs = cls false (tyL l) d ∧ good (tyL l) d
 | [],h0,_,_,_ => absurd rfl h0
 | [x],_,hok,xs,h => by
  simp only [okL,Bool.and_eq_true] at hok
  obtain ⟨ys,zs,h1,h2,rfl⟩ := h
  obtain ⟨d,e1,e2⟩ := shC_den x hok.1 ys h1
  have h2 : zs = [] := h2
  subst h2
  exact ⟨d,by rw [List.append_nil,e1]; rfl,e2⟩
 | x :: y :: l,_,hok,xs,h => by
  simp only [okL,Bool.and_eq_true] at hok
  obtain ⟨ys,zs,h1,h2,rfl⟩ := h
  obtain ⟨d,e1,e2⟩ := shC_den x hok.1 ys h1
  obtain ⟨d',e3,e4⟩ := shCs_den (y :: l) (by simp) (by simp only [okL,Bool.and_eq_true]; exact hok.2) zs h2
  exact ⟨(d,d'),by rw [e1,e3]; rfl,e2,e4⟩
end
def shTy (P : Program) (m : Nat) (t : TypeId) (T : Ty) : Bool :=
 match shOf P m t with
 | some sh => okS sh && (decide (tyS sh = T) && (isAggB P t == T.ag))
 | none => false
section
variable {H : Type} {enc : TypeId × Value → H} {P : Program} {W : World} {spare : Nat → Bool} {held : Bool} {M : MT}
theorem arg_den {m base : Nat} {t : TypeId} {T : Ty} (hsh : shTy P m t T = true) {v : Value} {d : DataW H} {ps : List MemPlace} (hok : Value.okWide P W .any base t v) (ht : DataW.Trod enc P W 0 spare held t v d ps) (hw : ∀ n ∈ DataW.weights P t d,n ≤ reachBytes) :
  ∃ x : Den T,good T x ∧ Rep W (oldN W) M (Nx.enc false T x) v [] := by
 unfold shTy at hsh
 split at hsh
 ·rename_i sh hs
  simp only [Bool.and_eq_true,decide_eq_true_eq,beq_iff_eq] at hsh
  obtain ⟨h1,rfl,h3⟩ := hsh
  obtain ⟨xs,k1,k2⟩ := arg_av (M := M) hs hok ht hw
  obtain ⟨x,rfl,k3⟩ := shC_den sh h1 xs k1
  rw [h3] at k2
  exact ⟨x,k3,k2⟩
 ·cases hsh
end
theorem law_calls {P : Program} {W : World} {p : PK} {F : DenP p → Option Bool} {f : FuncId} (hc : CTok P ⟨f,p,.t .bl,F⟩) {a : DenP p} (hF : F a = some true) {vs : List Value} (hr : RepL W (oldN W) (fun _ => none) (argAV p a) vs []) :
  Calls P f ⟨vs⟩ W fun e W' => e = .returned (.bool true) ∧ Below W.heap.size W W' :=
 row_calls (hc a true hF) hr
end Go.Proofs.Ytkmhopbmpeiofaa.Nx
namespace Go.Proofs.Ytkmhopbmpeiofaa.Nx
open Go Go.RowKit
abbrev Big (N : Nat) : Prop := 1099511627776 ≤ N
@[reducible] def okz : (T : Ty) → Den T → Prop
 | .i _,_ => True
 | .bl,_ => True
 | .tx,x => x.size ≤ 1048576
 | .sl t,x => x.length ≤ 1048576 ∧ ∀ y ∈ x,okz t y
 | .sv t,x => x.length ≤ 1048576 ∧ ∀ y ∈ x,okz t y
 | .ar _ _,x => x.length ≤ 1048576
 | .pr a b,x => okz a x.1 ∧ okz b x.2
 | .st t,x => okz t x
theorem w64 {x : Int} (h1 : -9223372036854775808 ≤ x) (h2 : x ≤ 9223372036854775807) : wrap64 x = x := Go.IntWalk.wrap64_in x ⟨h1,h2⟩
theorem w64_up {i n : Nat} (h : i ≤ n) (hn : n ≤ 140737488355328) : wrap64 ((i : Int) + 1) = ((i + 1 : Nat) : Int) := by
 rw [w64 (by omega) (by omega)]; rfl
theorem dT {p : Prop} [Decidable p] (h : p) : decide p = true := decide_eq_true h
theorem dF {p : Prop} [Decidable p] (h : ¬p) : decide p = false := decide_eq_false h
theorem lt_rows {α : Type} (L : List α) {i : Nat} (h : i < L.length) : decide ((i : Int) < (L.length : Int)) = true := decide_eq_true (by omega)
theorem le_rows (i : Nat) : decide (0 ≤ (i : Int)) = true := decide_eq_true (by omega)
theorem getD_at {α : Type} (L : List α) {i : Nat} (h : i < L.length) (d : α) : L.getD ((i : Int)).toNat d = L[i] := by
 rw [Int.toNat_natCast]; simp [List.getD,h]
theorem drop_cons {α : Type} {L : List α} {i : Nat} (h : i < L.length) : L.drop i = L[i] :: L.drop (i + 1) := List.drop_eq_getElem_cons h
section iter
variable {σ R : Type} {B : (σ → Option R) → σ → Option R}
theorem iter_to {A : Type} (st : Nat → A → σ) (Q : Nat → A → Option R → Prop) (n : Nat)
  (h1 : ∀ i a rec_,i < n → (∀ a',Q (i + 1) a' (rec_ (st (i + 1) a'))) → Q i a (B rec_ (st i a)))
  (h2 : ∀ a rec_,Q n a (B rec_ (st n a))) : ∀ N,n < N → ∀ a,Q 0 a (iter B N (st 0 a)) := by
 have key : ∀ k i N,i + k = n → k < N → ∀ a,Q i a (iter B N (st i a)) := by
  intro k
  induction k with
  | zero =>
   intro i N hi hN a
   obtain ⟨M,rfl⟩ : ∃ M,N = M + 1 := ⟨N - 1,by omega⟩
   have : i = n := by omega
   subst this
   exact h2 a _
  | succ k ih =>
   intro i N hi hN a
   obtain ⟨M,rfl⟩ : ∃ M,N = M + 1 := ⟨N - 1,by omega⟩
   exact h1 i a _ (by omega) fun a' => ih (i + 1) M (by omega) (by omega) a'
 exact fun N hN a => key n 0 N (by omega) hN a
theorem iter_row {α : Type} (L : List α) (st : Nat → σ) (F : Nat → List α → Option R)
  (h1 : ∀ i (h : i < L.length) rec_,rec_ (st (i + 1)) = F (i + 1) (L.drop (i + 1)) → B rec_ (st i) = F i (L[i] :: L.drop (i + 1)))
  (h2 : ∀ rec_,B rec_ (st L.length) = F L.length []) {N : Nat} (hN : L.length < N) : iter B N (st 0) = F 0 L := by
 have := iter_to (B := B) (A := Unit) (fun i _ => st i) (fun i _ r => r = F i (L.drop i)) L.length
  (fun i a rec_ hi h => by rw [drop_cons hi]; exact h1 i hi rec_ (h ()))
  (fun a rec_ => by rw [List.drop_length]; exact h2 rec_) N hN ()
 rwa [List.drop_zero] at this
end iter
def SzOk (f : Int → Option Int) (P : Prop) : Prop := ∀ a,0 ≤ a → a ≤ 1048576 → ∃ r,f a = some r ∧ (r < 0 ∨ (0 ≤ r ∧ r ≤ a ∧ P))
theorem SzOk.mono {f : Int → Option Int} {P Q : Prop} (h : SzOk f P) (hq : P → Q) : SzOk f Q := fun a h1 h2 => by
 obtain ⟨r,e,h3⟩ := h a h1 h2
 exact ⟨r,e,h3.imp id fun h => ⟨h.1,h.2.1,hq h.2.2⟩⟩
theorem SzOk.last {f : Int → Option Int} {P : Prop} (h : SzOk f P) : SzOk (fun a => (f a).bind fun r => bif decide (r < 0) then some (-1) else some r) P := fun a h1 h2 => by
 obtain ⟨r,e,h3⟩ := h a h1 h2
 show ∃ r,((f a).bind _) = _ ∧ _
 rw [e]
 rcases h3 with h3 | h3
 ·exact ⟨-1,by show (bif _ then _ else _) = _; rw [dT h3]; rfl,.inl (by omega)⟩
 ·exact ⟨r,by show (bif _ then _ else _) = _; rw [dF (by omega)]; rfl,.inr h3⟩
theorem SzOk.bind {f g : Int → Option Int} {P Q : Prop} (h : SzOk f P) (hg : SzOk g Q) : SzOk (fun a => (f a).bind fun r => bif decide (r < 0) then some (-1) else g r) (P ∧ Q) := fun a h1 h2 => by
 obtain ⟨r,e,h3⟩ := h a h1 h2
 show ∃ r,((f a).bind _) = _ ∧ _
 rw [e]
 rcases h3 with h3 | h3
 ·exact ⟨-1,by show (bif _ then _ else _) = _; rw [dT h3]; rfl,.inl (by omega)⟩
 ·obtain ⟨r',e',h4⟩ := hg r h3.1 (by omega)
  refine ⟨r',by show (bif _ then _ else _) = _; rw [dF (by omega)]; exact e',h4.imp id fun h => ⟨h.1,by omega,h3.2.2,h.2.2⟩⟩
theorem SzOk.len {n : Nat} (hn : n ≤ reachBytes) : SzOk (fun a => bif decide (wrap64 (a - (n : Int)) < 0) then some (-1) else some (wrap64 (a - (n : Int)))) (n ≤ 1048576) := fun a h1 h2 => by
 have hn : n ≤ 140737488355328 := by have := hn; unfold reachBytes at this; omega
 show ∃ r,(bif _ then _ else _) = _ ∧ _
 rw [w64 (by omega) (by omega)]
 by_cases h : a - (n : Int) < 0
 ·exact ⟨-1,by rw [dT h]; rfl,.inl (by omega)⟩
 ·exact ⟨_,by rw [dF h]; rfl,.inr ⟨by omega,by omega,by omega⟩⟩
theorem SzOk.len' {n : Nat} (hn : n ≤ reachBytes) {g : Int → Option Int} {Q : Prop} (hg : SzOk g Q) : SzOk (fun a => bif decide (wrap64 (a - (n : Int)) < 0) then some (-1) else g (wrap64 (a - (n : Int)))) (n ≤ 1048576 ∧ Q) := fun a h1 h2 => by
 have hn : n ≤ 140737488355328 := by have := hn; unfold reachBytes at this; omega
 show ∃ r,(bif _ then _ else _) = _ ∧ _
 rw [w64 (by omega) (by omega)]
 by_cases h : a - (n : Int) < 0
 ·exact ⟨-1,by rw [dT h]; rfl,.inl (by omega)⟩
 ·obtain ⟨r,e,h3⟩ := hg (a - n) (by omega) (by omega)
  exact ⟨_,by rw [dF h]; exact e,h3.imp id fun h => ⟨h.1,by omega,by omega,h.2.2⟩⟩
theorem sz_rows {t : Ty} {d : Den t} {L : List (Den t)} (hg : good (.sl t) L) {f : Den t → Int → Option Int} (hf : ∀ x,good t x → SzOk (f x) (okz t x)) {N : Nat} (hN : Big N)
  {B : ((List (Den t) × Int × Int) → Option Int) → (List (Den t) × Int × Int) → Option Int}
  (hB : ∀ rec_ s0 s1 s5,B rec_ (s0,s1,s5) = (bif (decide (s5 < (s0.length : Int))) then (bif (decide (0 ≤ s5) && decide (s5 < s0.length)) then (f (s0.getD s5.toNat d) s1).bind fun r1 => (bif (decide (r1 < (0:Int))) then some (-1:Int) else rec_ (s0,r1,(wrap64 (s5 + (1:Int))))) else none) else some s1)) :
  SzOk (fun a => bif (decide ((wrap64 (a - (L.length : Int))) < (0:Int))) then some (-1:Int) else iter B N (L,(wrap64 (a - (L.length : Int))),(0:Int))) (okz (.sl t) L) := by
 by_cases hL : L.length ≤ 1048576
 ·refine SzOk.len' hg.1 (g := fun a => iter B N (L,a,0)) (Q := ∀ y ∈ L,okz t y) ?_
  intro a h1 h2
  have key := iter_to (B := B) (A := {a : Int // 0 ≤ a ∧ a ≤ 1048576}) (fun i a => (L,a.1,(i : Int))) (fun i a r => ∃ k,r = some k ∧ (k < 0 ∨ (0 ≤ k ∧ k ≤ a.1 ∧ ∀ y ∈ L.drop i,okz t y))) L.length
   (fun i a rec_ hi h => by
    rw [hB]
    simp only [lt_rows L hi,le_rows i,Bool.and_self,cond_true]
    rw [getD_at L hi]
    obtain ⟨k,e,hk⟩ := hf L[i] (hg.2 _ (List.getElem_mem hi)) a.1 a.2.1 a.2.2
    rw [e,Option.bind_some]
    rcases hk with hk | hk
    ·exact ⟨-1,by rw [dT hk]; rfl,.inl (by omega)⟩
    ·rw [dF (by omega),w64_up (Nat.le_refl i) (by omega)]
     obtain ⟨k',e',hk'⟩ := h ⟨k,hk.1,by have := a.2.2; omega⟩
     refine ⟨k',e',hk'.imp id fun h => ⟨h.1,Int.le_trans h.2.1 hk.2.1,?_⟩⟩
     rw [drop_cons hi]
     intro y hy
     rcases List.mem_cons.1 hy with rfl | hy
     ·exact hk.2.2
     ·exact h.2.2 y hy)
   (fun a rec_ => ⟨a.1,by rw [hB,dF (by omega)]; rfl,.inr ⟨a.2.1,Int.le_refl _,by rw [List.drop_length]; intro y hy; cases hy⟩⟩)
   N (by have hN : 1099511627776 ≤ N := hN; omega) ⟨a,h1,h2⟩
  rw [List.drop_zero] at key
  exact key
 ·intro a h1 h2
  have := hg.1
  have hn : L.length ≤ 140737488355328 := by unfold reachBytes at this; omega
  show ∃ r,(bif _ then _ else _) = _ ∧ _
  rw [w64 (by omega) (by omega)]
  exact ⟨-1,by rw [dT (by omega)]; rfl,.inl (by omega)⟩
theorem to_rows {t : Ty} {d : Den t} {L : List (Den t)} (hL : okz (.sl t) L) {f : Den t → Option (Den t)} (hf : ∀ x,okz t x → f x = some x) {N sz : Nat} (hN : Big N) (hsz : sz ≤ 1048576)
  {B : ((List (Den t) × List (Den t) × Int) → Option (List (Den t))) → (List (Den t) × List (Den t) × Int) → Option (List (Den t))}
  (hB : ∀ rec_ s0 s3 s4,B rec_ (s0,s3,s4) = (bif (decide (s4 < (s0.length : Int))) then (bif (decide (0 ≤ s4) && decide (s4 < s0.length)) then (f (s0.getD s4.toNat d)).bind fun r1 => (bif (decide (0 ≤ s4) && decide (s4 < s3.length)) then rec_ (s0,(s3.set s4.toNat r1),(wrap64 (s4 + (1:Int)))) else none) else none) else some s3)) :
  (bif (decide ((L.length : Int) = (L.length : Int)) && (decide (0 ≤ (L.length : Int)) && (decide ((L.length : Int) * (sz : Nat) ≤ 140737488355328) && decide ((L.length : Int) ≤ 9223372036854775807)))) then iter B N (L,(List.replicate (L.length : Int).toNat d),(0:Int)) else none) = some L := by
 have hl := hL.1
 have hN' : 1099511627776 ≤ N := hN
 have hm : L.length * sz ≤ 1048576 * 1048576 := Nat.mul_le_mul hl hsz
 have hm' : (L.length : Int) * (sz : Int) ≤ 140737488355328 := by
  have : ((L.length * sz : Nat) : Int) ≤ 140737488355328 := by omega
  rwa [Int.natCast_mul] at this
 rw [dT rfl,dT (by omega),dT hm',dT (by omega)]
 show iter B N (L,List.replicate ((L.length : Int)).toNat d,0) = _
 rw [Int.toNat_natCast]
 have key := iter_to (B := B) (A := Unit) (fun i _ => (L,L.take i ++ List.replicate (L.length - i) d,(i : Int))) (fun i _ r => r = some L) L.length
  (fun i a rec_ hi h => by
   rw [hB]
   simp only [lt_rows L hi,le_rows i,Bool.and_self,cond_true]
   rw [getD_at L hi,hf _ (hL.2 _ (List.getElem_mem hi)),Option.bind_some,lt_rows (L.take i ++ List.replicate (L.length - i) d) (by simp; omega)]
   simp only [Bool.and_self,cond_true]
   rw [w64_up (Nat.le_refl i) (by omega),Int.toNat_natCast]
   have e : (L.take i ++ List.replicate (L.length - i) d).set i L[i] = L.take (i + 1) ++ List.replicate (L.length - (i + 1)) d := by
    have hlen : (L.take i).length = i := by simp; omega
    obtain ⟨m,hm⟩ : ∃ m,L.length - i = m + 1 := ⟨L.length - i - 1,by omega⟩
    have hm2 : L.length - (i + 1) = m := by omega
    rw [hm,hm2,List.set_append_right _ _ (by omega),hlen,Nat.sub_self,List.replicate_succ,List.set_cons_zero,List.take_succ_eq_append_getElem hi,List.append_assoc]
    rfl
   rw [e]
   exact h ())
  (fun a rec_ => by rw [hB,dF (by omega)]; simp)
  N (by omega) ()
 simpa using key
theorem eq_rows {t : Ty} {d : Den t} {L : List (Den t)} (hL : okz (.sl t) L) {f : Den t → Den t → Option Bool} (hf : ∀ x,okz t x → f x x = some true) {N : Nat} (hN : Big N)
  {B : ((List (Den t) × List (Den t) × Int) → Option Bool) → (List (Den t) × List (Den t) × Int) → Option Bool}
  (hB : ∀ rec_ s0 s1 s5,B rec_ (s0,s1,s5) = (bif (decide (s5 < (s0.length : Int))) then (bif (decide (0 ≤ s5) && decide (s5 < s0.length)) then (bif (decide (0 ≤ s5) && decide (s5 < s1.length)) then (f (s0.getD s5.toNat d) (s1.getD s5.toNat d)).bind fun r1 => (bif (!r1) then some false else rec_ (s0,s1,(wrap64 (s5 + (1:Int))))) else none) else none) else some true)) :
  (bif (!decide ((L.length : Int) = (L.length : Int))) then some false else iter B N (L,L,(0:Int))) = some true := by
 have hl := hL.1
 have hN' : 1099511627776 ≤ N := hN
 rw [dT rfl]
 exact iter_to (B := B) (A := Unit) (fun i _ => (L,L,(i : Int))) (fun i _ r => r = some true) L.length
  (fun i a rec_ hi h => by
   rw [hB]
   simp only [lt_rows L hi,le_rows i,Bool.and_self,cond_true]
   rw [getD_at L hi,hf _ (hL.2 _ (List.getElem_mem hi)),Option.bind_some,w64_up (Nat.le_refl i) (by omega)]
   exact h ())
  (fun a rec_ => by rw [hB,dF (by omega)]; rfl) N (by omega) ()
theorem CT_texts {P : Program} {f : FuncId} {F : ByteArray → ByteArray → Int} (hg : Go.Proofs.Ytkmhopbmpeiofaa.Nx.Good P f) (h : ∀ a b w,Calls P f #[.string a,.string b] w fun e w' => e = .returned (.int .i64 (F a b)) ∧ w' = w) :
  CTok P ⟨f,.pr (.d .tx) (.d .tx),.t (.i .i64),fun a => some (F a.1 a.2)⟩ := by
 intro a r hr
 cases hr
 refine ⟨hg,fun w N M L vs he hv => ?_⟩
 have hvs : vs = [.string a.1,.string a.2] := vals_inv (us := [.string a.1,.string a.2]) hv
 subst hvs
 have hL : L = [] := by cases he.hr; rfl
 subst hL
 refine (h a.1 a.2 w).mono fun e w' ⟨e1,e2⟩ => ?_
 subst e1; subst e2
 refine ⟨_,rfl,resA (.t (.i .i64)) (F a.1 a.2),resH (.t (.i .i64)) (F a.1 a.2),N,M,[],⟨rfl,rfl⟩,.val _,he,FrN.refl _ _ _,fun k m m0 h1 h2 => ?_,fun _ _ h => h,fun _ _ h => .inl h,fun p hp => by cases hp⟩
 rw [h1] at h2
 cases h2
 exact ⟨Nat.le_refl _,fun _ => rfl⟩
end Go.Proofs.Ytkmhopbmpeiofaa.Nx
namespace Go.Proofs.Ytkmhopbmpeiofaa.Nx
open Go Go.RowKit
theorem w64_dn {k : Nat} (hk : k ≤ 140737488355328) : wrap64 (((k + 1 : Nat) : Int) - 1) = (k : Int) := by
 rw [w64 (by omega) (by omega)]; omega
def allI {α : Type} (p : Nat → α → Bool) : Nat → List α → Bool
 | _,[] => true
 | i,x :: xs => p i x && allI p (i + 1) xs
theorem allI_cons {α : Type} (p : Nat → α → Bool) (i : Nat) (x : α) (xs : List α) : allI p i (x :: xs) = (p i x && allI p (i + 1) xs) := rfl
def findI {α : Type} (p : α → Bool) : Nat → List α → Int
 | _,[] => -1
 | i,x :: xs => bif p x then i else findI p (i + 1) xs
theorem findI_cons {α : Type} (p : α → Bool) (i : Nat) (x : α) (xs : List α) : findI p i (x :: xs) = bif p x then (i : Int) else findI p (i + 1) xs := rfl
theorem findI_any {α : Type} (p : α → Bool) : ∀ (l : List α) (i : Nat),decide (0 ≤ findI p i l) = l.any p
 | [],i => rfl
 | x :: xs,i => by
  unfold findI
  rw [List.any_cons]
  cases p x
  ·exact findI_any p xs (i + 1)
  ·exact decide_eq_true (by show (0:Int) ≤ (i : Int); omega)
theorem findI_or {α : Type} (p : α → Bool) : ∀ (l : List α) (i : Nat),findI p i l = -1 ∨ ∃ j,i ≤ j ∧ j < i + l.length ∧ findI p i l = (j : Int)
 | [],i => .inl rfl
 | x :: xs,i => by
  unfold findI
  cases p x
  ·rcases findI_or p xs (i + 1) with h | ⟨j,h1,h2,h3⟩
   ·exact .inl h
   ·exact .inr ⟨j,by omega,by simp only [List.length_cons]; omega,h3⟩
  ·exact .inr ⟨i,Nat.le_refl _,by simp only [List.length_cons]; omega,rfl⟩
theorem allI_all {α : Type} (p : α → Bool) : ∀ (l : List α) (i : Nat),allI (fun _ => p) i l = l.all p
 | [],i => rfl
 | x :: xs,i => by unfold allI; rw [List.all_cons,allI_all p xs]
theorem iter_all {α σ R : Type} {B : (σ → Option R) → σ → Option R} (L : List α) (st : Nat → σ) (p : Nat → α → Bool) (a b : Option R)
  (h1 : ∀ i (h : i < L.length) rec_,B rec_ (st i) = bif p i L[i] then rec_ (st (i + 1)) else b) (h2 : ∀ rec_,B rec_ (st L.length) = a) {N : Nat} (hN : L.length < N) :
  iter B N (st 0) = bif allI p 0 L then a else b :=
 iter_row L st (fun i l => bif allI p i l then a else b) (fun i hi rec_ h => by rw [h1 i hi,h,allI_cons]; cases p i L[i] <;> rfl) (fun rec_ => h2 rec_) hN
theorem index_func {α C : Type} {d : α} {L : List α} (hL : L.length ≤ 1099511627775) (c : C) {f : α → Option Bool} (p : α → Bool) (hf : ∀ x ∈ L,f x = some (p x)) {N : Nat} (hN : Big N)
  {B : ((List α × C × Int × Int) → Option Int) → (List α × C × Int × Int) → Option Int}
  (hB : ∀ rec_ s0 s7 s8,B rec_ (s0,c,s7,s8) = (bif (decide (s8 < s7)) then (bif (decide (0 ≤ s8) && decide (s8 < s0.length)) then (f (s0.getD s8.toNat d)).bind fun r1 => (bif r1 then some s8 else rec_ (s0,c,s7,(wrap64 (s8 + (1:Int))))) else none) else some (-1))) :
  iter B N (L,c,(L.length : Int),(0:Int)) = some (findI p 0 L) := by
 have hN' : 1099511627776 ≤ N := hN
 refine iter_row L (fun i => (L,c,(L.length : Int),(i : Int))) (fun i l => some (findI p i l)) (fun i hi rec_ h => ?_) (fun rec_ => ?_) (by omega)
 ·rw [hB]
  simp only [lt_rows L hi,le_rows i,Bool.and_self,cond_true,getD_at L hi,w64_up (Nat.le_refl i) (by omega : i ≤ 140737488355328),h,hf _ (List.getElem_mem hi),Option.bind_some]
  rw [findI_cons]
  cases p L[i] <;> rfl
 ·rw [hB,dF (Int.lt_irrefl _)]; rfl
end Go.Proofs.Ytkmhopbmpeiofaa.Nx
namespace Go.Proofs.Ytkmhopbmpeiofaa.Nx
open Go Go.RowKit
section
variable {α : Type}
theorem gD0 (P S : List α) (x d : α) : (P ++ x :: S).getD P.length d = x := by simp [List.getD]
theorem gD1 (P S : List α) (x y d : α) : (P ++ x :: y :: S).getD (P.length + 1) d = y := by simp [List.getD]
theorem st0 (P S : List α) (x y : α) : (P ++ x :: S).set P.length y = P ++ y :: S := by
 rw [List.set_append_right _ _ (Nat.le_refl _),Nat.sub_self]; rfl
theorem st1 (P S : List α) (x y z : α) : (P ++ x :: y :: S).set (P.length + 1) z = P ++ x :: z :: S := by
 rw [List.set_append_right _ _ (by omega),show P.length + 1 - P.length = 1 by omega]; rfl
theorem gDm (P M S : List α) (x y d : α) {k : Nat} (hk : k = P.length + 1 + M.length) : (P ++ x :: (M ++ y :: S)).getD k d = y := by
 subst hk
 have := gD0 (P ++ x :: M) S y d
 rw [List.append_assoc,List.cons_append,List.length_append,List.length_cons] at this
 rw [show P.length + 1 + M.length = P.length + (M.length + 1) by omega]; exact this
theorem stm (P M S : List α) (x y z : α) {k : Nat} (hk : k = P.length + 1 + M.length) : (P ++ x :: (M ++ y :: S)).set k z = P ++ x :: (M ++ z :: S) := by
 subst hk
 have := st0 (P ++ x :: M) S y z
 rw [List.append_assoc,List.append_assoc,List.cons_append,List.cons_append,List.length_append,List.length_cons] at this
 rw [show P.length + 1 + M.length = P.length + (M.length + 1) by omega]; exact this
theorem wN {x : Int} {n : Nat} (h : x = (n : Int)) (hn : n ≤ 140737488355328) : wrap64 x = (n : Int) := by
 rw [w64 (by omega) (by omega)]; exact h
theorem inr {n k : Nat} (h : k < n) : (decide (0 ≤ (k : Int)) && decide ((k : Int) < (n : Int))) = true := by
 simp only [Bool.and_eq_true,decide_eq_true_eq]; omega
end
theorem beq_len {α : Type} {a b : List α} (h : b.length = a.length) : Nat.beq a.length b.length = true := by rw [Nat.beq_eq]; exact h.symm
section marks
variable {α : Type}
def mkL (mk : α → Int → α × Int) : List α → Int → List α × Int
 | [],k => ([],k)
 | x :: xs,k => ((mk x k).1 :: (mkL mk xs (mk x k).2).1,(mkL mk xs (mk x k).2).2)
theorem mkL_len (mk : α → Int → α × Int) : ∀ (L : List α) (k : Int),(mkL mk L k).1.length = L.length
 | [],_ => rfl
 | x :: xs,k => by unfold mkL; simp [mkL_len mk xs]
def Grow (p : α → Prop) (mk : α → Int → α × Int) (w : Nat) : Prop := ∀ x k,p x → k ≤ (mk x k).2 ∧ (mk x k).2 ≤ k + w
theorem mkL_grow {p : α → Prop} {mk : α → Int → α × Int} {w : Nat} (hg : Grow p mk w) : ∀ (L : List α) (k : Int),(∀ x ∈ L,p x) → k ≤ (mkL mk L k).2 ∧ (mkL mk L k).2 ≤ k + ((w * L.length : Nat) : Int)
 | [],k,_ => ⟨Int.le_refl _,by simp [mkL]⟩
 | x :: xs,k,h => by
  obtain ⟨h1,h2⟩ := hg x k (h x (by simp))
  obtain ⟨h3,h4⟩ := mkL_grow hg xs (mk x k).2 fun y hy => h y (by simp [hy])
  unfold mkL
  simp only [List.length_cons,Nat.mul_succ]
  generalize w * xs.length = m at *
  omega
variable {Ω : Type} {B : ((List α × Int × Int) → Option Ω) → (List α × Int × Int) → Option Ω}
theorem mark_rows {kx : List α × Int → Option Ω} {p : α → Prop} {mk : α → Int → α × Int} {w : Nat} (hg : Grow p mk w)
  (hs : ∀ rec_ pre x post (k : Int),p x → 0 ≤ k → k + (w : Int) ≤ 9223372036854775806 → pre.length + 1 ≤ 1099511627776 → B rec_ (pre ++ x :: post,k,(pre.length : Int)) = rec_ (pre ++ (mk x k).1 :: post,(mk x k).2,((pre.length + 1 : Nat) : Int)))
  (he : ∀ rec_ L k,B rec_ (L,k,(L.length : Int)) = kx (L,k)) :
  ∀ (R pre : List α) (k : Int) (N : Nat),R.length < N → (∀ x ∈ R,p x) → 0 ≤ k → k + ((w * R.length : Nat) : Int) ≤ 9223372036854775806 → pre.length + R.length ≤ 1099511627776 →
   iter B N (pre ++ R,k,(pre.length : Int)) = kx (pre ++ (mkL mk R k).1,(mkL mk R k).2) := by
 intro R
 induction R with
 | nil =>
  intro pre k N hN hp h0 hk hl
  obtain ⟨M,rfl⟩ : ∃ K,N = K + 1 := ⟨N - 1,by omega⟩
  show B _ _ = _
  have := he (iter B M) pre k
  rw [List.append_nil,this]; simp [mkL]
 | cons x R ih =>
  intro pre k N hN hp h0 hk hl
  obtain ⟨M,rfl⟩ : ∃ K,N = K + 1 := ⟨N - 1,by omega⟩
  simp only [List.length_cons,Nat.mul_succ] at hN hk hl
  obtain ⟨h1,h2⟩ := hg x k (hp x (by simp))
  show B (iter B M) _ = _
  generalize hm : w * R.length = m at hk
  rw [hs _ _ _ _ _ (hp x (by simp)) h0 (by omega) (by omega)]
  have := ih (pre ++ [(mk x k).1]) (mk x k).2 M (by omega) (fun y hy => hp y (by simp [hy])) (by omega) (by rw [hm]; omega) (by simp; omega)
  rw [List.length_append,List.append_assoc] at this
  refine Eq.trans this ?_
  simp [mkL]
theorem held_rows {kx : Int → Option Ω} {p : α → Prop} {mk : α → Int → α × Int} {w : Nat} (hg : Grow p mk w)
  (hs : ∀ rec_ pre x post (k : Int),p x → 0 ≤ k → k + (w : Int) ≤ 9223372036854775806 → pre.length + 1 ≤ 1099511627776 → B rec_ (pre ++ (mk x k).1 :: post,k,(pre.length : Int)) = rec_ (pre ++ (mk x k).1 :: post,(mk x k).2,((pre.length + 1 : Nat) : Int)))
  (he : ∀ rec_ L k,B rec_ (L,k,(L.length : Int)) = kx k) :
  ∀ (R pre : List α) (k : Int) (N : Nat),R.length < N → (∀ x ∈ R,p x) → 0 ≤ k → k + ((w * R.length : Nat) : Int) ≤ 9223372036854775806 → pre.length + R.length ≤ 1099511627776 →
   iter B N (pre ++ (mkL mk R k).1,k,(pre.length : Int)) = kx (mkL mk R k).2 := by
 intro R
 induction R with
 | nil =>
  intro pre k N hN hp h0 hk hl
  obtain ⟨M,rfl⟩ : ∃ K,N = K + 1 := ⟨N - 1,by omega⟩
  show B _ _ = _
  have := he (iter B M) pre k
  simp only [mkL,List.append_nil]; exact this
 | cons x R ih =>
  intro pre k N hN hp h0 hk hl
  obtain ⟨M,rfl⟩ : ∃ K,N = K + 1 := ⟨N - 1,by omega⟩
  simp only [List.length_cons,Nat.mul_succ] at hN hk hl
  obtain ⟨h1,h2⟩ := hg x k (hp x (by simp))
  show B (iter B M) _ = _
  generalize hm : w * R.length = m at hk
  unfold mkL
  rw [hs _ _ _ _ _ (hp x (by simp)) h0 (by omega) (by omega)]
  have := ih (pre ++ [(mk x k).1]) (mk x k).2 M (by omega) (fun y hy => hp y (by simp [hy])) (by omega) (by rw [hm]; omega) (by simp; omega)
  rw [List.length_append,List.append_assoc] at this
  exact this
theorem at_lt (pre post : List α) (y : α) : decide ((pre.length : Int) < ((pre ++ y :: post).length : Int)) = true := decide_eq_true (by simp only [List.length_append,List.length_cons]; omega)
theorem at_end (L : List α) : decide ((L.length : Int) < (L.length : Int)) = false := decide_eq_false (Int.lt_irrefl _)
theorem at_le (n : Nat) : decide (0 ≤ (n : Int)) = true := decide_eq_true (by omega)
end marks
theorem digits {B : ((Int × ByteArray) → Option ByteArray) → (Int × ByteArray) → Option ByteArray} {kx : ByteArray → Option ByteArray}
  (hB : ∀ rec_ s0 s3,B rec_ (s0,s3) = (bif (decide ((0:Int) < s0)) then (bif (decide ((txt [((wrap64 ((48:Int) + (s0.tmod (10:Int)))) % 256)]).size + s3.size ≤ 4611686018427387904)) then rec_ ((wrap64 (s0.tdiv (10:Int))),((txt [((wrap64 ((48:Int) + (s0.tmod (10:Int)))) % 256)]) ++ s3)) else none) else kx s3))
  (hk : ∀ s : ByteArray,s.size ≤ 1000 → ∃ r,kx s = some r) :
  ∀ (d : Nat) (k : Int) (s : ByteArray) (N : Nat),d < N → 0 ≤ k → k < ((10 ^ d : Nat) : Int) → k ≤ 9223372036854775807 → s.size + d ≤ 1000 → ∃ r,iter B N (k,s) = some r := by
 intro d
 induction d with
 | zero =>
  intro k s N hN h0 h1 h2 hs
  obtain ⟨M,rfl⟩ : ∃ K,N = K + 1 := ⟨N - 1,by omega⟩
  show ∃ r,B (iter B M) _ = _
  rw [hB,dF (by simp at h1; omega)]
  exact hk s (by omega)
 | succ d ih =>
  intro k s N hN h0 h1 h2 hs
  obtain ⟨M,rfl⟩ : ∃ K,N = K + 1 := ⟨N - 1,by omega⟩
  show ∃ r,B (iter B M) _ = _
  rw [hB]
  by_cases hk0 : 0 < k
  ·have hsz : ∀ x : Int,(txt [x]).size = 1 := fun x => rfl
   rw [dT hk0,cond_true,hsz,dT (by omega),cond_true]
   have e : k.tdiv 10 = k / 10 := Int.tdiv_eq_ediv_of_nonneg h0
   rw [e,w64 (by omega) (by omega)]
   refine ih _ _ M (by omega) (by omega) ?_ (by omega) ?_
   ·rw [Nat.pow_succ] at h1
    generalize 10 ^ d = q at h1 ⊢
    omega
   ·rw [ByteArray.size_append,hsz]; omega
  ·rw [dF hk0]
   exact hk s (by omega)
end Go.Proofs.Ytkmhopbmpeiofaa.Nx
