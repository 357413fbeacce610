/- What the evaluator keeps and lets go: sound, with no condition beyond those each lemma names. -/
import Derived.Test.YtkmhopbmpeiofaaNxi
set_option linter.unusedVariables false
set_option linter.unusedSimpArgs false
namespace Go.Proofs.Ytkmhopbmpeiofaa.Nx
open Go Go.RowKit
inductive Ab (hp : HP) : List AV → List AV → List Nat → Prop
 | nil : Ab hp [] [] []
 | im {x y : AV} {xs ys : List AV} {l : List Nat} : Im x y → x.bare1 = true → Ab hp xs ys l → Ab hp (x :: xs) (y :: ys) l
 | same {x : AV} {xs ys : List AV} {l : List Nat} : Ab hp xs ys l → Ab hp (x :: xs) (x :: ys) l
 | ref {m : Nat} {b : Blk} {xs ys : List AV} {l : List Nat} : hp[m]? = some (some b) → b.lo = 0 → Ab hp xs ys l → Ab hp (.ref m b.rows.length 0 b.rows.length :: xs) (.sl true b.sz b.rows :: ys) (m :: l)
theorem Ab.len {hp : HP} {xs ys : List AV} {l : List Nat} (h : Ab hp xs ys l) : ys.length = xs.length := by
 induction h with
 | nil => rfl
 | im _ _ _ ih => simp [ih]
 | same _ ih => simp [ih]
 | ref _ _ _ ih => simp [ih]
theorem Ab.append {hp : HP} {xs ys : List AV} {l : List Nat} (h : Ab hp xs ys l) {xs' ys' : List AV} {l' : List Nat} (k : Ab hp xs' ys' l') : Ab hp (xs ++ xs') (ys ++ ys') (l ++ l') := by
 induction h with
 | nil => exact k
 | im h1 h2 _ ih => exact .im h1 h2 ih
 | same _ ih => exact .same ih
 | ref h1 h2 _ ih => exact .ref h1 h2 ih
theorem Ab.refl (hp : HP) : ∀ xs,Ab hp xs xs []
 | [] => .nil
 | _ :: xs => .same (Ab.refl hp xs)
theorem Ab.live {hp : HP} {xs ys : List AV} {l : List Nat} (h : Ab hp xs ys l) : ∀ m ∈ l,∃ b,hp[m]? = some (some b) ∧ b.lo = 0 := by
 induction h with
 | nil => intro m hm; cases hm
 | im _ _ _ ih => exact ih
 | same _ ih => exact ih
 | ref h1 h2 _ ih =>
  intro x hx
  rcases List.mem_cons.1 hx with rfl | hx
  ·exact ⟨_,h1,h2⟩
  ·exact ih x hx
section
variable {C : Ctx} {s : AS} {a : Act} {w : World} {N : NT} {M : MT} {ℓ : Nat → List (Nat × Nat)}
def ow (ℓ : Nat → List (Nat × Nat)) (m : Nat) : List Nat := (ℓ m).map Prod.fst
theorem RepC.ab (hH : ∀ (i : Nat) (x : Option Blk),s.hp[i]? = some x → HB w N M i x (ℓ i)) {xs ys : List AV} {l : List Nat} (h : Ab s.hp xs ys l) :
  ∀ {b o : Nat} {K : List Nat},RepC w N M b o xs K → ∃ K' rest,RepC w N M b o ys K' ∧ (K ++ l.flatMap (ow ℓ)).Perm (K' ++ rest) := by
 induction h with
 | nil => intro b o K r; cases r; exact ⟨[],[],.nil _ _,.refl _⟩
 | im h1 h2 _ ih =>
  intro b o K r
  cases r with
  | cons hc hx ht =>
   have := hx.bare1 h2
   subst this
   obtain ⟨K',rest,r',p⟩ := ih ht
   exact ⟨K',rest,.cons (L1 := []) hc (h1 _ _ _ _ hx) r',p⟩
 | same _ ih =>
  intro b o K r
  cases r with
  | cons hc hx ht =>
   rename_i L1 L2
   obtain ⟨K',rest,r',p⟩ := ih ht
   refine ⟨L1 ++ K',rest,.cons hc hx r',?_⟩
   rw [List.append_assoc,List.append_assoc]
   exact p.append_left L1
 | ref h1 h2 _ ih =>
  rename_i m bm xs ys l _
  intro b o K r
  cases r with
  | cons hc hx ht =>
   obtain ⟨K',rest,r',p⟩ := ih ht
   obtain ⟨cm,Km,q1,q2,q3⟩ := hH m _ h1
   have how : ow ℓ m = (ownOf cm Km).map Prod.fst := by rw [ow,q3]
   cases hx with
   | ref mm hM hm =>
    rename_i ad cap
    rw [q1] at hM
    cases hM
    obtain ⟨_,h6⟩ := hm cm rfl
    obtain ⟨_,h8⟩ := h6 (by rw [q2.len])
    rw [List.flatMap_cons]
    rcases h8 with ⟨e1,rfl⟩ | ⟨hv,rfl,h9,h10⟩
    ·have hr : bm.rows = [] := List.eq_nil_of_length_eq_zero e1
     refine ⟨K',ow ℓ m ++ rest,.cons (L1 := []) hc ?_ r',?_⟩
     ·rw [hr]; exact .slO0 _ _
     ·rw [List.nil_append]
      refine (List.perm_append_comm_assoc _ _ _).trans ?_
      refine (p.append_left (ow ℓ m)).trans ?_
      exact List.perm_append_comm_assoc _ _ _
    ·refine ⟨(cm.b :: Km) ++ K',rest,.cons hc ?_ r',?_⟩
     ·have := Rep.slO (cap := cap) q2.rep q2.cl h9 (by rw [← q2.sz]; simpa using h10)
      simpa using this
     ·have : ow ℓ m = cm.b :: Km := by
       rw [how,ownOf,if_neg (by rw [hv]; simp)]
       simp only [List.map_cons,List.map_map]
       have : (Prod.fst ∘ fun b : Nat => (b,0)) = id := rfl
       rw [this,List.map_id]
      rw [this,List.nil_append,List.append_assoc]
      refine (List.perm_append_comm_assoc _ _ _).trans ?_
      exact p.append_left (cm.b :: Km)
def setAllH (hp : HP) : List Nat → HP
 | [] => hp
 | j :: l => setAllH (hp.set j none) l
theorem setAllH_len : ∀ (l : List Nat) (hp : HP),(setAllH hp l).length = hp.length
 | [],_ => rfl
 | j :: l,hp => by rw [setAllH,setAllH_len l]; simp
theorem setAllH_get : ∀ (l : List Nat) (hp : HP) (i : Nat),(setAllH hp l)[i]? = if i ∈ l then (if i < hp.length then some none else none) else hp[i]?
 | [],hp,i => by simp [setAllH]
 | j :: l,hp,i => by
  rw [setAllH,setAllH_get l,List.getElem?_set]
  by_cases h1 : i ∈ l
  ·simp [h1]
  ·by_cases h2 : i = j
   ·subst h2; simp [h1]
   ·have : ¬ j = i := fun e => h2 e.symm
    simp [h1,h2,this]
theorem ConcF.kill2 (h : ConcF C s a w N M ℓ) {l : List Nat} (hl : ∀ m ∈ l,m < s.hp.length) : ∃ M' ℓ',ConcF C { s with hp := setAllH s.hp l } a w N M' ℓ' ∧ (∀ i,∀ p ∈ ℓ' i,i ∉ l ∧ p ∈ ℓ i) ∧ ∀ i,i ∉ l → M' i = M i := by
 let M' : MT := fun i => if i ∈ l then some none else M i
 let ℓ' : Nat → List (Nat × Nat) := fun i => if i ∈ l then [] else ℓ i
 have hM : ∀ i,i ∉ l → M' i = M i := fun i hi => by simp [M',hi]
 have g : Gr w w N N M M' := ⟨fun _ c _ _ h => ⟨c,h,rfl⟩,fun _ _ _ => rfl,fun _ _ hn => hn,fun i x hx => by
  by_cases hi : i ∈ l
  ·exact ⟨none,by simp [M',hi],fun m' hm' => by cases hm'⟩
  ·exact ⟨x,by rw [hM i hi]; exact hx,fun m' hm' => ⟨m',hm',.inl rfl⟩⟩⟩
 have hsub : ∀ i,∀ p ∈ ℓ' i,p ∈ ℓ i := fun i p hp => by
  by_cases hi : i ∈ l
  ·simp [ℓ',hi] at hp
  ·simpa [ℓ',hi] using hp
 have hout : ∀ i,∀ p ∈ ℓ' i,i ∉ l ∧ p ∈ ℓ i := fun i p hp => ⟨fun hi => by simp [ℓ',hi] at hp,hsub i p hp⟩
 refine ⟨M',ℓ',⟨h.df,h.sl.gr g (fun _ hb => by cases hb),fun i x hx => ?_,fun i hi => ?_,fun i j hi hj hne p hp q hq => ?_,fun i hi p hp => ?_,h.nlt,h.nup,h.ndn,h.fr,fun k hk => ?_,fun k m m0 h1 h0 => ?_,fun k hk => ?_⟩,hout,hM⟩
 ·replace hx : (setAllH s.hp l)[i]? = some x := hx
  rw [setAllH_get] at hx
  by_cases hi : i ∈ l
  ·rw [if_pos hi,if_pos (hl i hi)] at hx
   cases hx
   exact ⟨by simp [M',hi],by simp [ℓ',hi]⟩
  ·rw [if_neg hi] at hx
   have := h.hp i x hx
   cases x with
   | none => exact ⟨by rw [hM i hi]; exact this.1,by simp [ℓ',hi,this.2]⟩
   | some x =>
    obtain ⟨m,L1,h1,h2,h3⟩ := this
    exact ⟨m,L1,by rw [hM i hi]; exact h1,h2.gr g (fun _ _ _ => rfl),by simp [ℓ',hi,h3]⟩
 ·rw [setAllH_len] at hi
  by_cases hi' : i ∈ l
  ·simp [ℓ',hi']
  ·simpa [ℓ',hi'] using h.nd i hi
 ·rw [setAllH_len] at hi hj
  exact h.dj i j hi hj hne p (hsub i p hp) q (hsub j q hq)
 ·rw [setAllH_len] at hi
  exact h.own i hi p (hsub i p hp)
 ·rw [setAllH_len] at hk
  rw [hM k (fun hm => by have := hl k hm; omega)]
  exact h.un k hk
 ·by_cases hi : k ∈ l
  ·simp only [M',hi,if_true] at h1; cases h1
  ·rw [hM k hi] at h1; exact h.mv k m m0 h1 h0
 ·rw [setAllH_len] at hk
  exact h.mz k hk
theorem ConcF.kill' (h : ConcF C s a w N M ℓ) {l : List Nat} (hl : ∀ m ∈ l,m < s.hp.length) : ∃ M' ℓ',ConcF C { s with hp := setAllH s.hp l } a w N M' ℓ' ∧ ∀ i,∀ p ∈ ℓ' i,i ∉ l ∧ p ∈ ℓ i := by
 obtain ⟨M',ℓ',h1,h2,_⟩ := h.kill2 hl
 exact ⟨M',ℓ',h1,h2⟩
theorem ConcF.kill (h : ConcF C s a w N M ℓ) {l : List Nat} (hl : ∀ m ∈ l,m < s.hp.length) : Conc C { s with hp := setAllH s.hp l } a w := by
 obtain ⟨_,_,h',_⟩ := h.kill' hl
 exact h'.c
theorem ConcF.absorb (h : ConcF C s a w N M ℓ) {j : Nat} {b : Blk} (hj : s.hp[j]? = some (some b)) {rows' : List AV} {l : List Nat} (hn : (j :: l).Nodup) (hlen : rows'.length = b.rows.length)
  (hcl : (∀ y ∈ b.rows,y.cells.length = b.sz) → ∀ y ∈ rows',y.cells.length = b.sz) (hab : Ab s.hp (b.rows.flatMap AV.cells) (rows'.flatMap AV.cells) l) : Conc C { s with hp := setAllH (s.hp.set j (some { b with rows := rows' })) l } a w := by
 have hjl : j < s.hp.length := (List.getElem?_eq_some_iff.1 hj).1
 have hll : ∀ m ∈ l,m < s.hp.length := fun m hm => by
  obtain ⟨bm,e,_⟩ := hab.live m hm
  exact (List.getElem?_eq_some_iff.1 e).1
 have hjn : j ∉ l := (List.nodup_cons.1 hn).1
 obtain ⟨mj,K,q1,q2,q3⟩ := h.hp j _ hj
 obtain ⟨K',rest,r',p⟩ := RepC.ab h.hp hab q2.rep
 let M' : MT := fun i => if i ∈ l then some none else M i
 let ℓ' : Nat → List (Nat × Nat) := fun i => if i = j then ownOf mj K' else if i ∈ l then [] else ℓ i
 have hM : ∀ i,i ∉ l → M' i = M i := fun i hi => by simp [M',hi]
 have g : Gr w w N N M M' := ⟨fun _ c _ _ h => ⟨c,h,rfl⟩,fun _ _ _ => rfl,fun _ _ hn => hn,fun i x hx => by
  by_cases hi : i ∈ l
  ·exact ⟨none,by simp [M',hi],fun m' hm' => by cases hm'⟩
  ·exact ⟨x,by rw [hM i hi]; exact hx,fun m' hm' => ⟨m',hm',.inl rfl⟩⟩⟩
 have hfrom : ∀ x ∈ K',x ∈ K ∨ ∃ m ∈ l,x ∈ ow ℓ m := fun x hx => by
  have : x ∈ K ++ l.flatMap (ow ℓ) := p.mem_iff.2 (by simp [hx])
  rcases List.mem_append.1 this with h | h
  ·exact .inl h
  ·obtain ⟨m,hm,hx⟩ := List.mem_flatMap.1 h
   exact .inr ⟨m,hm,hx⟩
 have hK : mj.virt = false → ∀ x ∈ K,(x,0) ∈ ℓ j := fun hv x hx => by rw [q3,ownOf,if_neg (by rw [hv]; simp)]; simp [hx]
 have hB : mj.virt = false → (mj.b,mj.fr) ∈ ℓ j := fun hv => by rw [q3,ownOf,if_neg (by rw [hv]; simp)]; simp
 have hzero : ∀ m ∈ l,∀ x ∈ ow ℓ m,(x,0) ∈ ℓ m := fun m hm x hx => by
  obtain ⟨bm,e,hlo⟩ := hab.live m hm
  obtain ⟨cm,Km,k1,k2,k3⟩ := h.hp m _ e
  rw [ow] at hx
  rw [k3] at hx ⊢
  unfold ownOf at hx ⊢
  split at hx
  ·simp at hx
  ·rename_i hv
   rw [if_neg hv]
   have := k2.f0 hlo
   simp only [List.map_cons,List.map_map,List.mem_cons,List.mem_map] at hx ⊢
   rcases hx with rfl | ⟨y,hy,rfl⟩
   ·exact .inl (by rw [this])
   ·exact .inr ⟨y,hy,rfl⟩
 have hinj : ∀ i,i < s.hp.length → ∀ p ∈ ℓ' i,∃ q,q ∈ ℓ i ∧ q.1 = p.1 ∨ (i = j ∧ ∃ m ∈ l,q ∈ ℓ m ∧ q.1 = p.1) := fun i hi pr hpr => by
  by_cases e : i = j
  ·subst e
   simp only [ℓ',if_true] at hpr
   unfold ownOf at hpr
   split at hpr
   ·cases hpr
   ·rename_i hv
    have hv : mj.virt = false := by simpa using hv
    simp only [List.mem_cons,List.mem_map] at hpr
    rcases hpr with rfl | ⟨x,hx,rfl⟩
    ·exact ⟨_,.inl ⟨hB hv,rfl⟩⟩
    ·rcases hfrom x hx with h1 | ⟨m,hm,h1⟩
     ·exact ⟨_,.inl ⟨hK hv x h1,rfl⟩⟩
     ·exact ⟨_,.inr ⟨rfl,m,hm,hzero m hm x h1,rfl⟩⟩
  ·by_cases hi' : i ∈ l
   ·simp [ℓ',e,hi'] at hpr
   ·simp only [ℓ',e,hi',if_false] at hpr
    exact ⟨pr,.inl ⟨hpr,rfl⟩⟩
 have hnodup : ((ownOf mj K').map Prod.fst).Nodup := by
  unfold ownOf
  split
  ·simp
  ·rename_i hv
   have hv : mj.virt = false := by simpa using hv
   have hnd := h.nd j hjl
   rw [q3,ownOf,if_neg (by rw [hv]; simp)] at hnd
   simp only [List.map_cons,List.map_map] at hnd ⊢
   have eid : ∀ X : List Nat,X.map (Prod.fst ∘ fun b : Nat => (b,0)) = X := fun X => by
    have : (Prod.fst ∘ fun b : Nat => (b,0)) = id := rfl
    rw [this,List.map_id]
   rw [eid] at hnd ⊢
   obtain ⟨n1,n2⟩ := List.nodup_cons.1 hnd
   have hF : (l.flatMap (ow ℓ)).Nodup := by
    refine List.pairwise_flatMap.2 ⟨fun m hm => h.nd m (hll m hm),?_⟩
    refine List.Pairwise.imp_of_mem ?_ (List.nodup_cons.1 hn).2
    intro m m' hm hm' hne x hx y hy e
    obtain ⟨px,h1,rfl⟩ := List.mem_map.1 hx
    obtain ⟨py,h2,e2⟩ := List.mem_map.1 hy
    exact h.dj m m' (hll m hm) (hll m' hm') hne px h1 py h2 (e.trans e2.symm)
   have hall : (K ++ l.flatMap (ow ℓ)).Nodup := by
    refine List.nodup_append.2 ⟨n2,hF,fun x hx y hy e => ?_⟩
    obtain ⟨m,hm,hy⟩ := List.mem_flatMap.1 hy
    obtain ⟨py,h2,rfl⟩ := List.mem_map.1 hy
    exact h.dj j m hjl (hll m hm) (fun e => hjn (e ▸ hm)) (x,0) (hK hv x hx) py h2 e
   have hK'n : K'.Nodup := (List.nodup_append.1 ((p.nodup_iff).1 hall)).1
   refine List.nodup_cons.2 ⟨fun hx => ?_,hK'n⟩
   rcases hfrom _ hx with h1 | ⟨m,hm,h1⟩
   ·exact n1 h1
   ·obtain ⟨py,h2,e⟩ := List.mem_map.1 h1
    exact h.dj j m hjl (hll m hm) (fun e => hjn (e ▸ hm)) (mj.b,mj.fr) (hB hv) py h2 e.symm
 have hlen' : (setAllH (s.hp.set j (some { b with rows := rows' })) l).length = s.hp.length := by rw [setAllH_len]; simp
 refine ConcF.c (N := N) (M := M') (ℓ := ℓ') ⟨h.df,h.sl.gr g (fun _ hb => by cases hb),fun i x hx => ?_,fun i hi => ?_,fun i i' hi hi' hne pr hpr q hq => ?_,fun i hi pr hpr => ?_,h.nlt,h.nup,h.ndn,h.fr,fun k hk => ?_,fun k m m0 h1 h0 => ?_,fun k hk => ?_⟩
 ·replace hx : (setAllH (s.hp.set j (some { b with rows := rows' })) l)[i]? = some x := hx
  rw [setAllH_get] at hx
  by_cases hi : i ∈ l
  ·have hij : i ≠ j := fun e => hjn (e ▸ hi)
   rw [if_pos hi,if_pos (by simpa using hll i hi)] at hx
   cases hx
   exact ⟨by simp [M',hi],by simp [ℓ',hij,hi]⟩
  ·rw [if_neg hi,List.getElem?_set] at hx
   by_cases hij : i = j
   ·subst hij
    rw [if_pos rfl,if_pos hjl] at hx
    cases hx
    refine ⟨mj,K',by rw [hM i hi]; exact q1,?_,by simp [ℓ']⟩
    refine ⟨by rw [q2.len,hlen],q2.sz,q2.fr,hcl q2.cl,r'.gr g (fun _ _ => rfl) (fun _ _ _ => rfl),fun e => ?_,q2.rm,by rw [hlen]; exact q2.lo,q2.fz,q2.f0⟩
    exact List.eq_nil_of_length_eq_zero (by rw [hlen,q2.vt e]; rfl)
   ·rw [if_neg (fun e => hij e.symm)] at hx
    have := h.hp i x hx
    cases x with
    | none => exact ⟨by rw [hM i hi]; exact this.1,by simp [ℓ',hij,hi,this.2]⟩
    | some x =>
     obtain ⟨m,L1,h1,h2,h3⟩ := this
     exact ⟨m,L1,by rw [hM i hi]; exact h1,h2.gr g (fun _ _ _ => rfl),by simp [ℓ',hij,hi,h3]⟩
 ·rw [hlen'] at hi
  by_cases hij : i = j
  ·subst hij; simpa [ℓ'] using hnodup
  ·by_cases hi' : i ∈ l
   ·simp [ℓ',hij,hi']
   ·simpa [ℓ',hij,hi'] using h.nd i hi
 ·rw [hlen'] at hi hi'
  obtain ⟨u,hu⟩ := hinj i hi pr hpr
  obtain ⟨v,hv⟩ := hinj i' hi' q hq
  have hq' : ∀ m,m ∈ l → i' ≠ m := fun m hm e => by
   subst e
   have hij : i' ≠ j := fun e => hjn (e ▸ hm)
   simp [ℓ',hij,hm] at hq
  have hp' : ∀ m,m ∈ l → i ≠ m := fun m hm e => by
   subst e
   have hij : i ≠ j := fun e => hjn (e ▸ hm)
   simp [ℓ',hij,hm] at hpr
  intro e
  rcases hu with ⟨h1,h2⟩ | ⟨rfl,m,hm,h1,h2⟩ <;> rcases hv with ⟨k1,k2⟩ | ⟨rfl,m',hm',k1,k2⟩
  ·exact h.dj i i' hi hi' hne u h1 v k1 (by rw [h2,k2,e])
  ·exact h.dj i m' hi (hll m' hm') (hp' m' hm') u h1 v k1 (by rw [h2,k2,e])
  ·exact h.dj m i' (hll m hm) hi' (fun e => hq' m hm e.symm) u h1 v k1 (by rw [h2,k2,e])
  ·exact hne rfl
 ·rw [hlen'] at hi
  by_cases hij : i = j
  ·subst hij
   simp only [ℓ',if_true] at hpr
   unfold ownOf at hpr
   split at hpr
   ·cases hpr
   ·rename_i hv
    have hv : mj.virt = false := by simpa using hv
    simp only [List.mem_cons,List.mem_map] at hpr
    rcases hpr with rfl | ⟨x,hx,rfl⟩
    ·exact h.own i hi _ (hB hv)
    ·rcases hfrom x hx with h1 | ⟨m,hm,h1⟩
     ·exact h.own i hi _ (hK hv x h1)
     ·exact h.own m (hll m hm) _ (hzero m hm x h1)
  ·by_cases hi' : i ∈ l
   ·simp [ℓ',hij,hi'] at hpr
   ·simp only [ℓ',hij,hi',if_false] at hpr
    exact h.own i hi pr hpr
 ·rw [hlen'] at hk
  rw [hM k (fun hm => by have := hll k hm; omega)]
  exact h.un k hk
 ·by_cases hi : k ∈ l
  ·simp only [M',hi,if_true] at h1; cases h1
  ·rw [hM k hi] at h1; exact h.mv k m m0 h1 h0
 ·rw [hlen'] at hk
  exact h.mz k hk
end
end Go.Proofs.Ytkmhopbmpeiofaa.Nx
namespace Go.Proofs.Ytkmhopbmpeiofaa.Nx
open Go Go.RowKit
def RI (o : Bool) (T : Ty) (cs : List AV) (y : Den T) : Prop := All2 Im cs (cls o T y) ∧ ∀ c ∈ cs,c.bare1 = true
theorem RI.self {o : Bool} {T : Ty} (h : (!o || T.flat) = true) (y : Den T) : RI o T (cls o T y) y := by
 refine ⟨?_,?_⟩
 ·generalize cls o T y = l
  induction l with
  | nil => exact .nil
  | cons x l ih => exact .cons (.refl _) ih
 ·rw [cls_o h]; exact cls_bare T y
theorem RI.o {o : Bool} {T : Ty} {cs : List AV} {y : Den T} (h : RI false T cs y) (ho : (!o || T.flat) = true) : RI o T cs y := by
 unfold RI at *
 rw [cls_o ho]; exact h
theorem All2.split {α β : Type} {R : α → β → Prop} : ∀ {a b : List α} {l : List β},All2 R (a ++ b) l → ∃ c d,l = c ++ d ∧ All2 R a c ∧ All2 R b d
 | [],b,l,h => ⟨[],l,rfl,.nil,h⟩
 | x :: a,b,_,.cons h1 h2 => by
  obtain ⟨c,d,rfl,h3,h4⟩ := All2.split h2
  exact ⟨_ :: c,d,rfl,.cons h1 h3,h4⟩
theorem im_nil_sl (o : Bool) (sz : Nat) : Im (.val (.slice none 0 0)) (.sl o sz []) := fun w N M v r => by
 cases r
 cases o with
 | true => exact .slO0 _ _
 | false => exact .slI0 _ _ _
theorem arL_spec (hp : THP) {k : IntKind} : ∀ (cs : List TV) (l : List Int),arL k cs = some l → cs.map (av hp) = l.map (fun x => AV.val (.int k x)) ∧ l.length = cs.length := by
 intro cs
 induction cs with
 | nil => intro l h; cases h; exact ⟨rfl,rfl⟩
 | cons c cs ih =>
  intro l h
  cases c with
  | v A x =>
   simp only [arL] at h
   split at h
   ·rename_i y hy
    split at h
    ·rename_i l2 h2
     cases h
     obtain ⟨rfl,hz⟩ := cst_some hy
     cases hz
     obtain ⟨e1,e2⟩ := ih l2 h2
     refine ⟨?_,by simp [e2]⟩
     simp only [List.map_cons,e1]; rfl
    ·cases h
   ·cases h
  | _ => cases h
theorem arL_c1 (hp : THP) {n : Nat} {k : IntKind} {cs : List TV} {l : List Int} (h : arOf n k cs = some l) : cs.all (TV.c1 hp) = true := by
 unfold arOf at h
 cases hn : Nat.beq cs.length n with
 | false => rw [hn] at h; cases h
 | true =>
  rw [hn,cond_true] at h
  clear hn
  induction cs generalizing l with
  | nil => rfl
  | cons c cs ih =>
   cases c with
   | v A x =>
    simp only [arL] at h
    split at h
    ·rename_i y hy
     split at h
     ·rename_i l2 h2
      obtain ⟨rfl,_⟩ := cst_some hy
      rw [List.all_cons,ih h2]; rfl
     ·cases h
    ·cases h
   | _ => cases h
theorem arC_all {k : IntKind} (l : List Int) : arC l.length k l = l.map (fun x => AV.val (.int k x)) := by
 unfold arC
 refine List.ext_getElem (by simp) fun i h1 h2 => ?_
 simp only [List.length_map,List.length_range] at h1
 simp [List.getD_eq_getElem?_getD,h1]
theorem arOf_cls (hp : THP) {n : Nat} {k : IntKind} {cs : List TV} {l : List Int} (h : arOf n k cs = some l) : cs.map (av hp) = cls false (.ar n k) l ∧ cs.length = n := by
 unfold arOf at h
 cases hn : Nat.beq cs.length n with
 | false => rw [hn] at h; cases h
 | true =>
  rw [hn,cond_true] at h
  obtain ⟨e1,e2⟩ := arL_spec hp _ _ h
  simp only [Nat.beq_eq] at hn
  subst hn
  refine ⟨?_,rfl⟩
  show _ = arC cs.length k l
  rw [e1,← e2,arC_all]
theorem asCls_spec (hp : THP) : ∀ (T : Ty) (cs : List TV) (y : Den T) (r : List TV),asCls T cs = some (y,r) → ∃ c1,cs = c1 ++ r ∧ RI false T (c1.map (av hp)) y := by
 intro T
 induction T with
 | i k =>
  intro cs y r h
  cases cs with
  | nil => cases h
  | cons c cs =>
   simp only [asCls] at h
   split at h
   ·rename_i A x
    split at h
    ·rename_i z hz
     cases h
     obtain ⟨rfl,hz⟩ := cst_some hz
     cases hz
     exact ⟨[_],rfl,.cons (.refl _) .nil,by simp [av,enc,cls,mkr,Ty.ag,AV.bare1]⟩
    ·cases h
   ·cases h
 | bl =>
  intro cs y r h
  cases cs with
  | nil => cases h
  | cons c cs =>
   simp only [asCls] at h
   split at h
   ·rename_i A x
    split at h
    ·rename_i z hz
     cases h
     obtain ⟨rfl,hz⟩ := cst_some hz
     cases hz
     exact ⟨[_],rfl,.cons (.refl _) .nil,by simp [av,enc,cls,mkr,Ty.ag,AV.bare1]⟩
    ·cases h
   ·cases h
 | tx =>
  intro cs y r h
  cases cs with
  | nil => cases h
  | cons c cs =>
   simp only [asCls] at h
   split at h
   ·rename_i A x
    split at h
    ·rename_i z hz
     cases h
     obtain ⟨rfl,hz⟩ := cst_some hz
     cases hz
     exact ⟨[_],rfl,.cons (.refl _) .nil,by simp [av,enc,cls,mkr,Ty.ag,AV.bare1]⟩
    ·cases h
   ·cases h
 | sv t _ =>
  intro cs y r h
  cases cs with
  | nil => cases h
  | cons c cs =>
   simp only [asCls] at h
   split at h
   ·rename_i A x
    split at h
    ·rename_i z hz
     cases h
     obtain ⟨rfl,hz⟩ := cst_some hz
     cases hz
     exact ⟨[_],rfl,.cons (.refl _) .nil,by simp [av,enc,cls,mkr,Ty.ag,AV.bare1]⟩
    ·cases h
   ·cases h
    exact ⟨[_],rfl,.cons (im_nil_sl false t.sz) .nil,by simp [av,AV.bare1]⟩
   ·cases h
 | sl t _ =>
  intro cs y r h
  cases cs with
  | nil => cases h
  | cons c cs =>
   simp only [asCls] at h
   split at h
   ·rename_i A x
    split at h
    ·rename_i z hz
     cases h
     obtain ⟨rfl,hz⟩ := cst_some hz
     cases hz
     exact ⟨[_],rfl,.cons (.refl _) .nil,by simp [av,enc,cls,mkr,Ty.ag,AV.bare1]⟩
    ·cases h
   ·cases h
    exact ⟨[_],rfl,.cons (im_nil_sl false t.sz) .nil,by simp [av,AV.bare1]⟩
   ·cases h
 | pr a b iha ihb =>
  intro cs y r h
  simp only [asCls] at h
  split at h
  ·rename_i x cs1 h1
   split at h
   ·rename_i z cs2 h2
    cases h
    obtain ⟨c1,rfl,k1,k2⟩ := iha _ _ _ h1
    obtain ⟨c2,rfl,k3,k4⟩ := ihb _ _ _ h2
    refine ⟨c1 ++ c2,by simp,?_,?_⟩
    ·rw [List.map_append]; exact All2.append k1 k3
    ·intro c hc
     rw [List.map_append] at hc
     rcases List.mem_append.1 hc with h | h
     ·exact k2 c h
     ·exact k4 c h
   ·cases h
  ·cases h
 | st t ih =>
  intro cs y r h
  exact ih cs y r h
 | ar n k =>
  intro cs y r h
  cases cs with
  | nil => cases h
  | cons c cs => cases h
theorem asDen_spec (hp : THP) {T : Ty} {x : TV} {y : Den T} (h : asDen T x = some y) : RI false T (av hp x).cells y ∧ Im (av hp x) (enc false T y) := by
 unfold asDen at h
 split at h
 ·rename_i t cs
  split at h
  ·rename_i z hz
   cases h
   obtain ⟨c1,e,k1,k2⟩ := asCls_spec hp t cs _ [] hz
   rw [List.append_nil] at e
   subst e
   simp only [av,avL_map]
   exact ⟨⟨k1,k2⟩,Im.agg k1⟩
  ·cases h
 ·rename_i n k cs
  have e := (arOf_cls hp h).1
  have e2 : av hp (.ag cs) = enc false (.ar n k) y := by
   simp only [av,avL_map,e]; rfl
  rw [e2,enc_cells]
  exact ⟨RI.self rfl _,.refl _⟩
 ·rename_i t A z
  have e1 := cstU_enc h
  have e : enc false (.sl t) y = enc false (.sv t) y := rfl
  simp only [av]
  rw [e1,e,enc_cells]
  exact ⟨RI.self rfl _,.refl _⟩
 ·have e1 := cstU_enc h
  have e2 := (cstU_cls h).1
  simp only [av]
  rw [enc_cells,e1,e2]
  exact ⟨RI.self rfl _,.refl _⟩
 ·cases h
  exact ⟨⟨.cons (im_nil_sl false _) .nil,by simp [av,AV.cells,AV.bare1]⟩,im_nil_sl false _⟩
 ·cases h
  exact ⟨⟨.cons (im_nil_sl false _) .nil,by simp [av,AV.cells,AV.bare1]⟩,im_nil_sl false _⟩
 ·cases h
theorem asOwnC_spec (hp : THP) : ∀ (T : Ty) (cs : List TV) (y : Den T) (l : List Nat) (r : List TV),asOwnC hp T cs = some (y,l,r) → (∀ c ∈ cs,c.c1 hp = true) → ∃ c1,cs = c1 ++ r ∧ Ab (toHP hp) (c1.map (av hp)) (cls true T y) l := by
 intro T
 induction T with
 | i k =>
  intro cs y l r h _
  cases cs with
  | nil => cases h
  | cons c cs =>
   simp only [asOwnC] at h
   split at h
   ·rename_i A x
    split at h
    ·rename_i z hz
     cases h
     obtain ⟨rfl,hz⟩ := cst_some hz
     cases hz
     exact ⟨[_],rfl,.same .nil⟩
    ·cases h
   ·cases h
 | bl =>
  intro cs y l r h _
  cases cs with
  | nil => cases h
  | cons c cs =>
   simp only [asOwnC] at h
   split at h
   ·rename_i A x
    split at h
    ·rename_i z hz
     cases h
     obtain ⟨rfl,hz⟩ := cst_some hz
     cases hz
     exact ⟨[_],rfl,.same .nil⟩
    ·cases h
   ·cases h
 | tx =>
  intro cs y l r h _
  cases cs with
  | nil => cases h
  | cons c cs =>
   simp only [asOwnC] at h
   split at h
   ·rename_i A x
    split at h
    ·rename_i z hz
     cases h
     obtain ⟨rfl,hz⟩ := cst_some hz
     cases hz
     exact ⟨[_],rfl,.same .nil⟩
    ·cases h
   ·cases h
 | sv t _ =>
  intro cs y l r h _
  cases cs with
  | nil => cases h
  | cons c cs =>
   simp only [asOwnC] at h
   split at h
   ·rename_i A x
    split at h
    ·rename_i z hz
     cases h
     obtain ⟨rfl,hz⟩ := cst_some hz
     cases hz
     exact ⟨[_],rfl,.same .nil⟩
    ·cases h
   ·cases h
    exact ⟨[.nil],rfl,.im (im_nil_sl false t.sz) rfl .nil⟩
   ·cases h
 | sl t _ =>
  intro cs y l r h _
  cases cs with
  | nil => cases h
  | cons c cs =>
   simp only [asOwnC] at h
   split at h
   ·rename_i j _
    split at h
    ·rename_i A o Lx e
     cases ho : (o || A.flat) with
     | false => rw [ho] at h; cases h
     | true =>
      rw [ho,cond_true] at h
      split at h
      ·rename_i z hz
       cases h
       obtain ⟨e1,hz⟩ := cst_some hz
       cases e1
       cases hz
       refine ⟨[.own j],rfl,?_⟩
       have henc : ∀ Lx : List (Den t),Lx.map (enc o t) = Lx.map fun y => mkr t.ag (cls true t y) := fun Lx => by
        refine List.map_congr_left fun y _ => ?_
        unfold enc
        cases o with
        | true => rfl
        | false => rw [cls_flat (by simpa using ho)]
       have := Ab.ref (hp := toHP hp) (m := j) (by rw [toHP_get,e]; rfl) rfl (xs := []) (ys := []) (l := []) .nil
       simp only [tb,List.length_map] at this
       simp only [List.map_cons,List.map_nil,av,hpk,e,TB.rlen,cls]
       rw [← henc]
       exact this
      ·cases h
    ·cases h
   ·cases h
    exact ⟨[.nil],rfl,.im (im_nil_sl true t.sz) rfl .nil⟩
   ·cases h
 | pr a b iha ihb =>
  intro cs y l r h hc
  simp only [asOwnC] at h
  split at h
  ·rename_i x l1 cs1 h1
   split at h
   ·rename_i z l2 cs2 h2
    cases h
    obtain ⟨c1,rfl,k1⟩ := iha _ _ _ _ h1 hc
    obtain ⟨c2,rfl,k2⟩ := ihb _ _ _ _ h2 fun c hc' => hc c (by simp [hc'])
    exact ⟨c1 ++ c2,by simp,by rw [List.map_append]; exact k1.append k2⟩
   ·cases h
  ·cases h
 | ar n k =>
  intro cs y l r h _
  cases cs with
  | nil => cases h
  | cons c cs => cases h
 | st t ih =>
  intro cs y l r h hc
  exact ih cs y l r h hc
theorem zeroOk_spec : ∀ (T : Ty) (z r : List AV),zeroOk T z = some r → ∃ z1,z = z1 ++ r ∧ RI true T z1 (dft T) ∧ ∀ c ∈ z1,∃ v,c = .val v := by
 intro T
 induction T with
 | i k =>
  intro z r h
  simp only [zeroOk] at h
  split at h
  ·rename_i k' m r'
   by_cases hk : k = k' ∧ m = 0
   ·obtain ⟨rfl,rfl⟩ := hk
    simp only [decide_true,Bool.and_self,cond_true,Option.some.injEq] at h
    subst h
    exact ⟨[_],rfl,⟨.cons (.refl _) .nil,by simp [AV.bare1]⟩,by simp⟩
   ·have : (decide (k = k') && decide (m = 0)) = false := by simpa using hk
    rw [this] at h; cases h
  ·cases h
 | bl =>
  intro z r h
  simp only [zeroOk] at h
  split at h
  ·rename_i b r'
   cases b with
   | true => cases h
   | false =>
    simp only [cond_false,Option.some.injEq] at h
    subst h
    exact ⟨[_],rfl,⟨.cons (.refl _) .nil,by simp [AV.bare1]⟩,by simp⟩
  ·cases h
 | tx =>
  intro z r h
  simp only [zeroOk] at h
  split at h
  ·rename_i s r'
   by_cases hs : s = ByteArray.empty
   ·subst hs
    simp only [decide_true,cond_true,Option.some.injEq] at h
    subst h
    exact ⟨[_],rfl,⟨.cons (.refl _) .nil,by simp [AV.bare1]⟩,by simp⟩
   ·have : decide (s = ByteArray.empty) = false := by simpa using hs
    rw [this] at h; cases h
  ·cases h
 | sv t _ =>
  intro z r h
  simp only [zeroOk] at h
  split at h
  ·cases h
   exact ⟨[_],rfl,⟨.cons (im_nil_sl false t.sz) .nil,by simp [AV.bare1]⟩,by simp⟩
  ·cases h
 | sl t _ =>
  intro z r h
  simp only [zeroOk] at h
  split at h
  ·cases h
   exact ⟨[_],rfl,⟨.cons (im_nil_sl true t.sz) .nil,by simp [AV.bare1]⟩,by simp⟩
  ·cases h
 | pr a b iha ihb =>
  intro z r h
  simp only [zeroOk] at h
  split at h
  ·rename_i r1 h1
   obtain ⟨z1,rfl,⟨k1,k2⟩,k3⟩ := iha _ _ h1
   obtain ⟨z2,rfl,⟨k4,k5⟩,k6⟩ := ihb _ _ h
   refine ⟨z1 ++ z2,by simp,⟨All2.append k1 k4,fun c hc => ?_⟩,fun c hc => ?_⟩
   ·rcases List.mem_append.1 hc with h | h
    ·exact k2 c h
    ·exact k5 c h
   ·rcases List.mem_append.1 hc with h | h
    ·exact k3 c h
    ·exact k6 c h
  ·cases h
 | st t ih => intro z r h; exact ih z r h
 | ar n k => intro z r h; cases h
theorem All2.len {α β : Type} {R : α → β → Prop} {a : List α} {b : List β} (h : All2 R a b) : b.length = a.length := h.length_eq.symm
theorem zOk_spec {T : Ty} {z : List AV} (h : zOk T z = true) : RI true T (zrow T.ag z).cells (dft T) ∧ (zrow T.ag z).cells.length = T.sz := by
 unfold zOk at h
 split at h
 ·rename_i e
  obtain ⟨z1,e1,k1,k2⟩ := zeroOk_spec T z [] e
  rw [List.append_nil] at e1
  subst e1
  have hlen : z.length = T.sz := by rw [← k1.1.len,cls_len]
  have hc : (zrow T.ag z).cells = z := by
   unfold zrow
   cases hag : T.ag with
   | true => rfl
   | false =>
    have h1 : z.length = 1 := by
     rw [hlen]
     cases T <;> first | rfl | cases hag
    match z,h1 with
    | [c],_ =>
     obtain ⟨v,rfl⟩ := k2 c (by simp)
     rfl
  rw [hc]
  exact ⟨k1,hlen⟩
 ·cases h
def RR (o : Bool) (T : Ty) (r : AV) (y : Den T) : Prop := RI o T r.cells y
theorem rowsLe {o : Bool} {T : Ty} {rows : List AV} {L : List (Den T)} (h : All2 (RR o T) rows L) {lo fz : Nat} : RowLe ⟨T.sz,lo,rows,fz⟩ ⟨T.sz,lo,L.map (enc o T),fz⟩ := by
 refine RowLe.of rfl rfl rfl (by rw [List.length_map]; exact h.len) ?_ ?_ ?_
 ·intro c hc
  obtain ⟨r,hr,hc⟩ := List.mem_flatMap.1 hc
  obtain ⟨y,hy⟩ := h.mem_left hr
  exact hy.2 c hc
 ·intro _ y hy
  obtain ⟨x,_,rfl⟩ := List.mem_map.1 hy
  rw [enc_cells,cls_len]
 ·show All2 Im (rows.flatMap AV.cells) ((L.map (enc o T)).flatMap AV.cells)
  induction h with
  | nil => exact .nil
  | cons h1 _ ih =>
   simp only [List.flatMap_cons,List.map_cons,enc_cells]
   exact All2.append h1.1 ih
theorem All2.set {α β : Type} {R : α → β → Prop} {a : List α} {b : List β} (h : All2 R a b) {x : α} {y : β} (hx : R x y) : ∀ i,All2 R (a.set i x) (b.set i y) := by
 induction h with
 | nil => intro i; exact .nil
 | cons h1 h2 ih =>
  intro i
  cases i with
  | zero => exact .cons hx h2
  | succ i => exact .cons h1 (ih i)
theorem All2.replicate {α β : Type} {R : α → β → Prop} {x : α} {y : β} (h : R x y) : ∀ n,All2 R (List.replicate n x) (List.replicate n y)
 | 0 => .nil
 | n + 1 => .cons h (All2.replicate h n)
theorem All2.maps {α β γ : Type} {R : β → γ → Prop} {f : α → β} {g : α → γ} (h : ∀ x,R (f x) (g x)) : ∀ l : List α,All2 R (l.map f) (l.map g)
 | [] => .nil
 | x :: l => .cons (h x) (All2.maps h l)
theorem encs_RR {o : Bool} {T : Ty} (h : (!o || T.flat) = true) (L : List (Den T)) : All2 (RR o T) (L.map (enc o T)) L := by
 have := All2.maps (R := RR o T) (f := enc o T) (g := id) (fun x => by unfold RR; rw [enc_cells]; exact RI.self h x) L
 rw [List.map_id] at this; exact this
theorem encs_RR' {o o' : Bool} {T : Ty} (h : (!o || T.flat) = true) (h' : (!o' || T.flat) = true) (L : List (Den T)) : All2 (RR o' T) (L.map (enc o T)) L := by
 have := encs_RR h' L
 have e : L.map (enc o T) = L.map (enc o' T) := by
  refine List.map_congr_left fun x _ => ?_
  unfold enc
  rw [cls_o h,cls_o h']
 rw [e]; exact this
end Go.Proofs.Ytkmhopbmpeiofaa.Nx
namespace Go.Proofs.Ytkmhopbmpeiofaa.Nx
open Go Go.RowKit
section
variable {R : List AV → List AV → List Nat → Prop} (hr : ∀ xs,R xs xs []) (ha : ∀ {a b l c d m},R a b l → R c d m → R (a ++ c) (b ++ d) (l ++ m))
include hr ha in
theorem setG_spec {o : Bool} {f : (T : Ty) → TV → Option (Den T × List Nat)} {y : TV} {cy : List AV} {n : Nat} (hn : cy.length = n) (hf : ∀ T z l,f T y = some (z,l) → T.sz = n → R cy (cls o T z) l) :
  ∀ (T : Ty) (x : Den T) (off : Nat) (z : Den T) (l : List Nat),setG f T x off n y = some (z,l) → off + n ≤ T.sz → R ((cls o T x).take off ++ (cy ++ (cls o T x).drop (off + n))) (cls o T z) l := by
 have leafy : ∀ (T : Ty) (x : Den T) (off : Nat) (z : Den T) (l : List Nat),T.sz = 1 → (bif (Nat.beq off 0 && Nat.beq n 1) then f T y else none) = some (z,l) → off + n ≤ T.sz → R ((cls o T x).take off ++ (cy ++ (cls o T x).drop (off + n))) (cls o T z) l := by
  intro T x off z l hs h hle
  cases hc : (Nat.beq off 0 && Nat.beq n 1) with
  | false => rw [hc] at h; cases h
  | true =>
   rw [hc,cond_true] at h
   simp only [Bool.and_eq_true,Nat.beq_eq] at hc
   obtain ⟨rfl,rfl⟩ := hc
   rw [List.take_zero,List.drop_eq_nil_of_le (by rw [cls_len,hs]; omega),List.append_nil,List.nil_append]
   exact hf T z l h hs
 intro T
 induction T with
 | i k => exact fun x off z l h => leafy (.i k) x off z l rfl h
 | bl => exact fun x off z l h => leafy .bl x off z l rfl h
 | tx => exact fun x off z l h => leafy .tx x off z l rfl h
 | sv t _ => exact fun x off z l h => leafy (.sv t) x off z l rfl h
 | sl t _ => exact fun x off z l h => leafy (.sl t) x off z l rfl h
 | ar n k => intro x off z l h; cases h
 | st t ih =>
  intro x off z l h hle
  simp only [setG] at h
  cases hc : (Nat.beq off 0 && Nat.beq n t.sz) with
  | false => rw [hc] at h; exact ih x off z l h hle
  | true =>
   rw [hc,cond_true] at h
   simp only [Bool.and_eq_true,Nat.beq_eq] at hc
   obtain ⟨rfl,rfl⟩ := hc
   rw [List.take_zero,List.drop_eq_nil_of_le (by rw [cls_len]; simp [Ty.sz]),List.append_nil,List.nil_append]
   exact hf (.st t) z l h rfl
 | pr a b iha ihb =>
  intro x off z l h hle
  simp only [setG] at h
  have hl := cls_len o a x.1
  simp only [Ty.sz] at hle
  cases hc : Nat.ble (off + n) a.sz with
  | true =>
   have hle' := Nat.le_of_ble_eq_true hc
   rw [hc,cond_true] at h
   obtain ⟨⟨z',l'⟩,h1,h2⟩ := Option.map_eq_some_iff.1 h
   cases h2
   have := ha (iha x.1 off z' l' h1 hle') (hr (cls o b x.2))
   simp only [cls,List.append_nil] at this ⊢
   rw [List.take_append_of_le_length (by omega),List.drop_append_of_le_length (by omega)]
   simpa [List.append_assoc] using this
  | false =>
   rw [hc,cond_false] at h
   cases hd : Nat.ble a.sz off with
   | false => rw [hd] at h; cases h
   | true =>
    have hle' := Nat.le_of_ble_eq_true hd
    rw [hd,cond_true] at h
    obtain ⟨⟨z',l'⟩,h1,h2⟩ := Option.map_eq_some_iff.1 h
    cases h2
    have := ha (hr (cls o a x.1)) (ihb x.2 (off - a.sz) z' l' h1 (by omega))
    simp only [cls,List.nil_append] at this ⊢
    rw [List.take_append,List.drop_append,List.take_of_length_le (by omega),show List.drop (off + n) (cls o a x.1) = [] from List.drop_eq_nil_of_le (by omega),hl,List.nil_append,show off + n - a.sz = off - a.sz + n from by omega]
    simpa [List.append_assoc] using this
end
theorem All2.imrefl : ∀ xs : List AV,All2 Im xs xs
 | [] => .nil
 | _ :: xs => .cons (.refl _) (All2.imrefl xs)
theorem fV_spec (hp : THP) {T : Ty} {y : TV} {z : Den T} {l : List Nat} (h : fV T y = some (z,l)) : l = [] ∧ RI false T (av hp y).cells z := by
 obtain ⟨z',h1,h2⟩ := Option.map_eq_some_iff.1 h
 cases h2
 exact ⟨rfl,(asDen_spec hp h1).1⟩
theorem fits_c1 {hp : THP} {m : Nat} {x : TV} (h : x.fits hp m = true) : ∀ c ∈ x.cs,c.c1 hp = true := by
 have tc : ∀ (T : Ty) (y : Den T),∀ c ∈ tcls T y,c.c1 hp = true := by
  intro T
  induction T with
  | i | bl | tx | sl | sv => intro y c hc; simp only [tcls,List.mem_singleton] at hc; subst hc; rfl
  | pr a b iha ihb =>
   intro y c hc
   rcases List.mem_append.1 hc with h | h
   ·exact iha _ c h
   ·exact ihb _ c h
  | st t ih => exact ih
  | ar n k =>
   intro y c hc
   simp only [tcls,List.mem_map] at hc
   obtain ⟨i,_,rfl⟩ := hc
   rfl
 unfold TV.fits at h
 split at h
 ·exact tc _ _
 ·exact tc (.ar _ _) _
 ·simp only [Bool.and_eq_true] at h
  exact fun c hc => (List.all_eq_true.1 h.2) c hc
 ·rename_i n1 n0 n2
  simp only [Bool.and_eq_true] at h
  intro c hc
  have : x.cs = [x] := by
   cases x with
   | v T y => cases T <;> first | rfl | exact absurd rfl (n1 _ _) | exact absurd rfl (n0 _ _ _)
   | ag cs => exact absurd rfl (n2 _)
   | _ => rfl
  rw [this] at hc
  simp only [List.mem_singleton] at hc
  rw [hc]; exact h.2
theorem fits_len {hp : THP} {m : Nat} {x : TV} (h : x.fits hp m = true) : x.cs.length = m := by
 have h1 := fits_spec h
 have h2 := fits_cells h1.1
 rw [← h2.1,← h1.2,List.length_map]
theorem fO_spec {hp : THP} {T : Ty} {y : TV} {z : Den T} {l : List Nat} (h : fO hp T y = some (z,l)) (hc : ∀ c ∈ y.cs,c.c1 hp = true) : Ab (toHP hp) (y.cs.map (av hp)) (cls true T z) l := by
 unfold fO at h
 split at h
 ·rename_i z' l' e
  cases h
  obtain ⟨c1,e1,k⟩ := asOwnC_spec hp T _ _ _ _ e hc
  rw [List.append_nil] at e1
  rw [e1]; exact k
 ·cases h
theorem enc_false_cells {T : Ty} (L : List (Den T)) : bareRows (L.map (enc false T)) := by
 intro r hr
 obtain ⟨y,_,rfl⟩ := List.mem_map.1 hr
 rw [enc_cells,List.all_eq_true]
 intro c hc
 rw [cls_bare T y c hc,(cls_cell1 false T y c hc).1]; rfl
theorem enc_o {o : Bool} {T : Ty} (h : (!o || T.flat) = true) (L : List (Den T)) : L.map (enc o T) = L.map (enc false T) :=
 List.map_congr_left fun x _ => by unfold enc; rw [cls_o h]
theorem sub_all (rows : List AV) (len : Nat) (h : rows.length = len) : sub rows 0 len = rows := by simp [sub,h]
theorem sub_dt (rows : List AV) (off len : Nat) : sub rows off len = (rows.drop off).take len := by
 unfold sub
 split
 ·rename_i h
  rw [h.1,List.drop_zero,← h.2,List.take_length]
 ·rfl
theorem bytesAV_eq (s : ByteArray) : bytesAV s = (byteL s).map (enc false (.i .u8)) := by
 unfold bytesAV byteL
 rw [List.map_map]; rfl
theorem srcT_spec {n : Nat} {t : TS} {T : Ty} {L2 : List (Den T)} (y : TV) (h : srcT t.hp T y = some L2) : srcRows (toAS n t) T.sz (av t.hp y) = some (L2.map (enc false T)) := by
 unfold srcT at h
 split at h
 ·rename_i A Lx
  obtain ⟨e,hz⟩ := cst_some h
  cases e
  cases hz
  simp only [av,enc_sl,srcRows,true_or,if_true]
 ·rename_i j
  split at h
  ·rename_i A o Lx e
   cases ho : (!o || A.flat) with
   | false => rw [ho] at h; cases h
   | true =>
    rw [ho,cond_true] at h
    obtain ⟨e1,hz⟩ := cst_some h
    cases e1
    cases hz
    simp only [av,hpk,TB.rlen,e,srcRows,toAS_hp]
    rw [at_arr e]
    simp only [if_true]
    rw [sub_all _ _ (by simp),enc_o ho]
  ·cases h
 ·rename_i j off len
  split at h
  ·rename_i A o Lx e
   cases ho : (!o || A.flat) with
   | false => rw [ho] at h; cases h
   | true =>
    rw [ho,cond_true] at h
    obtain ⟨e1,hz⟩ := cst_some h
    cases e1
    cases hz
    simp only [av,hpk,TB.rlen,e,srcRows,toAS_hp]
    rw [at_arr e]
    simp only [if_true]
    rw [sub_dt,enc_o ho,List.map_take,List.map_drop]
  ·cases h
 ·cases h; rfl
 ·cases h
  simp [av,srcRows]
 ·cases h
theorem srcT_notStr {t : TS} {T : Ty} {L2 : List (Den T)} (y : TV) (h : srcT t.hp T y = some L2) : notStr (av t.hp y) := by
 unfold srcT at h
 split at h
 ·trivial
 ·rename_i j
  split at h
  ·rename_i A o Lx e
   simp only [av,hpk,TB.rlen,e]
   trivial
  ·cases h
 ·rename_i j off len
  split at h
  ·rename_i A o Lx e
   simp only [av,hpk,TB.rlen,e]
   trivial
  ·cases h
 ·trivial
 ·trivial
 ·cases h
theorem srcY_spec {n : Nat} {t : TS} {T : Ty} {y : TV} {L2 : List (Den T)} (h : srcY t.hp T y = some L2) : srcRows (toAS n t) T.sz (av t.hp y) = some (L2.map (enc false T)) := by
 have main : ∀ y : TV,srcT t.hp T y = some L2 → srcRows (toAS n t) T.sz (av t.hp y) = some (L2.map (enc false T)) := srcT_spec
 unfold srcY at h
 split at h
 ·rename_i k s
  by_cases hk : k = .u8
  ·subst hk
   simp only [decide_true,cond_true,Option.some.injEq] at h
   subst h
   show (if (1 : Nat) = 1 then some (bytesAV s) else none) = _
   rw [if_pos rfl,bytesAV_eq]
  ·have : decide (k = .u8) = false := by simpa using hk
   rw [this] at h; cases h
 ·exact main _ h
def Get (s s' : AS) : Prop := ∀ C a w,Conc C s a w → Conc C s' a w
theorem StLe.get {s s' : AS} (h : StLe s s') : Get s s' := fun _ _ _ hc => h.conc hc
theorem Get.trans {a b c : AS} (h : Get a b) (k : Get b c) : Get a c := fun C x w hc => k C x w (h C x w hc)
section
variable {n : Nat} {t : TS}
theorem StLe.setB {j : Nat} {k : Blk} {b : TB} (hj : j < t.hp.length) (hr : hpk t.hp j = some b.rlen) (hk : RowLe k (tb t.hp b)) :
  StLe { toAS n t with hp := (toHP t.hp).set j (some k) } (toAS n { t with hp := t.hp.set j (some b) }) := by
 have hh : ∀ i,hpk (t.hp.set j (some b)) i = hpk t.hp i := fun i => by
  by_cases hi : j = i
  ·subst hi
   rw [hr]
   unfold hpk
   rw [List.getElem?_set,if_pos rfl,if_pos hj]
  ·unfold hpk
   rw [List.getElem?_set,if_neg hi]
 refine ⟨by rw [toAS_len,toAS_len],fun i => ?_,?_,fun i x hx => ?_⟩
 ·show Im ((toAS n t).sl.getD i .any) _
  rw [toAS_get,toAS_get]
  show Im _ (av (t.hp.set j (some b)) (t.get n i))
  rw [av_congr hh]; exact .refl _
 ·show (toHP (t.hp.set j (some b))).length = ((toHP t.hp).set j (some k)).length
  simp [toHP_len]
 ·show ∃ y,(toHP (t.hp.set j (some b)))[i]? = some y ∧ _
  replace hx : ((toHP t.hp).set j (some k))[i]? = some x := hx
  rw [toHP_get]
  rw [List.getElem?_set] at hx ⊢
  by_cases hi : j = i
  ·subst hi
   rw [if_pos rfl,if_pos (by rw [toHP_len]; exact hj)] at hx
   rw [if_pos rfl,if_pos hj]
   cases hx
   refine ⟨_,rfl,?_⟩
   show RowLe k (tb (t.hp.set j (some b)) b)
   rw [tb_congr hh]; exact hk
  ·rw [if_neg hi,toHP_get] at hx
   rw [if_neg hi]
   cases hb : t.hp[i]? with
   | none => rw [hb] at hx; cases hx
   | some c =>
    rw [hb] at hx
    simp only [Option.map_some,Option.some.injEq] at hx
    subst hx
    refine ⟨_,rfl,?_⟩
    cases c with
    | none => trivial
    | some c =>
     show RowLe (tb t.hp c) (tb (t.hp.set j (some b)) c)
     rw [tb_congr hh]; exact .refl _
theorem StLe.grow {j : Nat} {k : Blk} {b : TB} (hj : j < t.hp.length) (hk : RowLe k (tb (t.grow j b).hp b)) :
  StLe { toAS n t with hp := (toHP t.hp).set j (some k) } (toAS n (t.grow j b)) := by
 let p : Nat → Bool := fun i => !Nat.beq i j
 have hh : ∀ i,p i = true → hpk (t.grow j b).hp i = hpk t.hp i := fun i hi => by
  have hi : ¬ j = i := by
   intro e; subst e; simp [p] at hi
  rw [← hpk_flt p t.hp i]
  unfold hpk TS.grow
  show (match ((fltH p t.hp).set j (some b))[i]? with | some (some b) => some b.rlen | _ => none) = _
  rw [List.getElem?_set,if_neg hi]
  rfl
 refine ⟨by rw [toAS_len,toAS_len],fun i => ?_,?_,fun i x hx => ?_⟩
 ·show Im ((toAS n t).sl.getD i .any) _
  rw [toAS_get,toAS_get,show (t.grow j b).get n i = Nx.flt p (t.get n i) from get_flt n t _ _ p rfl i]
  exact av_flt hh _
 ·show (toHP (t.grow j b).hp).length = ((toHP t.hp).set j (some k)).length
  simp [toHP_len,TS.grow,TS.flt,fltH_len]
 ·show ∃ y,(toHP (t.grow j b).hp)[i]? = some y ∧ _
  replace hx : ((toHP t.hp).set j (some k))[i]? = some x := hx
  rw [toHP_get]
  have eg : (t.grow j b).hp[i]? = ((fltH p t.hp).set j (some b))[i]? := rfl
  rw [List.getElem?_set] at hx eg
  by_cases hi : j = i
  ·subst hi
   rw [if_pos rfl,if_pos (by rw [toHP_len]; exact hj)] at hx
   rw [if_pos rfl,if_pos (by rw [fltH_len]; exact hj)] at eg
   cases hx
   rw [eg]
   exact ⟨_,rfl,hk⟩
  ·rw [if_neg hi,toHP_get] at hx
   rw [if_neg hi,fltH_get] at eg
   rw [eg]
   cases hb : t.hp[i]? with
   | none => rw [hb] at hx; cases hx
   | some c =>
    rw [hb] at hx
    simp only [Option.map_some,Option.some.injEq] at hx
    subst hx
    refine ⟨_,rfl,?_⟩
    cases c with
    | none => trivial
    | some c => exact tb_flt hh c
theorem setAll_get : ∀ (l : List Nat) (hp : THP) (i : Nat),(setAll hp l)[i]? = if i ∈ l then (if i < hp.length then some none else none) else hp[i]?
 | [],hp,i => by simp [setAll]
 | j :: l,hp,i => by
  rw [setAll,setAll_get l,List.getElem?_set]
  by_cases h1 : i ∈ l
  ·simp [h1]
  ·by_cases h2 : i = j
   ·subst h2; simp [h1]
   ·have : ¬ j = i := fun e => h2 e.symm
    simp [h1,h2,this]
theorem setAll_len : ∀ (l : List Nat) (hp : THP),(setAll hp l).length = hp.length
 | [],_ => rfl
 | j :: l,hp => by rw [setAll,setAll_len l]; simp
theorem memB_iff (l : List Nat) (i : Nat) : memB l i = true ↔ i ∈ l := by
 unfold memB
 simp only [List.any_eq_true,Nat.beq_eq]
 constructor
 ·rintro ⟨x,h1,rfl⟩; exact h1
 ·intro h; exact ⟨i,h,rfl⟩
theorem StLe.kill (l : List Nat) : StLe { toAS n t with hp := setAllH (toHP t.hp) l } (toAS n (t.kill l)) := by
 let p : Nat → Bool := fun i => !memB l i
 have hh : ∀ i,p i = true → hpk (t.kill l).hp i = hpk t.hp i := fun i hi => by
  have hi : i ∉ l := by
   intro e
   have := (memB_iff l i).2 e
   simp [p,this] at hi
  rw [← hpk_flt p t.hp i]
  unfold hpk TS.kill
  show (match (setAll (fltH p t.hp) l)[i]? with | some (some b) => some b.rlen | _ => none) = _
  rw [setAll_get,if_neg hi]
  rfl
 refine ⟨by rw [toAS_len,toAS_len],fun i => ?_,?_,fun i x hx => ?_⟩
 ·show Im ((toAS n t).sl.getD i .any) _
  rw [toAS_get,toAS_get,show (t.kill l).get n i = Nx.flt p (t.get n i) from get_flt n t _ _ p rfl i]
  exact av_flt hh _
 ·show (toHP (t.kill l).hp).length = (setAllH (toHP t.hp) l).length
  rw [toHP_len,setAllH_len,toHP_len]
  show (setAll (fltH p t.hp) l).length = _
  rw [setAll_len,fltH_len]
 ·show ∃ y,(toHP (t.kill l).hp)[i]? = some y ∧ _
  replace hx : (setAllH (toHP t.hp) l)[i]? = some x := hx
  rw [toHP_get]
  have eg : (t.kill l).hp[i]? = (setAll (fltH p t.hp) l)[i]? := rfl
  rw [setAll_get,fltH_len] at eg
  rw [setAllH_get,toHP_len] at hx
  by_cases hi : i ∈ l
  ·rw [if_pos hi] at hx eg
   split at hx
   ·rename_i h
    rw [if_pos h] at eg
    cases hx
    rw [eg]; exact ⟨_,rfl,trivial⟩
   ·cases hx
  ·rw [if_neg hi,toHP_get] at hx
   rw [if_neg hi,fltH_get] at eg
   rw [eg]
   cases hb : t.hp[i]? with
   | none => rw [hb] at hx; cases hx
   | some c =>
    rw [hb] at hx
    simp only [Option.map_some,Option.some.injEq] at hx
    subst hx
    refine ⟨_,rfl,?_⟩
    cases c with
    | none => trivial
    | some c => exact tb_flt hh c
end
end Go.Proofs.Ytkmhopbmpeiofaa.Nx
