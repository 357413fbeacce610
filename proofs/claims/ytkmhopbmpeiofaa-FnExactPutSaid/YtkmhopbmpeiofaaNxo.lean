/- Calls that write into what is lent: sound, with no condition beyond those each lemma names. -/
import Derived.Test.YtkmhopbmpeiofaaNxn
set_option linter.unusedVariables false
set_option linter.unusedSimpArgs false
namespace Go.Proofs.Ytkmhopbmpeiofaa.Nx
open Go Go.RowKit
def nums : Nat → List AV → List (Nat × AV)
 | _,[] => []
 | k,x :: xs => (k,x) :: nums (k + 1) xs
theorem lk_nums {n : Nat} : ∀ {args : List AV} {k t : Nat},k + args.length ≤ n → lk n t (nums k args) = if k ≤ t then args.getD (t - k) .any else .any
 | [],k,t,_ => by simp [nums,lk]
 | x :: xs,k,t,h => by
  simp only [List.length_cons] at h
  simp only [nums,lk]
  split
  ·rename_i e
   subst e
   rw [if_pos (by omega),if_pos (by omega)]; simp
  ·rename_i e
   rw [lk_nums (by omega)]
   by_cases h1 : k + 1 ≤ t
   ·rw [if_pos h1,if_pos (by omega),show t - k = (t - (k + 1)) + 1 from by omega]; simp
   ·rw [if_neg h1,if_neg (by omega)]
theorem ext_getD {xs ys : List AV} (hl : xs.length = ys.length) (h : ∀ i,xs.getD i .any = ys.getD i .any) : xs = ys := by
 apply List.ext_getElem hl
 intro i h1 h2
 have := h i
 simpa [List.getD_eq_getElem?_getD,h1,h2] using this
theorem E_args {n : Nat} {args : List AV} {hp : HP} (h : args.length ≤ n) : (⟨args ++ List.replicate (n - args.length) .any,hp⟩ : AS) = E n hp (nums 0 args) := by
 unfold E
 congr 1
 refine ext_getD (by rw [E_len]; simp; omega) fun i => ?_
 rw [E_get,lk_nums (by omega)]
 simp only [Nat.zero_le,if_true,Nat.sub_zero]
 rw [List.getD_eq_getElem?_getD,List.getD_eq_getElem?_getD]
 rcases Nat.lt_or_ge i args.length with hi | hi
 ·rw [List.getElem?_append_left hi]
 ·rw [List.getElem?_append_right hi,List.getElem?_eq_none hi,List.getElem?_replicate]
  split <;> rfl
theorem nums_map (hp : THP) : ∀ (k : Nat) (xs : List TV),nums k (xs.map (av hp)) = (numT k xs).map fun p => (p.1,av hp p.2)
 | _,[] => rfl
 | k,x :: xs => by simp only [List.map_cons,nums,numT,nums_map hp (k + 1) xs]
section
variable {n : Nat} {t : TS}
theorem toAS_args (hp : THP) (xs : List TV) : (toAS xs.length ⟨numT 0 xs,hp⟩).sl = xs.map (av hp) := by
 have h : (xs.map (av hp)).length ≤ xs.length := by simp
 have := E_args (n := xs.length) (args := xs.map (av hp)) (hp := toHP hp) h
 unfold toAS
 show (E xs.length (toHP hp) ((numT 0 xs).map fun p => (p.1,av hp p.2))).sl = _
 rw [← nums_map,← this]
 simp
theorem BR.data {w : World} {N N' : NT} {M M' : MT} {h h' : THP} {B : Ty} {Y : List (Den B)} {m : Cn} {L : List Nat} (hv : B.nov = true) (r : BR w N M (tb h (.arr B true Y)) m L) : BR w N' M' (tb h' (.arr B true Y)) m L := by
 have hf : freshL ((Y.map (enc true B)).flatMap AV.cells) = true := freshL_flat (by
  rw [freshL_all,List.all_map,List.all_eq_true]
  exact fun y _ => fresh_enc B hv y)
 refine ⟨r.len,r.sz,r.fr,r.cl,?_,r.vt,r.rm,r.lo,fun i hi => by simp [tb] at hi,r.f0⟩
 have r1 := r.rep.freshN (N' := N') hf
 exact r1.lowM (M' := M') (n := 0) (fun j hj => by omega) (low_rows 0 true B Y)
theorem BR.dataS {w : World} {N : NT} {M M' : MT} {h h' : THP} {B : Ty} {Y : List (Den B)} {m : Cn} {L : List Nat} (r : BR w N M (tb h (.arr B true Y)) m L) : BR w N M' (tb h' (.arr B true Y)) m L := by
 refine ⟨r.len,r.sz,r.fr,r.cl,?_,r.vt,r.rm,r.lo,fun i hi => by simp [tb] at hi,r.f0⟩
 exact r.rep.lowM (M' := M') (n := 0) (fun j hj => by omega) (low_rows 0 true B Y)
theorem keep_live {n : Nat} {t : TS} : ∀ (s : SK) (x : DenS s) (t' : TS),canon n t t' s = some x → ∀ j ∈ somes (keep n t s),∃ z,t.hp[j]? = some (some z) := by
 have sr : ∀ {base : Nat} {cs cs' : List TV} {l : List (Option Nat)} {B : List TB},SR t.hp base cs cs' l B → ∀ j ∈ somes l,∃ z,t.hp[j]? = some (some z) := by
  intro base cs cs' l B h
  induction h with
  | nil => intro j hj; simp [somes] at hj
  | leaf _ _ ih => exact ih
  | own h1 _ _ ih =>
   intro j hj
   simp only [somes,List.mem_cons] at hj
   rcases hj with rfl | hj
   ·exact ⟨_,h1⟩
   ·exact ih j hj
  | none _ ih => exact ih
 have app : ∀ (a b : List (Option Nat)) (j : Nat),j ∈ somes (a ++ b) ↔ j ∈ somes a ∨ j ∈ somes b := fun a b j => by simp [somes_mem]
 intro s
 induction s with
 | un | d | fn | ip | al => intro x t' _ j hj; simp [keep,somes] at hj
 | sum a b => intro x t' h; cases h
 | lg k T =>
  intro x t' hc j hj
  simp only [canon] at hc
  split at hc
  ·rename_i i e
   simp only [keep,e,somes,List.mem_singleton] at hj
   subst hj
   split at hc
   ·rename_i e2; exact ⟨_,e2⟩
   ·rename_i e2; exact ⟨_,e2⟩
   ·cases hc
  ·rename_i e; simp [keep,e,somes] at hj
  ·cases hc
 | av k m1 K =>
  intro x t' hc j hj
  simp only [canon] at hc
  split at hc
  ·rename_i i row off e
   simp only [keep,e,somes,List.mem_singleton] at hj
   subst hj
   cases hb : (Nat.beq row 0 && Nat.beq off 0) with
   | false => rw [hb] at hc; cases hc
   | true =>
    rw [hb,cond_true] at hc
    split at hc
    ·rename_i cs e2; exact ⟨_,e2⟩
    ·cases hc
  ·cases hc
 | o k T | mo k T =>
  intro x t' hc j hj
  simp only [canon] at hc
  split at hc
  ·rename_i i e
   simp only [keep,e,somes,List.mem_singleton] at hj
   subst hj
   split at hc
   ·rename_i e2; exact ⟨_,e2⟩
   ·cases hc
  ·rename_i e; simp [keep,e,somes] at hj
  ·cases hc
 | bx k T =>
  intro x t' hc j hj
  simp only [canon] at hc
  split at hc
  ·rename_i i row off e
   cases hb : (Nat.beq row 0 && Nat.beq off 0) with
   | false => rw [hb] at hc; cases hc
   | true =>
    rw [hb,cond_true] at hc
    split at hc
    ·rename_i cs e2
     split at hc
     ·rename_i y l hz
      obtain ⟨c1,_,k1⟩ := srcC_spec t.hp T cs _ l [] hz
      simp only [keep,e,e2,hz] at hj
      rcases (app _ _ _).1 hj with h | h
      ·exact sr (k1 0) j h
      ·simp only [somes,List.mem_singleton] at h
       subst h
       exact ⟨_,e2⟩
     ·cases hc
    ·cases hc
  ·cases hc
 | bv k T =>
  intro x t' hc j hj
  simp only [canon] at hc
  split at hc
  ·rename_i i row off e
   simp only [keep,e,somes,List.mem_singleton] at hj
   subst hj
   cases hb : (Nat.beq row 0 && Nat.beq off 0) with
   | false => rw [hb] at hc; cases hc
   | true =>
    rw [hb,cond_true] at hc
    split at hc
    ·rename_i cs e2; exact ⟨_,e2⟩
    ·cases hc
  ·cases hc
 | ow k T =>
  intro x t' hc j hj
  simp only [canon] at hc
  split at hc
  ·rename_i cs e
   split at hc
   ·rename_i y l hz
    obtain ⟨c1,_,k1⟩ := srcC_spec t.hp T cs _ l [] hz
    simp only [keep,e,hz] at hj
    exact sr (k1 0) j hj
   ·cases hc
  ·cases hc
 | pr a b iha ihb =>
  intro x t' hc j hj
  simp only [canon] at hc
  split at hc
  ·rename_i x1 x2 h1 h2
   simp only [keep] at hj
   rcases (app _ _ _).1 hj with h | h
   ·exact iha x1 t' h1 j h
   ·exact ihb x2 t' h2 j h
  ·cases hc
theorem callM_sound {P : Program} {S : Bool} {Ω : Type} {r : Ω} {cm : CM} (hcm : CMok P cm) (hSt : S = true) {xs : List TV} {d : Option Nat} {k : TS → Option Ω} (hlen : xs.length = (slotsS cm.s).length) (hfl : noBv cm.s = true ∧ noPv cm.R = true) (h : (match mask xs.length cm.s ⟨numT 0 xs,t.hp⟩ with
  | some x => (cm.F x).bind fun r => k ((t.back (keep xs.length ⟨numT 0 xs,t.hp⟩ cm.s) (fxW cm.s (t.hp.length + (resR t.hp.length cm.R r.1).2.length) r.2)
    ((resR t.hp.length cm.R r.1).2 ++ slW cm.s (t.hp.length + (resR t.hp.length cm.R r.1).2.length) r.2)).put d (tupT (resR t.hp.length cm.R r.1).1))
  | none => none) = some r) :
  CallW P S (toAS n t) cm.f (xs.map (av t.hp)) d (Kt k r n) := by
  split at h
  case h_2 => cases h
  rename_i x hm
  obtain ⟨⟨ρ,y⟩,hF,hk⟩ := Option.bind_eq_some_iff.1 h
  obtain ⟨hlw,hgood,hcall⟩ := hcm x (ρ,y) hF
  refine .m hSt hgood fun C act w N M L vs hcd hr => ?_
  obtain ⟨ℓ,hD⟩ := hcd.fn
  let tA : TS := ⟨numT 0 xs,t.hp⟩
  let X' : List Nat := ((List.range t.hp.length).flatMap ℓ).map Prod.fst
  let C' : Ctx := ⟨w,X',N,fun _ => none⟩
  have hhp : (toAS xs.length tA).hp = (toAS n t).hp := by rw [toAS_hp,toAS_hp]
  have hlh : (toAS n t).hp.length = t.hp.length := by rw [toAS_hp,toHP_len]
  have hA : ConcF C' (toAS xs.length tA) { tmps := ⟨vs⟩,defers := [] } w N M ℓ := by
   refine ⟨rfl,?_,fun i z hz => hD.hp i z (by rw [← hhp]; exact hz),fun i hi => hD.nd i (by rw [← hhp]; exact hi),fun i j hi hj => hD.dj i j (by rw [← hhp]; exact hi) (by rw [← hhp]; exact hj),fun i hi p hp => ?_,hD.nlt,fun _ _ h => h,fun _ _ h => .inl h,FrN.refl _ _ _,fun k hk => hD.un k (by rw [← hhp]; exact hk),fun _ _ _ _ h0 => (by cases h0),fun _ _ => rfl⟩
   ·rw [toAS_args]; exact hr
   ·rw [hhp] at hi
    obtain ⟨o1,o2,o3⟩ := hD.own i hi p hp
    exact ⟨o1,.inr (List.mem_map_of_mem (List.mem_flatMap.2 ⟨i,List.mem_range.2 (by rw [← hlh]; exact hi),hp⟩)),o3⟩
  obtain ⟨N1,M1,ℓ1,hE,hK,hN,hnd,hlt,hul,t',hcan⟩ := mask_full (C := C') (q := 0) (fun _ _ => rfl) rfl hm hA
  have hE' := hE.d
  have hpl : (toAS xs.length (mkS cm.s x)).hp.length = (ust 0 cm.s x).2.length := by rw [toAS_hp,toHP_len]; simp [mkS]
  let n0 := t.hp.length
  let np := (resR 0 cm.R ρ).2.length
  let resB' := resBL cm.R ρ cm.s y
  let nq := resB'.length
  let l := keep xs.length tA cm.s
  let B0 := fxW cm.s np y
  let B' := fxW cm.s (n0 + np) y
  let hpC := resBM cm.R ρ cm.s y
  let tp : TS := t.back l B' resB'
  obtain ⟨hbl,hat⟩ := keepO cm.s x y 0 np hcan hlw
  have env : Env w N1 M1 (toHP ((ust 0 cm.s x).2.map some)) _ := ⟨by have := hE'.hp; rw [toAS_hp] at this; exact this,hE'.nd,fun p hp => ⟨(hE'.own p hp).1,(hE'.own p hp).2.2⟩,hE'.nlt,fun k hk => hE'.un k (by rw [toAS_hp]; exact hk)⟩
  refine (hcall w N1 M1 _ vs env (by rw [← hlen]; exact hE.sl)).mono fun e w' ⟨v,e1,N2,M2,L2,b⟩ => ⟨v,e1,?_⟩
  have hF2 : ∃ ℓ2,ConcF ⟨w',L2.map Prod.fst,N2,fun _ => none⟩ ⟨[],toHP hpC⟩ { tmps := #[],defers := [] } w' N2 M2 ℓ2 ∧ ∀ i,∀ p ∈ ℓ2 i,i < (toHP hpC).length → p ∈ L2 := by
   have hd : ConcD ⟨w',L2.map Prod.fst,N2,fun _ => none⟩ ⟨[],toHP hpC⟩ { tmps := #[],defers := [] } w' N2 M2 L2 :=
    ⟨rfl,.nil,b.env.hr,b.env.nd,fun p hp => ⟨(b.env.own p hp).1,.inr (List.mem_map_of_mem hp),(b.env.own p hp).2⟩,b.env.nlt,fun _ _ h => h,fun _ _ h => .inl h,FrN.refl _ _ _,b.env.un,fun _ _ _ _ h0 => (by cases h0),fun _ _ => rfl⟩
   obtain ⟨ℓ2,e,hl⟩ := hd.hp.fn
   have hmem : ∀ i,∀ p ∈ ℓ2 i,i < (toHP hpC).length → p ∈ L2 := fun i p hp hi => by rw [e]; exact List.mem_flatMap.2 ⟨i,List.mem_range.2 hi,hp⟩
   subst e
   have hnd' := hd.nd
   rw [List.map_flatMap] at hnd'
   obtain ⟨n1,n2⟩ := List.pairwise_flatMap.1 hnd'
   refine ⟨ℓ2,⟨hd.df,hd.sl,fun i x hx => by have := hl i x hx; rwa [Nat.zero_add] at this,fun i hi => n1 i (List.mem_range.2 hi),?_,fun i hi p hp => hd.own p (hmem i p hp hi),hd.nlt,hd.nup,hd.ndn,hd.fr,hd.un,hd.mv,hd.mz⟩,hmem⟩
   have key : ∀ i j,i < j → j < (toHP hpC).length → ∀ p ∈ ℓ2 i,∀ q ∈ ℓ2 j,p.1 ≠ q.1 := by
    intro i j hij hj p hp q hq e
    have n2 := List.pairwise_iff_getElem.1 n2 i j (by simp; omega) (by simp; omega) hij
    simp only [List.getElem_range] at n2
    exact n2 p.1 (List.mem_map_of_mem hp) q.1 (List.mem_map_of_mem hq) e
   intro i j hi hj hne p hp q hq
   rcases Nat.lt_or_gt_of_ne hne with h | h
   ·exact key i j h hj p hp q hq
   ·exact fun e => key j i h hi q hq p hp e.symm
  obtain ⟨ℓ2,hF2,hmem2⟩ := hF2
  obtain ⟨kat,kun,kfrom⟩ := hK
  let idx : Nat → Option Nat := fun k => (List.range l.length).find? fun i => decide (l[i]? = some (some k))
  have idx_some : ∀ (k i : Nat),idx k = some i → l[i]? = some (some k) := fun k i e => by simpa using List.find?_some e
  have idx_none : ∀ k,idx k = none → ∀ i : Nat,l[i]? ≠ some (some k) := fun k e i hi => by
   have := List.find?_eq_none.1 e i (List.mem_range.2 (List.getElem?_eq_some_iff.1 hi).1)
   simp [hi] at this
  let M3 : MT := fun k => if k < n0 then (match idx k with | some i => M2 (nq + i) | none => M k) else if k < n0 + nq then M2 (k - n0) else none
  let ℓ3 : Nat → List (Nat × Nat) := fun k => if k < n0 then (match idx k with | some i => ℓ2 (nq + i) | none => ℓ k) else ℓ2 (k - n0)
  have hB' : B' = B0.map (Option.map (TB.shf n0)) := by
   show fxW cm.s (n0 + np) y = _
   rw [Nat.add_comm]; exact fxW_shift cm.s y np n0
  have hbl0 : B0.length = l.length := hbl
  have hbl' : B'.length = l.length := by rw [hB',List.length_map]; exact hbl0
  have hB'at : ∀ i,B'[i]? = (B0[i]?).map (Option.map (TB.shf n0)) := fun i => by rw [hB',List.getElem?_map]
  let p : Nat → Bool := fun i => Nat.blt i n0 && !memB (goneM l B') i
  have hpm : (putM (fltH p t.hp) l B').length = n0 := by rw [putM_len,fltH_len]
  have htp : tp.hp = putM (fltH p t.hp) l B' ++ resB'.map some := rfl
  have htpl : tp.hp.length = n0 + nq := by rw [htp,List.length_append,hpm,List.length_map]
  have hhpT : (toHP hpC).length = nq + B0.length := by rw [toHP_len]; show ((resBL cm.R ρ cm.s y).map some ++ fxW cm.s np y).length = _; rw [List.length_append,List.length_map]
  have hllt : ∀ (i k : Nat),l[i]? = some (some k) → k < n0 := fun i k e => hlt k (somes_mem.2 (List.mem_of_getElem? e))
  have hlent : ∀ (i k : Nat),l[i]? = some (some k) → B0[i]? = some none ∨ (∃ (A B : Ty) (X : List (Den A)) (Y : List (Den B)) (o : Bool) (Z : List (Den A)),(ust 0 cm.s x).2[i]? = some (.arr A true X) ∧ B0[i]? = some (some (.arr B true Y)) ∧ Y.length = X.length ∧ t.hp[k]? = some (some (.arr A o Z)) ∧ Z.length = X.length) ∨
    ∃ (cs cs0 cs1 : List TV),(ust 0 cm.s x).2[i]? = some (.box cs0) ∧ B0[i]? = some (some (.box cs1)) ∧ t.hp[k]? = some (some (.box cs)) := fun i k e => by
   rcases hat i (List.getElem?_eq_some_iff.1 e).1 with a1 | ⟨A,B,X,Y,a1,a2,_,a4,a5⟩ | ⟨cs,cs0,cs1,j,a1,a2,a3,a4⟩
   ·exact .inl a1
   ·obtain ⟨o,Z,a6,a7⟩ := a5 k e
    exact .inr (.inl ⟨A,B,X,Y,o,Z,a1,a2,a4,a6,a7⟩)
   ·rw [show keep xs.length tA cm.s = l from rfl,e] at a3
    cases a3
    exact .inr (.inr ⟨cs,cs0,cs1,a1,a2,a4⟩)
  have hput : ∀ (i k : Nat) (b : Option TB),l[i]? = some (some k) → B'[i]? = some b → tp.hp[k]? = some b := fun i k b e e' => by
   rw [htp,List.getElem?_append_left (by rw [hpm]; exact hllt i k e)]
   exact putM_at l B' (fltH p t.hp) hnd (fun j hj => by rw [fltH_len]; exact hlt j hj) i k b e e'
  have hoth : ∀ k,k < n0 → idx k = none → tp.hp[k]? = (t.hp[k]?).map (Option.map (TB.flt p)) := fun k hk e => by
   rw [htp,List.getElem?_append_left (by rw [hpm]; exact hk),putM_other l B' (fltH p t.hp) k (idx_none k e),fltH_get]
  have hhpk : ∀ j,p j = true → hpk tp.hp j = hpk t.hp j := fun j hj => by
   simp only [p,Bool.and_eq_true,Bool.not_eq_true',Nat.blt_eq] at hj
   obtain ⟨hj1,hj2⟩ := hj
   cases hi : idx j with
   | none =>
    have := hoth j hj1 hi
    unfold hpk
    rw [this]
    cases t.hp[j]? with
    | none => rfl
    | some z => cases z with
     | none => rfl
     | some z => simp [rlen_flt]
   | some i =>
    have e := idx_some j i hi
    rcases hlent i j e with a1 | ⟨A,B,X,Y,o,Z,a1,a2,a3,a4,a5⟩ | ⟨cs,cs0,cs1,a1,a2,a3⟩
    ·have : j ∈ goneM l B' := (goneM_iff l B' hbl' j).2 ⟨i,e,by rw [hB'at,a1]; rfl⟩
     have : memB (goneM l B') j = true := by
      unfold memB
      rw [List.any_eq_true]
      exact ⟨j,this,by simp⟩
     rw [this] at hj2; cases hj2
    ·unfold hpk
     rw [hput i j (some (.arr B true Y)) e (by rw [hB'at,a2]; rfl),a4]
     simp only [TB.rlen,a3,a5]
    ·unfold hpk
     rw [hput i j (some (.box (shfL n0 cs1))) e (by rw [hB'at,a2]; rfl),a3]
     rfl
  have hnew : ∀ j,hpk tp.hp (j + n0) = hpk (resB'.map some) j := fun j => by
   unfold hpk
   rw [htp,List.getElem?_append_right (by rw [hpm]; omega),hpm,Nat.add_sub_cancel]
  have hnewAt : ∀ (j : Nat) (k : TB),resB'[j]? = some k → tp.hp[j + n0]? = some (some k) := fun j k e => by
   rw [htp,List.getElem?_append_right (by rw [hpm]; omega),hpm,Nat.add_sub_cancel,List.getElem?_map,e]; rfl
  have hCat : ∀ (j : Nat) (k : TB),resB'[j]? = some k → hpC[j]? = some (some k) := fun j k e => by
   show ((resBL cm.R ρ cm.s y).map some ++ fxW cm.s np y)[j]? = _
   rw [List.getElem?_append_left (by rw [List.length_map]; exact (List.getElem?_eq_some_iff.1 e).1),List.getElem?_map,e]; rfl
  have hClow : ∀ j,j < nq → hpk hpC j = hpk (resB'.map some) j := fun j hj => by
   unfold hpk
   rw [hCat j resB'[j] (List.getElem?_eq_getElem hj),List.getElem?_map,List.getElem?_eq_getElem hj]; rfl
  have hresl : ∀ (i : Nat) (b' : TB),resB'[i]? = some b' → (toHP hpC)[i]? = some (some (tb hpC b')) := fun i b' e => by
   rw [toHP_get,hCat i b' e]; rfl
  have hmovl : ∀ (i : Nat) (b' : Option TB),B0[i]? = some b' → (toHP hpC)[nq + i]? = some (b'.map (tb hpC)) := fun i b' e => by
   rw [toHP_get]
   show Option.map (Option.map (tb hpC)) (((resBL cm.R ρ cm.s y).map some ++ fxW cm.s np y)[nq + i]?) = _
   rw [List.getElem?_append_right (by rw [List.length_map]; exact Nat.le_add_right _ _),List.length_map,Nat.add_sub_cancel_left,show (fxW cm.s np y)[i]? = some b' from e]; rfl
  have hL1 : ∀ z ∈ (List.range (toAS xs.length (mkS cm.s x)).hp.length).flatMap ℓ1,∃ i j,l[i]? = some (some j) ∧ z ∈ ℓ j := fun z hz => by
   obtain ⟨i,_,hz⟩ := List.mem_flatMap.1 hz
   obtain ⟨j,e,h⟩ := kfrom i z hz
   exact ⟨i,j,e,h⟩
  have hMlt : ∀ j z,M j = some z → j < n0 := fun j z e => by
   rcases Nat.lt_or_ge j n0 with h | h
   ·exact h
   ·rw [hD.un j (by rw [hlh]; exact h)] at e; cases e
  have hMi : ∀ k q,idx k = some q → (B0[q]? = some none ∧ M2 (nq + q) = some none ∧ ℓ2 (nq + q) = []) ∨ ((∃ b',B0[q]? = some (some b')) ∧ M2 (nq + q) = M k) := fun k q hx => by
   have hq := idx_some k q hx
   have f3 := (kat.so q k hq).1
   rw [Nat.zero_add] at f3
   rcases hlent q k hq with a1 | ⟨A,B,X,Y,o,Z,a1,a2,a3,a4,a5⟩ | ⟨cs,cs0,cs1,a1,a2,a3⟩
   ·exact .inl ⟨a1,hF2.hp (nq + q) _ (hmovl q _ a1)⟩
   ·obtain ⟨m,K,e1,e2,e3⟩ := hF2.hp (nq + q) _ (hmovl q _ a2)
    obtain ⟨m0,K0,f1,f2,_⟩ := hE.hp q (some (tb ((ust 0 cm.s x).2.map some) (.arr A true X))) (by rw [toAS_hp,toHP_get]; simp only [mkS,List.getElem?_map,a1,Option.map_some])
    obtain ⟨_,g2⟩ := b.mv q m m0 e1 f1
    have l1 := e2.len
    have l2 := f2.len
    simp only [tb,List.length_map] at l1 l2
    have := g2 (by omega)
    subst this
    exact .inr ⟨⟨_,a2⟩,by rw [e1,← f3,f1]⟩
   ·obtain ⟨m,K,e1,e2,e3⟩ := hF2.hp (nq + q) _ (hmovl q _ a2)
    obtain ⟨m0,K0,f1,f2,_⟩ := hE.hp q (some (tb ((ust 0 cm.s x).2.map some) (.box cs0))) (by rw [toAS_hp,toHP_get]; simp only [mkS,List.getElem?_map,a1,Option.map_some])
    obtain ⟨_,g2⟩ := b.mv q m m0 e1 f1
    have l1 := e2.len
    have l2 := f2.len
    simp only [tb,List.length_singleton] at l1 l2
    have := g2 (by omega)
    subst this
    exact .inr ⟨⟨_,a2⟩,by rw [e1,← f3,f1]⟩
  have hM3a : ∀ k,k < n0 → idx k = none → M3 k = M k := fun k hk hx => by simp only [M3,hk,if_true,hx]
  have hM3b : ∀ k q,k < n0 → idx k = some q → M3 k = M2 (nq + q) := fun k q hk hx => by simp only [M3,hk,if_true,hx]
  have g : Gr w w' N N M M3 := ⟨b.fr.shp,fun i o hn => b.fr.nc i o (hN i o hn),fun _ _ hn => hn,fun j z hj => by
   have hj' := hMlt j z hj
   cases hx : idx j with
   | none => exact ⟨z,by rw [hM3a j hj' hx]; exact hj,fun m hm => ⟨m,hm,.inl rfl⟩⟩
   | some q =>
    rcases hMi j q hx with ⟨_,e,_⟩ | ⟨_,e⟩
    ·exact ⟨none,by rw [hM3b j q hj' hx]; exact e,fun m hm => by cases hm⟩
    ·exact ⟨z,by rw [hM3b j q hj' hx,e]; exact hj,fun m hm => ⟨m,hm,.inl rfl⟩⟩⟩
  have hold : ∀ k,k < n0 → idx k = none → ∀ p ∈ ℓ k,p.1 < w.heap.size ∧ p.1 ∉ ((List.range (toAS xs.length (mkS cm.s x)).hp.length).flatMap ℓ1).map Prod.fst := fun k hk hi p hp => by
   refine ⟨(hD.own k (by rw [hlh]; exact hk) p hp).1,fun hm => ?_⟩
   obtain ⟨z,hz,e⟩ := List.mem_map.1 hm
   obtain ⟨i,j,e',h⟩ := hL1 z hz
   have hne : k ≠ j := fun ee => idx_none k hi i (by rw [ee]; exact e')
   exact hD.dj k j (by rw [hlh]; exact hk) (by rw [hlh]; exact hllt i j e') hne p hp z h e.symm
  have hsame : ∀ k,k < n0 → idx k = none → ∀ p ∈ ℓ k,Same w w' p.1 := fun k hk hi p hp => by
   obtain ⟨q1,q2⟩ := hold k hk hi p hp
   exact b.fr.same q1 q2
  have hM3n : ∀ i,i < nq → M3 (n0 + i) = M2 i := fun i hi => by
   have h1 : ¬ n0 + i < n0 := by omega
   have h2 : n0 + i < n0 + nq := by omega
   simp only [M3,h1,if_false,h2,if_true,Nat.add_sub_cancel_left]
  have hcase : ∀ k,k < n0 + nq → (k < n0 ∧ idx k = none ∧ ℓ3 k = ℓ k) ∨ ∃ i,i < (toHP hpC).length ∧ ℓ3 k = ℓ2 i ∧ ((k < n0 ∧ ∃ q,idx k = some q ∧ i = nq + q) ∨ (n0 ≤ k ∧ i = k - n0)) := fun k hk => by
   rcases Nat.lt_or_ge k n0 with h | h
   ·cases hi : idx k with
    | none => exact .inl ⟨h,rfl,by simp only [ℓ3,h,if_true,hi]⟩
    | some q =>
     have := (List.getElem?_eq_some_iff.1 (idx_some k q hi)).1
     exact .inr ⟨nq + q,by rw [hhpT]; omega,by simp only [ℓ3,h,if_true,hi],.inl ⟨h,q,rfl,rfl⟩⟩
   ·have h' : ¬ k < n0 := by omega
    exact .inr ⟨k - n0,by rw [hhpT]; omega,by simp only [ℓ3,h',if_false],.inr ⟨h,rfl⟩⟩
  have hs'len : ({ toAS n t with hp := toHP tp.hp } : AS).hp.length = n0 + nq := by
   show (toHP tp.hp).length = _
   rw [toHP_len,htpl]
  have main : ConcF C { toAS n t with hp := toHP tp.hp } act w' N M3 ℓ3 := by
   refine ⟨hD.df,hD.sl.gr g (fun _ hb => by cases hb),fun i z hz => ?_,fun i hi => ?_,fun i j hi hj hne p hp q hq => ?_,fun i hi p hp => ?_,fun i o hn => Nat.lt_of_lt_of_le (hD.nlt i o hn) b.fr.size,hD.nup,hD.ndn,?_,fun k hk => ?_,fun k m m0 h1 h0 => ?_,fun k hk => hD.mz k ?_⟩
   ·replace hz : (toHP tp.hp)[i]? = some z := hz
    rw [toHP_get] at hz
    rcases Nat.lt_or_ge i n0 with hi | hi
    ·cases hx : idx i with
     | none =>
      have hl3 : ℓ3 i = ℓ i := by simp only [ℓ3,hi,if_true,hx]
      rw [hoth i hi hx] at hz
      rw [hl3]
      have h0 := hD.hp i (Option.map (tb t.hp) (t.hp[i]'hi)) (by rw [toAS_hp,toHP_get,List.getElem?_eq_getElem hi]; rfl)
      rw [List.getElem?_eq_getElem hi] at hz
      revert hz h0
      generalize t.hp[i]'hi = q
      intro hz h0
      cases q with
      | none =>
       simp only [Option.map_some,Option.map_none,Option.some.injEq] at hz
       subst hz
       exact ⟨by rw [hM3a i hi hx]; exact h0.1,h0.2⟩
      | some q =>
       simp only [Option.map_some,Option.some.injEq] at hz
       subst hz
       obtain ⟨m,K,e1,e2,e3⟩ := h0
       exact ⟨m,K,by rw [hM3a i hi hx]; exact e1,(e2.gr g (fun p hp => hsame i hi hx p (by rw [e3]; exact hp))).rowLe (tb_flt hhpk q),e3⟩
     | some q =>
      have hl3 : ℓ3 i = ℓ2 (nq + q) := by simp only [ℓ3,hi,if_true,hx]
      have hq := idx_some i q hx
      rw [hl3]
      have hM3i := hM3b i q hi hx
      rcases hlent q i hq with a1 | ⟨A,B,X,Y,o,Z,a1,a2,a3,a4,a5⟩ | ⟨cs,cs0,cs1,a1,a2,a3⟩
      ·rw [hput q i none hq (by rw [hB'at,a1]; rfl)] at hz
       simp only [Option.map_some,Option.map_none,Option.some.injEq] at hz
       subst hz
       obtain ⟨u1,u2⟩ := hF2.hp (nq + q) _ (hmovl q _ a1)
       exact ⟨by rw [hM3i]; exact u1,u2⟩
      ·rw [hput q i (some (.arr B true Y)) hq (by rw [hB'at,a2]; rfl)] at hz
       simp only [Option.map_some,Option.some.injEq] at hz
       subst hz
       obtain ⟨m,K,e1,e2,e3⟩ := hF2.hp (nq + q) _ (hmovl q _ a2)
       exact ⟨m,K,by rw [hM3i]; exact e1,BR.data (fxW_nov cm.s hfl.1 y np _ (List.mem_of_getElem? a2)) e2,e3⟩
      ·rw [hput q i (some (.box (shfL n0 cs1))) hq (by rw [hB'at,a2]; rfl)] at hz
       simp only [Option.map_some,Option.some.injEq] at hz
       subst hz
       obtain ⟨m,K,e1,e2,e3⟩ := hF2.hp (nq + q) _ (hmovl q _ a2)
       obtain ⟨T,z,o,u1,u2,u3,u9⟩ := fxW_boxN cm.s hfl.1 y np q cs1 a2
       have hnq : nq = np + slen cm.s := by
        show ((resR 0 cm.R ρ).2 ++ slW cm.s np y).length = _
        rw [List.length_append,slW_len]
       have u4 : ∀ (j : Nat) (k : TB),(rsC (np + o) T z).2[j]? = some k → resB'[np + o + j]? = some k := fun j k e => by
        show ((resR 0 cm.R ρ).2 ++ slW cm.s np y)[np + o + j]? = _
        rw [List.getElem?_append_right (by show np ≤ _; omega),show np + o + j - (resR 0 cm.R ρ).2.length = o + j from by show np + o + j - np = _; omega]
        exact u3 j k e
       have c1 : ∀ c ∈ cs1,c.c1 hpC = true := by
        rw [u1]
        exact c1_rsC T z (np + o) fun j k e => hCat _ k (u4 j k e)
       have hsh : shfL n0 cs1 = (rsC (np + o + n0) T z).1 := by
        rw [u1,(rsC_shift T z (np + o + n0)).1,(rsC_shift T z (np + o)).1,shfL_shfL]
       have c2 : ∀ c ∈ shfL n0 cs1,c.c1 tp.hp = true := by
        rw [hsh]
        refine c1_rsC T z (np + o + n0) fun j k e => ?_
        rw [(rsC_shift T z (np + o + n0)).2] at e
        rw [show np + o + n0 + j = np + o + j + n0 from by omega]
        exact hnewAt _ k (u4 j k (by rw [(rsC_shift T z (np + o)).2]; exact e))
       have lows : ∀ c ∈ cs1,(av hpC c).low nq = true ∧ ∀ h',(∀ j,j < nq → hpk hpC j = hpk h' j) → av hpC c = av h' c := by
        rw [u1]
        exact low_rsC T z (np + o) nq (by omega)
       have hcl : (shfL n0 cs1).length = cs1.length := by rw [shfL_map,List.length_map]
       have r := e2.rep
       simp only [tb,List.flatMap_cons,List.flatMap_nil,List.append_nil,AV.cells,cavs c1] at r
       have : K = [] := r.bare fun x hx => by
        obtain ⟨c,hc,rfl⟩ := List.mem_map.1 hx
        exact c1_bare (c1 c hc)
       subst this
       have r1 := r.freshN (N' := N) (by
        rw [freshL_all,List.all_map,List.all_eq_true]
        intro c hc
        rw [u1] at hc
        exact fresh_rsC T u9 z (np + o) c hc)
       have r2 := r1.lowM (M' := fun j => if j < nq then M2 j else none) (n := nq) (fun j hj z e => by simp only [hj,if_true]; exact e) (by
        rw [lowL_all,List.all_map,List.all_eq_true]
        exact fun c hc => (lows c hc).1)
       have r3 := r2.ren (M := M3) (f := (· + n0)) (fun j z e => by
        by_cases hj : j < nq
        ·simp only [hj,if_true] at e
         show M3 (j + n0) = _
         rw [Nat.add_comm,hM3n j hj]; exact e
        ·simp only [hj,if_false] at e; cases e)
       have e5 : renL (· + n0) (cs1.map (av hpC)) = (shfL n0 cs1).map (cav tp.hp) := by
        have : cs1.map (av hpC) = cs1.map (av (resB'.map some)) := List.map_congr_left fun c hc => (lows c hc).2 _ hClow
        rw [cavs c2,this,← avL_map,← avL_map,avL_shf hnew]
       rw [e5] at r3
       refine ⟨m,[],by rw [hM3i]; exact e1,⟨e2.len,by rw [e2.sz]; simp [tb,hcl],by simp [tb,hcl]; have := e2.fr; simpa [tb] using this,?_,?_,fun e => ?_,e2.rm,e2.lo,fun i hi => by simp [tb] at hi,fun _ => e2.f0 rfl⟩,e3⟩
       ·intro y hy
        simp only [tb,List.mem_singleton] at hy
        subst hy; simp [tb,AV.cells]
       ·simp only [tb,List.flatMap_cons,List.flatMap_nil,List.append_nil,AV.cells]
        exact r3
       ·have := e2.vt e
        simp [tb] at this
    ·have hi' : ¬ i < n0 := by omega
     rw [htp,List.getElem?_append_right (by rw [hpm]; exact hi),hpm,List.getElem?_map] at hz
     cases hb' : resB'[i - n0]? with
     | none => rw [hb'] at hz; cases hz
     | some b' =>
      rw [hb'] at hz
      simp only [Option.map_some,Option.some.injEq] at hz
      subst hz
      have harr : isArrT b' = true := by
       rcases List.mem_append.1 (List.mem_of_getElem? hb') with h | h
       ·exact resR_arr cm.R hfl.2 ρ 0 b' h
       ·exact slW_arr cm.s y _ b' h
      have hnv : b'.novB = true := by
       rcases List.mem_append.1 (List.mem_of_getElem? hb') with h | h
       ·exact resR_nov cm.R hfl.2 ρ 0 b' h
       ·exact slW_nov cm.s hfl.1 y _ b' h
      have hlt2 : i - n0 < nq := (List.getElem?_eq_some_iff.1 hb').1
      cases b' with
      | arr T o Y =>
       simp only [isArrT] at harr
       subst harr
       obtain ⟨m,K,e1,e2,e3⟩ := hF2.hp (i - n0) _ (hresl _ _ hb')
       have hl3 : ℓ3 i = ℓ2 (i - n0) := by simp only [ℓ3,hi',if_false]
       rw [hl3]
       have hM3 := hM3n (i - n0) hlt2
       rw [show n0 + (i - n0) = i from by omega] at hM3
       exact ⟨m,K,by rw [hM3]; exact e1,BR.data hnv e2,e3⟩
      | _ => cases harr
   ·rw [hs'len] at hi
    rcases hcase i hi with ⟨q1,q2,q3⟩ | ⟨j,q1,q2,_⟩
    ·rw [q3]; exact hD.nd i (by rw [hlh]; exact q1)
    ·rw [q2]; exact hF2.nd j q1
   ·rw [hs'len] at hi hj
    have mixed : ∀ k,k < n0 → idx k = none → ∀ j,j < (toHP hpC).length → ∀ p ∈ ℓ k,∀ q ∈ ℓ2 j,p.1 ≠ q.1 := fun k hk hx j hj p hp q hq e => by
     obtain ⟨u1,u2⟩ := hold k hk hx p hp
     rcases b.new q (hmem2 j q hq hj) with h | h
     ·omega
     ·exact u2 (e ▸ h)
    rcases hcase i hi with ⟨u1,u2,u3⟩ | ⟨i',u1,u2,u3⟩
    ·rcases hcase j hj with ⟨v1,v2,v3⟩ | ⟨j',v1,v2,v3⟩
     ·rw [u3] at hp; rw [v3] at hq
      exact hD.dj i j (by rw [hlh]; exact u1) (by rw [hlh]; exact v1) hne p hp q hq
     ·rw [u3] at hp; rw [v2] at hq
      exact mixed i u1 u2 j' v1 p hp q hq
    ·rcases hcase j hj with ⟨v1,v2,v3⟩ | ⟨j',v1,v2,v3⟩
     ·rw [u2] at hp; rw [v3] at hq
      exact fun e => mixed j v1 v2 i' u1 q hq p hp e.symm
     ·rw [u2] at hp; rw [v2] at hq
      refine hF2.dj i' j' u1 v1 (fun e => ?_) p hp q hq
      subst e
      rcases u3 with ⟨w1,a,w2,w3⟩ | ⟨w1,w2⟩
      ·rcases v3 with ⟨x1,a',x2,x3⟩ | ⟨x1,x2⟩
       ·have : a = a' := by omega
        subst this
        have e1 := idx_some i a w2
        have e2 := idx_some j a x2
        rw [e1] at e2
        cases e2
        exact hne rfl
       ·have := (List.getElem?_eq_some_iff.1 (idx_some i a w2)).1
        omega
      ·rcases v3 with ⟨x1,a',x2,x3⟩ | ⟨x1,x2⟩
       ·omega
       ·omega
   ·rw [hs'len] at hi
    rcases hcase i hi with ⟨q1,q2,q3⟩ | ⟨j,q1,q2,_⟩
    ·rw [q3] at hp
     obtain ⟨o1,o2,o3⟩ := hD.own i (by rw [hlh]; exact q1) p hp
     exact ⟨Nat.lt_of_lt_of_le o1 b.fr.size,o2,o3⟩
    ·rw [q2] at hp
     have hpL := hmem2 j p hp q1
     obtain ⟨o1,o3⟩ := b.env.own p hpL
     refine ⟨o1,?_,fun o hn => o3 o (b.nup _ _ (hN _ _ hn))⟩
     rcases b.new p hpL with h | h
     ·exact .inl (Nat.le_trans hD.fr.size h)
     ·obtain ⟨z,hz,e⟩ := List.mem_map.1 h
      obtain ⟨i',j',e',hz'⟩ := hL1 z hz
      rw [← e]
      exact (hD.own j' (by rw [hlh]; exact hllt i' j' e') z hz').2.1
   ·refine hD.fr.trans b.fr.toFr (fun y hy => ?_) (fun i o hn => b.fr.nc i o (hN i o (hD.nup i o hn)))
    obtain ⟨z,hz,rfl⟩ := List.mem_map.1 hy
    obtain ⟨i',j',e',hz'⟩ := hL1 z hz
    exact ((hD.own j' (by rw [hlh]; exact hllt i' j' e') z hz').2.1).symm
   ·rw [hs'len] at hk
    have h1 : ¬ k < n0 := by omega
    have h2 : ¬ k < n0 + nq := by omega
    simp only [M3,h1,h2,if_false]
   ·rcases Nat.lt_or_ge k n0 with h | h
    ·cases hx : idx k with
     | none =>
      rw [hM3a k h hx] at h1
      exact hD.mv k m m0 h1 h0
     | some q =>
      rw [hM3b k q h hx] at h1
      rcases hMi k q hx with ⟨_,e,_⟩ | ⟨_,e⟩
      ·rw [e] at h1; cases h1
      ·rw [e] at h1
       exact hD.mv k m m0 h1 h0
    ·rw [hD.mz k (by rw [hlh]; exact h)] at h0; cases h0
   ·rw [hs'len] at hk
    rw [hlh]; omega
  obtain ⟨s1,s2⟩ := resR_shift cm.R ρ n0
  have hnpq : np ≤ nq := by show np ≤ ((resR 0 cm.R ρ).2 ++ slW cm.s np y).length; rw [List.length_append]; exact Nat.le_add_right _ _
  obtain ⟨lo,ec⟩ := low_tup (h := hpC) (m := nq) (low_resR cm.R ρ 0 nq (by rw [Nat.zero_add]; exact hnpq))
  have e1 := ec (resB'.map some) hClow
  have rr := b.rep
  have rr' : Rep w' N2 M2 (av hpC (tupT (resR 0 cm.R ρ).1)) v [] := rr
  rw [e1] at rr' lo
  have r2 := (rr'.freshN (N' := N) (fresh_tup (fresh_resR cm.R hfl.2 ρ 0))).lowM (M' := fun j => if j < nq then M2 j else none) (n := nq) (fun j hj z e => by simp only [hj,if_true]; exact e) lo
  have r3 := r2.ren (M := M3) (f := (· + n0)) (fun j z e => by
   by_cases hj : j < nq
   ·simp only [hj,if_true] at e
    show M3 (j + n0) = _
    rw [Nat.add_comm,hM3n j hj]; exact e
   ·simp only [hj,if_false] at e; cases e)
  refine ⟨_,?_,N,M3,_,main.d.put d r3⟩
  have ehk : t.back l (fxW cm.s (t.hp.length + (resR t.hp.length cm.R ρ).2.length) y) ((resR t.hp.length cm.R ρ).2 ++ slW cm.s (t.hp.length + (resR t.hp.length cm.R ρ).2.length) y) = tp := by
   show _ = t.back l (fxW cm.s (n0 + np) y) ((resR 0 cm.R ρ).2 ++ slW cm.s np y)
   rw [show (resR t.hp.length cm.R ρ).2 = (resR 0 cm.R ρ).2 from s2,slW_base cm.s y np,slW_base cm.s y (t.hp.length + (resR 0 cm.R ρ).2.length)]
  have hk' : k (tp.put d (tupT (resR n0 cm.R ρ).1)) = some r := by rw [← ehk]; exact hk
  refine Kt.of hk' ?_
  have hle : StLe { toAS n t with hp := toHP tp.hp } (toAS n tp) := by
   refine ⟨by rw [toAS_len]; exact (toAS_len n t).symm,fun i => ?_,by rw [toAS_hp],fun i z hz => ⟨z,by rw [toAS_hp]; exact hz,by cases z; trivial; exact RowLe.refl _⟩⟩
   show Im ((toAS n t).sl.getD i .any) _
   rw [toAS_get,toAS_get,show tp.get n i = flt p (t.get n i) from get_flt n t _ _ p rfl i]
   exact av_flt hhpk _
  rw [toAS_put]
  refine StLe.put hle d ?_
  rw [s1,tupT_shf,av_shf (hp := resB'.map some) hnew]
  exact Im.refl _
theorem callV_sound {P : Program} {S : Bool} {Ω : Type} {r : Ω} {cm : CM} (hcm : CMok P cm) (hSt : S = true) {xs : List TV} {d : Option Nat} {k : TS → Option Ω} (hlen : xs.length = (slotsS cm.s).length) (h : (match mask xs.length cm.s ((⟨numT 0 xs,t.hp⟩ : TS).kill (unref t.hp xs)) with
  | some x => (cm.F x).bind fun r => k ((t.backV (seenA t.hp xs (keep xs.length ((⟨numT 0 xs,t.hp⟩ : TS).kill (unref t.hp xs)) cm.s)) (keep xs.length ((⟨numT 0 xs,t.hp⟩ : TS).kill (unref t.hp xs)) cm.s) (fxW cm.s (t.hp.length + (resR t.hp.length cm.R r.1).2.length) r.2)
    ((resR t.hp.length cm.R r.1).2 ++ slW cm.s (t.hp.length + (resR t.hp.length cm.R r.1).2.length) r.2)).put d (tupT (resR t.hp.length cm.R r.1).1))
  | none => none) = some r) :
  CallW P S (toAS n t) cm.f (xs.map (av t.hp)) d (Kt k r n) := by
  split at h
  case h_2 => cases h
  rename_i x hm
  obtain ⟨⟨ρ,y⟩,hF,hk⟩ := Option.bind_eq_some_iff.1 h
  obtain ⟨hlw,hgood,hcall⟩ := hcm x (ρ,y) hF
  refine .m hSt hgood fun C act w N M L vs hcd hr => ?_
  obtain ⟨ℓ,hD⟩ := hcd.fn
  let tA0 : TS := ⟨numT 0 xs,t.hp⟩
  let ur : List Nat := unref t.hp xs
  let tA : TS := tA0.kill ur
  let X' : List Nat := ((List.range t.hp.length).flatMap ℓ).map Prod.fst
  let C0 : Ctx := ⟨w,X',N,fun _ => none⟩
  have hhp : (toAS xs.length tA0).hp = (toAS n t).hp := by rw [toAS_hp,toAS_hp]
  have hlh : (toAS n t).hp.length = t.hp.length := by rw [toAS_hp,toHP_len]
  have hA0 : ConcF C0 (toAS xs.length tA0) { tmps := ⟨vs⟩,defers := [] } w N M ℓ := by
   refine ⟨rfl,?_,fun i z hz => hD.hp i z (by rw [← hhp]; exact hz),fun i hi => hD.nd i (by rw [← hhp]; exact hi),fun i j hi hj => hD.dj i j (by rw [← hhp]; exact hi) (by rw [← hhp]; exact hj),fun i hi p hp => ?_,hD.nlt,fun _ _ h => h,fun _ _ h => .inl h,FrN.refl _ _ _,fun k hk => hD.un k (by rw [← hhp]; exact hk),fun _ _ _ _ h0 => (by cases h0),fun _ _ => rfl⟩
   ·rw [toAS_args]; exact hr
   ·rw [hhp] at hi
    obtain ⟨o1,o2,o3⟩ := hD.own i hi p hp
    exact ⟨o1,.inr (List.mem_map_of_mem (List.mem_flatMap.2 ⟨i,List.mem_range.2 (by rw [← hlh]; exact hi),hp⟩)),o3⟩
  have hur : ∀ i,i ∈ ur ↔ i < t.hp.length ∧ i ∉ refsA t.hp xs := fun i => by
   show i ∈ (List.range t.hp.length).filter _ ↔ _
   rw [List.mem_filter,List.mem_range,Bool.not_eq_true',← Bool.not_eq_true,memB_iff]
  obtain ⟨Mk,ℓk,hKl,hout,hMk⟩ := hA0.kill2 (l := ur) (fun m hm => by rw [hhp,hlh]; exact ((hur m).1 hm).1)
  have hA1 : ConcF C0 (toAS xs.length tA) { tmps := ⟨vs⟩,defers := [] } w N Mk ℓk := (StLe.kill (n := xs.length) (t := tA0) ur).concF (by rw [toAS_hp] at hKl; exact hKl)
  let Xr : List Nat := (((List.range t.hp.length).filter fun j => memB (refsA t.hp xs) j).flatMap ℓ).map Prod.fst
  have hXr : ∀ b,b ∈ Xr → ∃ j,j < t.hp.length ∧ j ∈ refsA t.hp xs ∧ ∃ z ∈ ℓ j,z.1 = b := fun b hb => by
   obtain ⟨z,hz,e⟩ := List.mem_map.1 hb
   obtain ⟨j,hj,hz⟩ := List.mem_flatMap.1 hz
   rw [List.mem_filter,List.mem_range,memB_iff] at hj
   exact ⟨j,hj.1,hj.2,z,hz,e⟩
  let C' : Ctx := ⟨w,Xr,N,fun _ => none⟩
  have hAl : (toAS xs.length tA).hp.length = t.hp.length := by
   rw [toAS_hp,toHP_len]
   show (setAll (fltH _ t.hp) ur).length = _
   rw [setAll_len,fltH_len]
  have hA : ConcF C' (toAS xs.length tA) { tmps := ⟨vs⟩,defers := [] } w N Mk ℓk := by
   refine ⟨hA1.df,hA1.sl,hA1.hp,hA1.nd,hA1.dj,fun i hi p hp => ?_,hA1.nlt,fun _ _ h => h,fun _ _ h => .inl h,FrN.refl _ _ _,hA1.un,fun _ _ _ _ h0 => (by cases h0),fun _ _ => rfl⟩
   obtain ⟨g1,g2⟩ := hout i p hp
   rw [hAl] at hi
   obtain ⟨o1,_,o3⟩ := hA1.own i (by rw [hAl]; exact hi) p hp
   refine ⟨o1,.inr ?_,o3⟩
   refine List.mem_map_of_mem (List.mem_flatMap.2 ⟨i,?_,g2⟩)
   rw [List.mem_filter,List.mem_range,memB_iff]
   refine ⟨hi,Classical.byContradiction fun hc => g1 ((hur i).2 ⟨hi,hc⟩)⟩
  obtain ⟨N1,M1,ℓ1,hE,hK,hN,hnd,hlt0,hul,t',hcan⟩ := mask_full (C := C') (q := 0) (fun _ _ => rfl) rfl hm hA
  have hlt : ∀ j ∈ somes (keep xs.length tA cm.s),j < t.hp.length := fun j hj => by
   have h0 : j < tA.hp.length := hlt0 j hj
   have h1 : tA.hp.length = t.hp.length := by rw [← hAl,toAS_hp,toHP_len]
   omega
  have hlk : ∀ k (z : TB),tA.hp[k]? = some (some z) → k ∉ ur ∧ hpk t.hp k = some z.rlen := fun k z e => by
   have e' : (setAll (fltH (fun i => !memB ur i) t.hp) ur)[k]? = some (some z) := e
   rw [setAll_get] at e'
   by_cases hk : k ∈ ur
   ·rw [if_pos hk] at e'
    split at e' <;> cases e'
   ·rw [if_neg hk,fltH_get] at e'
    refine ⟨hk,?_⟩
    unfold hpk
    cases hz : t.hp[k]? with
    | none => rw [hz] at e'; cases e'
    | some z0 =>
     rw [hz] at e'
     cases z0 with
     | none => cases e'
     | some z0 =>
      simp only [Option.map_some,Option.some.injEq] at e'
      subst e'
      simp [rlen_flt]
  have hE' := hE.d
  have hpl : (toAS xs.length (mkS cm.s x)).hp.length = (ust 0 cm.s x).2.length := by rw [toAS_hp,toHP_len]; simp [mkS]
  let n0 := t.hp.length
  let np := (resR 0 cm.R ρ).2.length
  let resB' := resBL cm.R ρ cm.s y
  let nq := resB'.length
  let l := keep xs.length tA cm.s
  let B0 := fxW cm.s np y
  let B' := fxW cm.s (n0 + np) y
  let hpC := resBM cm.R ρ cm.s y
  let cons : List Nat := seenA t.hp xs l
  let tp : TS := t.backV cons l B' resB'
  have hcons : ∀ i,i ∈ cons ↔ i ∈ refsA t.hp xs ∧ i ∉ somes l := fun i => by
   show i ∈ (refsA t.hp xs).filter _ ↔ _
   rw [List.mem_filter,Bool.not_eq_true',← Bool.not_eq_true,memB_iff]
  obtain ⟨hbl,hat⟩ := keepO cm.s x y 0 np hcan hlw
  have env : Env w N1 M1 (toHP ((ust 0 cm.s x).2.map some)) _ := ⟨by have := hE'.hp; rw [toAS_hp] at this; exact this,hE'.nd,fun p hp => ⟨(hE'.own p hp).1,(hE'.own p hp).2.2⟩,hE'.nlt,fun k hk => hE'.un k (by rw [toAS_hp]; exact hk)⟩
  refine (hcall w N1 M1 _ vs env (by rw [← hlen]; exact hE.sl)).mono fun e w' ⟨v,e1,N2,M2,L2,b⟩ => ⟨v,e1,?_⟩
  have hF2 : ∃ ℓ2,ConcF ⟨w',L2.map Prod.fst,N2,fun _ => none⟩ ⟨[],toHP hpC⟩ { tmps := #[],defers := [] } w' N2 M2 ℓ2 ∧ ∀ i,∀ p ∈ ℓ2 i,i < (toHP hpC).length → p ∈ L2 := by
   have hd : ConcD ⟨w',L2.map Prod.fst,N2,fun _ => none⟩ ⟨[],toHP hpC⟩ { tmps := #[],defers := [] } w' N2 M2 L2 :=
    ⟨rfl,.nil,b.env.hr,b.env.nd,fun p hp => ⟨(b.env.own p hp).1,.inr (List.mem_map_of_mem hp),(b.env.own p hp).2⟩,b.env.nlt,fun _ _ h => h,fun _ _ h => .inl h,FrN.refl _ _ _,b.env.un,fun _ _ _ _ h0 => (by cases h0),fun _ _ => rfl⟩
   obtain ⟨ℓ2,e,hl⟩ := hd.hp.fn
   have hmem : ∀ i,∀ p ∈ ℓ2 i,i < (toHP hpC).length → p ∈ L2 := fun i p hp hi => by rw [e]; exact List.mem_flatMap.2 ⟨i,List.mem_range.2 hi,hp⟩
   subst e
   have hnd' := hd.nd
   rw [List.map_flatMap] at hnd'
   obtain ⟨n1,n2⟩ := List.pairwise_flatMap.1 hnd'
   refine ⟨ℓ2,⟨hd.df,hd.sl,fun i x hx => by have := hl i x hx; rwa [Nat.zero_add] at this,fun i hi => n1 i (List.mem_range.2 hi),?_,fun i hi p hp => hd.own p (hmem i p hp hi),hd.nlt,hd.nup,hd.ndn,hd.fr,hd.un,hd.mv,hd.mz⟩,hmem⟩
   have key : ∀ i j,i < j → j < (toHP hpC).length → ∀ p ∈ ℓ2 i,∀ q ∈ ℓ2 j,p.1 ≠ q.1 := by
    intro i j hij hj p hp q hq e
    have n2 := List.pairwise_iff_getElem.1 n2 i j (by simp; omega) (by simp; omega) hij
    simp only [List.getElem_range] at n2
    exact n2 p.1 (List.mem_map_of_mem hp) q.1 (List.mem_map_of_mem hq) e
   intro i j hi hj hne p hp q hq
   rcases Nat.lt_or_gt_of_ne hne with h | h
   ·exact key i j h hj p hp q hq
   ·exact fun e => key j i h hi q hq p hp e.symm
  obtain ⟨ℓ2,hF2,hmem2⟩ := hF2
  obtain ⟨kat,kun,kfrom⟩ := hK
  let idx : Nat → Option Nat := fun k => (List.range l.length).find? fun i => decide (l[i]? = some (some k))
  have idx_some : ∀ (k i : Nat),idx k = some i → l[i]? = some (some k) := fun k i e => by simpa using List.find?_some e
  have idx_none : ∀ k,idx k = none → ∀ i : Nat,l[i]? ≠ some (some k) := fun k e i hi => by
   have := List.find?_eq_none.1 e i (List.mem_range.2 (List.getElem?_eq_some_iff.1 hi).1)
   simp [hi] at this
  let M3 : MT := fun k => if k < n0 then (match idx k with | some i => M2 (nq + i) | none => if k ∈ cons then some none else M k) else if k < n0 + nq then M2 (k - n0) else none
  let ℓ3 : Nat → List (Nat × Nat) := fun k => if k < n0 then (match idx k with | some i => ℓ2 (nq + i) | none => if k ∈ cons then [] else ℓ k) else ℓ2 (k - n0)
  have idx_c : ∀ (k i : Nat),idx k = some i → k ∉ cons := fun k i e hc => ((hcons k).1 hc).2 (somes_mem.2 (List.mem_of_getElem? (idx_some k i e)))
  have hB' : B' = B0.map (Option.map (TB.shf n0)) := by
   show fxW cm.s (n0 + np) y = _
   rw [Nat.add_comm]; exact fxW_shift cm.s y np n0
  have hbl0 : B0.length = l.length := hbl
  have hbl' : B'.length = l.length := by rw [hB',List.length_map]; exact hbl0
  have hB'at : ∀ i,B'[i]? = (B0[i]?).map (Option.map (TB.shf n0)) := fun i => by rw [hB',List.getElem?_map]
  let p : Nat → Bool := fun i => Nat.blt i n0 && !memB (goneM l B' ++ cons) i
  have hpm : (putM (setAll (fltH p t.hp) cons) l B').length = n0 := by rw [putM_len,setAll_len,fltH_len]
  have htp : tp.hp = putM (setAll (fltH p t.hp) cons) l B' ++ resB'.map some := rfl
  have htpl : tp.hp.length = n0 + nq := by rw [htp,List.length_append,hpm,List.length_map]
  have hhpT : (toHP hpC).length = nq + B0.length := by rw [toHP_len]; show ((resBL cm.R ρ cm.s y).map some ++ fxW cm.s np y).length = _; rw [List.length_append,List.length_map]
  have hllt : ∀ (i k : Nat),l[i]? = some (some k) → k < n0 := fun i k e => hlt k (somes_mem.2 (List.mem_of_getElem? e))
  have hlent : ∀ (i k : Nat),l[i]? = some (some k) → B0[i]? = some none ∨ (∃ (A B : Ty) (X : List (Den A)) (Y : List (Den B)) (o : Bool) (Z : List (Den A)),(ust 0 cm.s x).2[i]? = some (.arr A true X) ∧ B0[i]? = some (some (.arr B true Y)) ∧ Y.length = X.length ∧ tA.hp[k]? = some (some (.arr A o Z)) ∧ Z.length = X.length) ∨
    ∃ (cs cs0 cs1 : List TV),(ust 0 cm.s x).2[i]? = some (.box cs0) ∧ B0[i]? = some (some (.box cs1)) ∧ tA.hp[k]? = some (some (.box cs)) := fun i k e => by
   rcases hat i (List.getElem?_eq_some_iff.1 e).1 with a1 | ⟨A,B,X,Y,a1,a2,_,a4,a5⟩ | ⟨cs,cs0,cs1,j,a1,a2,a3,a4⟩
   ·exact .inl a1
   ·obtain ⟨o,Z,a6,a7⟩ := a5 k e
    exact .inr (.inl ⟨A,B,X,Y,o,Z,a1,a2,a4,a6,a7⟩)
   ·rw [show keep xs.length tA cm.s = l from rfl,e] at a3
    cases a3
    exact .inr (.inr ⟨cs,cs0,cs1,a1,a2,a4⟩)
  have hput : ∀ (i k : Nat) (b : Option TB),l[i]? = some (some k) → B'[i]? = some b → tp.hp[k]? = some b := fun i k b e e' => by
   rw [htp,List.getElem?_append_left (by rw [hpm]; exact hllt i k e)]
   exact putM_at l B' (setAll (fltH p t.hp) cons) hnd (fun j hj => by rw [setAll_len,fltH_len]; exact hlt j hj) i k b e e'
  have hothC : ∀ k,k < n0 → k ∈ cons → tp.hp[k]? = some none := fun k hk hc => by
   rw [htp,List.getElem?_append_left (by rw [hpm]; exact hk),putM_other l B' (setAll (fltH p t.hp) cons) k (fun i e => ((hcons k).1 hc).2 (somes_mem.2 (List.mem_of_getElem? e))),setAll_get,if_pos hc,fltH_len,if_pos hk]
  have hoth : ∀ k,k < n0 → k ∉ cons → idx k = none → tp.hp[k]? = (t.hp[k]?).map (Option.map (TB.flt p)) := fun k hk hc e => by
   rw [htp,List.getElem?_append_left (by rw [hpm]; exact hk),putM_other l B' (setAll (fltH p t.hp) cons) k (idx_none k e),setAll_get,if_neg hc,fltH_get]
  have hhpk : ∀ j,p j = true → hpk tp.hp j = hpk t.hp j := fun j hj => by
   simp only [p,Bool.and_eq_true,Bool.not_eq_true',Nat.blt_eq] at hj
   obtain ⟨hj1,hj2⟩ := hj
   rw [← Bool.not_eq_true,memB_iff,List.mem_append,not_or] at hj2
   cases hi : idx j with
   | none =>
    have := hoth j hj1 hj2.2 hi
    unfold hpk
    rw [this]
    cases t.hp[j]? with
    | none => rfl
    | some z => cases z with
     | none => rfl
     | some z => simp [rlen_flt]
   | some i =>
    have e := idx_some j i hi
    rcases hlent i j e with a1 | ⟨A,B,X,Y,o,Z,a1,a2,a3,a4,a5⟩ | ⟨cs,cs0,cs1,a1,a2,a3⟩
    ·have : j ∈ goneM l B' := (goneM_iff l B' hbl' j).2 ⟨i,e,by rw [hB'at,a1]; rfl⟩
     exact absurd this hj2.1
    ·rw [(hlk j _ a4).2]
     unfold hpk
     rw [hput i j (some (.arr B true Y)) e (by rw [hB'at,a2]; rfl)]
     simp only [TB.rlen,a3,a5]
    ·rw [(hlk j _ a3).2]
     unfold hpk
     rw [hput i j (some (.box (shfL n0 cs1))) e (by rw [hB'at,a2]; rfl)]
     rfl
  have hnew : ∀ j,hpk tp.hp (j + n0) = hpk (resB'.map some) j := fun j => by
   unfold hpk
   rw [htp,List.getElem?_append_right (by rw [hpm]; omega),hpm,Nat.add_sub_cancel]
  have hnewAt : ∀ (j : Nat) (k : TB),resB'[j]? = some k → tp.hp[j + n0]? = some (some k) := fun j k e => by
   rw [htp,List.getElem?_append_right (by rw [hpm]; omega),hpm,Nat.add_sub_cancel,List.getElem?_map,e]; rfl
  have hCat : ∀ (j : Nat) (k : TB),resB'[j]? = some k → hpC[j]? = some (some k) := fun j k e => by
   show ((resBL cm.R ρ cm.s y).map some ++ fxW cm.s np y)[j]? = _
   rw [List.getElem?_append_left (by rw [List.length_map]; exact (List.getElem?_eq_some_iff.1 e).1),List.getElem?_map,e]; rfl
  have hClow : ∀ j,j < nq → hpk hpC j = hpk (resB'.map some) j := fun j hj => by
   unfold hpk
   rw [hCat j resB'[j] (List.getElem?_eq_getElem hj),List.getElem?_map,List.getElem?_eq_getElem hj]; rfl
  have hresl : ∀ (i : Nat) (b' : TB),resB'[i]? = some b' → (toHP hpC)[i]? = some (some (tb hpC b')) := fun i b' e => by
   rw [toHP_get,hCat i b' e]; rfl
  have hmovl : ∀ (i : Nat) (b' : Option TB),B0[i]? = some b' → (toHP hpC)[nq + i]? = some (b'.map (tb hpC)) := fun i b' e => by
   rw [toHP_get]
   show Option.map (Option.map (tb hpC)) (((resBL cm.R ρ cm.s y).map some ++ fxW cm.s np y)[nq + i]?) = _
   rw [List.getElem?_append_right (by rw [List.length_map]; exact Nat.le_add_right _ _),List.length_map,Nat.add_sub_cancel_left,show (fxW cm.s np y)[i]? = some b' from e]; rfl
  have hL1 : ∀ z ∈ (List.range (toAS xs.length (mkS cm.s x)).hp.length).flatMap ℓ1,∃ i j,l[i]? = some (some j) ∧ z ∈ ℓ j := fun z hz => by
   obtain ⟨i,_,hz⟩ := List.mem_flatMap.1 hz
   obtain ⟨j,e,h⟩ := kfrom i z hz
   exact ⟨i,j,e,(hout j z h).2⟩
  have hMlt : ∀ j z,M j = some z → j < n0 := fun j z e => by
   rcases Nat.lt_or_ge j n0 with h | h
   ·exact h
   ·rw [hD.un j (by rw [hlh]; exact h)] at e; cases e
  have hgu : ∀ (q k : Nat),l[q]? = some (some k) → k ∈ ur → False := fun q k hq hc => by
   have hkk : k < t.hp.length := hllt q k hq
   have : tA.hp[k]? = some none := by
    show (setAll (fltH (fun i => !memB ur i) t.hp) ur)[k]? = some none
    rw [setAll_get,if_pos hc,fltH_len,if_pos hkk]
   have hb1 := keep_live cm.s x t' hcan k (somes_mem.2 (List.mem_of_getElem? hq))
   obtain ⟨z,hz⟩ := hb1
   rw [this] at hz; cases hz
  have hMi : ∀ k q,idx k = some q → (B0[q]? = some none ∧ M2 (nq + q) = some none ∧ ℓ2 (nq + q) = []) ∨ ((∃ b',B0[q]? = some (some b')) ∧ M2 (nq + q) = M k) := fun k q hx => by
   have hq := idx_some k q hx
   have f3 := (kat.so q k hq).1
   rw [Nat.zero_add] at f3
   have hku : k ∉ ur := by
    rcases hlent q k hq with a1 | ⟨A,B,X,Y,o,Z,a1,a2,a3,a4,a5⟩ | ⟨cs,cs0,cs1,a1,a2,a3⟩
    ·exact fun hc => hgu q k hq hc
    ·exact (hlk k _ a4).1
    ·exact (hlk k _ a3).1
   rw [hMk k hku] at f3
   rcases hlent q k hq with a1 | ⟨A,B,X,Y,o,Z,a1,a2,a3,a4,a5⟩ | ⟨cs,cs0,cs1,a1,a2,a3⟩
   ·exact .inl ⟨a1,hF2.hp (nq + q) _ (hmovl q _ a1)⟩
   ·obtain ⟨m,K,e1,e2,e3⟩ := hF2.hp (nq + q) _ (hmovl q _ a2)
    obtain ⟨m0,K0,f1,f2,_⟩ := hE.hp q (some (tb ((ust 0 cm.s x).2.map some) (.arr A true X))) (by rw [toAS_hp,toHP_get]; simp only [mkS,List.getElem?_map,a1,Option.map_some])
    obtain ⟨_,g2⟩ := b.mv q m m0 e1 f1
    have l1 := e2.len
    have l2 := f2.len
    simp only [tb,List.length_map] at l1 l2
    have := g2 (by omega)
    subst this
    exact .inr ⟨⟨_,a2⟩,by rw [e1,← f3,f1]⟩
   ·obtain ⟨m,K,e1,e2,e3⟩ := hF2.hp (nq + q) _ (hmovl q _ a2)
    obtain ⟨m0,K0,f1,f2,_⟩ := hE.hp q (some (tb ((ust 0 cm.s x).2.map some) (.box cs0))) (by rw [toAS_hp,toHP_get]; simp only [mkS,List.getElem?_map,a1,Option.map_some])
    obtain ⟨_,g2⟩ := b.mv q m m0 e1 f1
    have l1 := e2.len
    have l2 := f2.len
    simp only [tb,List.length_singleton] at l1 l2
    have := g2 (by omega)
    subst this
    exact .inr ⟨⟨_,a2⟩,by rw [e1,← f3,f1]⟩
  have hM3a : ∀ k,k < n0 → idx k = none → k ∉ cons → M3 k = M k := fun k hk hx hc => by simp only [M3,hk,if_true,hx,hc,if_false]
  have hM3c : ∀ k,k < n0 → k ∈ cons → M3 k = some none ∧ ℓ3 k = [] := fun k hk hc => by
   cases hx : idx k with
   | some q => exact absurd hc (idx_c k q hx)
   | none => exact ⟨by simp only [M3,hk,if_true,hx,hc],by simp only [ℓ3,hk,if_true,hx,hc]⟩
  have hM3b : ∀ k q,k < n0 → idx k = some q → M3 k = M2 (nq + q) := fun k q hk hx => by simp only [M3,hk,if_true,hx]
  have g : Gr w w' N N2 M M3 := ⟨b.fr.shp,fun i o hn => b.fr.nc i o (hN i o hn),fun i o hn => b.nup i o (hN i o hn),fun j z hj => by
   have hj' := hMlt j z hj
   by_cases hc : j ∈ cons
   ·exact ⟨none,(hM3c j hj' hc).1,fun m hm => by cases hm⟩
   cases hx : idx j with
   | none => exact ⟨z,by rw [hM3a j hj' hx hc]; exact hj,fun m hm => ⟨m,hm,.inl rfl⟩⟩
   | some q =>
    rcases hMi j q hx with ⟨_,e,_⟩ | ⟨_,e⟩
    ·exact ⟨none,by rw [hM3b j q hj' hx]; exact e,fun m hm => by cases hm⟩
    ·exact ⟨z,by rw [hM3b j q hj' hx,e]; exact hj,fun m hm => ⟨m,hm,.inl rfl⟩⟩⟩
  have hold : ∀ k,k < n0 → idx k = none → ∀ p ∈ ℓ k,p.1 < w.heap.size ∧ p.1 ∉ ((List.range (toAS xs.length (mkS cm.s x)).hp.length).flatMap ℓ1).map Prod.fst := fun k hk hi p hp => by
   refine ⟨(hD.own k (by rw [hlh]; exact hk) p hp).1,fun hm => ?_⟩
   obtain ⟨z,hz,e⟩ := List.mem_map.1 hm
   obtain ⟨i,j,e',h⟩ := hL1 z hz
   have hne : k ≠ j := fun ee => idx_none k hi i (by rw [ee]; exact e')
   exact hD.dj k j (by rw [hlh]; exact hk) (by rw [hlh]; exact hllt i j e') hne p hp z h e.symm
  have hsame : ∀ k,k < n0 → idx k = none → ∀ p ∈ ℓ k,Same w w' p.1 := fun k hk hi p hp => by
   obtain ⟨q1,q2⟩ := hold k hk hi p hp
   exact b.fr.same q1 q2
  have hM3n : ∀ i,i < nq → M3 (n0 + i) = M2 i := fun i hi => by
   have h1 : ¬ n0 + i < n0 := by omega
   have h2 : n0 + i < n0 + nq := by omega
   simp only [M3,h1,if_false,h2,if_true,Nat.add_sub_cancel_left]
  have hcase : ∀ k,k < n0 + nq → (k < n0 ∧ idx k = none ∧ k ∉ cons ∧ ℓ3 k = ℓ k) ∨ ℓ3 k = [] ∨ ∃ i,i < (toHP hpC).length ∧ ℓ3 k = ℓ2 i ∧ ((k < n0 ∧ ∃ q,idx k = some q ∧ i = nq + q) ∨ (n0 ≤ k ∧ i = k - n0)) := fun k hk => by
   rcases Nat.lt_or_ge k n0 with h | h
   ·cases hi : idx k with
    | none =>
     by_cases hc : k ∈ cons
     ·exact .inr (.inl (hM3c k h hc).2)
     ·exact .inl ⟨h,rfl,hc,by simp only [ℓ3,h,if_true,hi,hc,if_false]⟩
    | some q =>
     have := (List.getElem?_eq_some_iff.1 (idx_some k q hi)).1
     exact .inr (.inr ⟨nq + q,by rw [hhpT]; omega,by simp only [ℓ3,h,if_true,hi],.inl ⟨h,q,rfl,rfl⟩⟩)
   ·have h' : ¬ k < n0 := by omega
    exact .inr (.inr ⟨k - n0,by rw [hhpT]; omega,by simp only [ℓ3,h',if_false],.inr ⟨h,rfl⟩⟩)
  have hs'len : ({ toAS n t with hp := toHP tp.hp } : AS).hp.length = n0 + nq := by
   show (toHP tp.hp).length = _
   rw [toHP_len,htpl]
  have hN2 : ∀ b' o,N2 b' o → N b' o ∨ b' ∈ Xr ∨ w.heap.size ≤ b' ∨ b' ∈ ((List.range (toAS xs.length (mkS cm.s x)).hp.length).flatMap ℓ1).map Prod.fst := fun b' o hn => by
   rcases b.ndn b' o hn with h | h | h
   ·rcases hE.ndn b' o h with h | h | h
    ·exact .inl h
    ·exact .inr (.inr (.inl h))
    ·exact .inr (.inl h)
   ·exact .inr (.inr (.inl h))
   ·exact .inr (.inr (.inr h))
  have main : ConcF C { toAS n t with hp := toHP tp.hp } act w' N2 M3 ℓ3 := by
   refine ⟨hD.df,hD.sl.gr g (fun _ hb => by cases hb),fun i z hz => ?_,fun i hi => ?_,fun i j hi hj hne p hp q hq => ?_,fun i hi p hp => ?_,fun i o hn => b.env.nlt i o hn,fun i o hn => b.nup i o (hN i o (hD.nup i o hn)),fun i o hn => ?_,?_,fun k hk => ?_,fun k m m0 h1 h0 => ?_,fun k hk => hD.mz k ?_⟩
   ·replace hz : (toHP tp.hp)[i]? = some z := hz
    rw [toHP_get] at hz
    rcases Nat.lt_or_ge i n0 with hi | hi
    ·by_cases hc : i ∈ cons
     ·rw [hothC i hi hc] at hz
      simp only [Option.map_some,Option.map_none,Option.some.injEq] at hz
      subst hz
      exact hM3c i hi hc
     cases hx : idx i with
     | none =>
      have hl3 : ℓ3 i = ℓ i := by simp only [ℓ3,hi,if_true,hx,hc,if_false]
      rw [hoth i hi hc hx] at hz
      rw [hl3]
      have h0 := hD.hp i (Option.map (tb t.hp) (t.hp[i]'hi)) (by rw [toAS_hp,toHP_get,List.getElem?_eq_getElem hi]; rfl)
      rw [List.getElem?_eq_getElem hi] at hz
      revert hz h0
      generalize t.hp[i]'hi = q
      intro hz h0
      cases q with
      | none =>
       simp only [Option.map_some,Option.map_none,Option.some.injEq] at hz
       subst hz
       exact ⟨by rw [hM3a i hi hx hc]; exact h0.1,h0.2⟩
      | some q =>
       simp only [Option.map_some,Option.some.injEq] at hz
       subst hz
       obtain ⟨m,K,e1,e2,e3⟩ := h0
       exact ⟨m,K,by rw [hM3a i hi hx hc]; exact e1,(e2.gr g (fun p hp => hsame i hi hx p (by rw [e3]; exact hp))).rowLe (tb_flt hhpk q),e3⟩
     | some q =>
      have hl3 : ℓ3 i = ℓ2 (nq + q) := by simp only [ℓ3,hi,if_true,hx]
      have hq := idx_some i q hx
      rw [hl3]
      have hM3i := hM3b i q hi hx
      rcases hlent q i hq with a1 | ⟨A,B,X,Y,o,Z,a1,a2,a3,a4,a5⟩ | ⟨cs,cs0,cs1,a1,a2,a3⟩
      ·rw [hput q i none hq (by rw [hB'at,a1]; rfl)] at hz
       simp only [Option.map_some,Option.map_none,Option.some.injEq] at hz
       subst hz
       obtain ⟨u1,u2⟩ := hF2.hp (nq + q) _ (hmovl q _ a1)
       exact ⟨by rw [hM3i]; exact u1,u2⟩
      ·rw [hput q i (some (.arr B true Y)) hq (by rw [hB'at,a2]; rfl)] at hz
       simp only [Option.map_some,Option.some.injEq] at hz
       subst hz
       obtain ⟨m,K,e1,e2,e3⟩ := hF2.hp (nq + q) _ (hmovl q _ a2)
       exact ⟨m,K,by rw [hM3i]; exact e1,e2.dataS,e3⟩
      ·rw [hput q i (some (.box (shfL n0 cs1))) hq (by rw [hB'at,a2]; rfl)] at hz
       simp only [Option.map_some,Option.some.injEq] at hz
       subst hz
       obtain ⟨m,K,e1,e2,e3⟩ := hF2.hp (nq + q) _ (hmovl q _ a2)
       rcases fxW_box2 cm.s y np q cs1 a2 with hdat | ⟨T,z,o,u1,u2,u3⟩
       ·have hsh : shfL n0 cs1 = cs1 := by
         rw [shfL_map]
         conv => rhs; rw [← List.map_id cs1]
         refine List.map_congr_left fun c hc => ?_
         simp only [isDat,List.all_eq_true] at hdat
         have := hdat c hc
         cases c <;> first | rfl | cases this
        rw [hsh]
        exact ⟨m,K,by rw [hM3i]; exact e1,(e2.dat (h' := tp.hp) (M' := M3) (n := 0) hdat).2,e3⟩
       have hnq : nq = np + slen cm.s := by
        show ((resR 0 cm.R ρ).2 ++ slW cm.s np y).length = _
        rw [List.length_append,slW_len]
       have u4 : ∀ (j : Nat) (k : TB),(rsC (np + o) T z).2[j]? = some k → resB'[np + o + j]? = some k := fun j k e => by
        show ((resR 0 cm.R ρ).2 ++ slW cm.s np y)[np + o + j]? = _
        rw [List.getElem?_append_right (by show np ≤ _; omega),show np + o + j - (resR 0 cm.R ρ).2.length = o + j from by show np + o + j - np = _; omega]
        exact u3 j k e
       have c1 : ∀ c ∈ cs1,c.c1 hpC = true := by
        rw [u1]
        exact c1_rsC T z (np + o) fun j k e => hCat _ k (u4 j k e)
       have hsh : shfL n0 cs1 = (rsC (np + o + n0) T z).1 := by
        rw [u1,(rsC_shift T z (np + o + n0)).1,(rsC_shift T z (np + o)).1,shfL_shfL]
       have c2 : ∀ c ∈ shfL n0 cs1,c.c1 tp.hp = true := by
        rw [hsh]
        refine c1_rsC T z (np + o + n0) fun j k e => ?_
        rw [(rsC_shift T z (np + o + n0)).2] at e
        rw [show np + o + n0 + j = np + o + j + n0 from by omega]
        exact hnewAt _ k (u4 j k (by rw [(rsC_shift T z (np + o)).2]; exact e))
       have lows : ∀ c ∈ cs1,(av hpC c).low nq = true ∧ ∀ h',(∀ j,j < nq → hpk hpC j = hpk h' j) → av hpC c = av h' c := by
        rw [u1]
        exact low_rsC T z (np + o) nq (by omega)
       have hcl : (shfL n0 cs1).length = cs1.length := by rw [shfL_map,List.length_map]
       have r := e2.rep
       simp only [tb,List.flatMap_cons,List.flatMap_nil,List.append_nil,AV.cells,cavs c1] at r
       have : K = [] := r.bare fun x hx => by
        obtain ⟨c,hc,rfl⟩ := List.mem_map.1 hx
        exact c1_bare (c1 c hc)
       subst this
       have r2 := r.lowM (M' := fun j => if j < nq then M2 j else none) (n := nq) (fun j hj z e => by simp only [hj,if_true]; exact e) (by
        rw [lowL_all,List.all_map,List.all_eq_true]
        exact fun c hc => (lows c hc).1)
       have r3 := r2.ren (M := M3) (f := (· + n0)) (fun j z e => by
        by_cases hj : j < nq
        ·simp only [hj,if_true] at e
         show M3 (j + n0) = _
         rw [Nat.add_comm,hM3n j hj]; exact e
        ·simp only [hj,if_false] at e; cases e)
       have e5 : renL (· + n0) (cs1.map (av hpC)) = (shfL n0 cs1).map (cav tp.hp) := by
        have : cs1.map (av hpC) = cs1.map (av (resB'.map some)) := List.map_congr_left fun c hc => (lows c hc).2 _ hClow
        rw [cavs c2,this,← avL_map,← avL_map,avL_shf hnew]
       rw [e5] at r3
       refine ⟨m,[],by rw [hM3i]; exact e1,⟨e2.len,by rw [e2.sz]; simp [tb,hcl],by simp [tb,hcl]; have := e2.fr; simpa [tb] using this,?_,?_,fun e => ?_,e2.rm,e2.lo,fun i hi => by simp [tb] at hi,fun _ => e2.f0 rfl⟩,e3⟩
       ·intro y hy
        simp only [tb,List.mem_singleton] at hy
        subst hy; simp [tb,AV.cells]
       ·simp only [tb,List.flatMap_cons,List.flatMap_nil,List.append_nil,AV.cells]
        exact r3
       ·have := e2.vt e
        simp [tb] at this
    ·have hi' : ¬ i < n0 := by omega
     rw [htp,List.getElem?_append_right (by rw [hpm]; exact hi),hpm,List.getElem?_map] at hz
     cases hb' : resB'[i - n0]? with
     | none => rw [hb'] at hz; cases hz
     | some b' =>
      rw [hb'] at hz
      simp only [Option.map_some,Option.some.injEq] at hz
      subst hz
      have hdat : isDat b' = true := by
       rcases List.mem_append.1 (List.mem_of_getElem? hb') with h | h
       ·exact resR_dat cm.R ρ 0 b' h
       ·have := slW_arr cm.s y _ b' h
        cases b' <;> first | exact this | cases this
      have hlt2 : i - n0 < nq := (List.getElem?_eq_some_iff.1 hb').1
      obtain ⟨m,K,e1,e2,e3⟩ := hF2.hp (i - n0) _ (hresl _ _ hb')
      have hl3 : ℓ3 i = ℓ2 (i - n0) := by simp only [ℓ3,hi',if_false]
      rw [hl3]
      have hM3 := hM3n (i - n0) hlt2
      rw [show n0 + (i - n0) = i from by omega] at hM3
      exact ⟨m,K,by rw [hM3]; exact e1,(e2.dat (h' := tp.hp) (M' := M3) (n := 0) hdat).2,e3⟩
   ·rw [hs'len] at hi
    rcases hcase i hi with ⟨q1,q2,_,q3⟩ | q3 | ⟨j,q1,q2,_⟩
    ·rw [q3]; exact hD.nd i (by rw [hlh]; exact q1)
    ·rw [q3]; simp
    ·rw [q2]; exact hF2.nd j q1
   ·rw [hs'len] at hi hj
    have mixed : ∀ k,k < n0 → idx k = none → ∀ j,j < (toHP hpC).length → ∀ p ∈ ℓ k,∀ q ∈ ℓ2 j,p.1 ≠ q.1 := fun k hk hx j hj p hp q hq e => by
     obtain ⟨u1,u2⟩ := hold k hk hx p hp
     rcases b.new q (hmem2 j q hq hj) with h | h
     ·omega
     ·exact u2 (e ▸ h)
    rcases hcase i hi with ⟨u1,u2,_,u3⟩ | u3 | ⟨i',u1,u2,u3⟩
    ·rcases hcase j hj with ⟨v1,v2,_,v3⟩ | v3 | ⟨j',v1,v2,v3⟩
     ·rw [u3] at hp; rw [v3] at hq
      exact hD.dj i j (by rw [hlh]; exact u1) (by rw [hlh]; exact v1) hne p hp q hq
     ·rw [v3] at hq; cases hq
     ·rw [u3] at hp; rw [v2] at hq
      exact mixed i u1 u2 j' v1 p hp q hq
    ·rw [u3] at hp; cases hp
    ·rcases hcase j hj with ⟨v1,v2,_,v3⟩ | v3 | ⟨j',v1,v2,v3⟩
     ·rw [u2] at hp; rw [v3] at hq
      exact fun e => mixed j v1 v2 i' u1 q hq p hp e.symm
     ·rw [v3] at hq; cases hq
     ·rw [u2] at hp; rw [v2] at hq
      refine hF2.dj i' j' u1 v1 (fun e => ?_) p hp q hq
      subst e
      rcases u3 with ⟨w1,a,w2,w3⟩ | ⟨w1,w2⟩
      ·rcases v3 with ⟨x1,a',x2,x3⟩ | ⟨x1,x2⟩
       ·have : a = a' := by omega
        subst this
        have e1 := idx_some i a w2
        have e2 := idx_some j a x2
        rw [e1] at e2
        cases e2
        exact hne rfl
       ·have := (List.getElem?_eq_some_iff.1 (idx_some i a w2)).1
        omega
      ·rcases v3 with ⟨x1,a',x2,x3⟩ | ⟨x1,x2⟩
       ·omega
       ·omega
   ·rw [hs'len] at hi
    rcases hcase i hi with ⟨q1,q2,qc,q3⟩ | q3 | ⟨j,q1,q2,_⟩
    ·rw [q3] at hp
     obtain ⟨o1,o2,o3⟩ := hD.own i (by rw [hlh]; exact q1) p hp
     refine ⟨Nat.lt_of_lt_of_le o1 b.fr.size,o2,fun o hn => ?_⟩
     rcases hN2 p.1 o hn with h | h | h | h
     ·exact o3 o h
     ·obtain ⟨j,hj,hjr,z,hz,e⟩ := hXr _ h
      by_cases hij : i = j
      ·subst hij
       refine absurd ((hcons i).2 ⟨hjr,fun hs => ?_⟩) qc
       obtain ⟨i',hi'⟩ := List.getElem?_of_mem (somes_mem.1 hs)
       exact idx_none i q2 i' hi'
      ·exact absurd e.symm (hD.dj i j (by rw [hlh]; exact q1) (by rw [hlh]; exact hj) hij p hp z hz)
     ·omega
     ·exact absurd h (hold i q1 q2 p hp).2
    ·rw [q3] at hp; cases hp
    ·rw [q2] at hp
     have hpL := hmem2 j p hp q1
     obtain ⟨o1,o3⟩ := b.env.own p hpL
     refine ⟨o1,?_,o3⟩
     rcases b.new p hpL with h | h
     ·exact .inl (Nat.le_trans hD.fr.size h)
     ·obtain ⟨z,hz,e⟩ := List.mem_map.1 h
      obtain ⟨i',j',e',hz'⟩ := hL1 z hz
      rw [← e]
      exact (hD.own j' (by rw [hlh]; exact hllt i' j' e') z hz').2.1
   ·rcases hN2 i o hn with h | h | h | h
    ·exact hD.ndn i o h
    ·obtain ⟨j,hj,hjr,z,hz,e⟩ := hXr _ h
     rw [← e]
     exact .inr (hD.own j (by rw [hlh]; exact hj) z hz).2.1
    ·exact .inr (.inl (Nat.le_trans hD.fr.size h))
    ·obtain ⟨z,hz,e⟩ := List.mem_map.1 h
     obtain ⟨i',j',e',hz'⟩ := hL1 z hz
     rw [← e]
     exact .inr (hD.own j' (by rw [hlh]; exact hllt i' j' e') z hz').2.1
   ·refine hD.fr.trans b.fr.toFr (fun y hy => ?_) (fun i o hn => b.fr.nc i o (hN i o (hD.nup i o hn)))
    obtain ⟨z,hz,rfl⟩ := List.mem_map.1 hy
    obtain ⟨i',j',e',hz'⟩ := hL1 z hz
    exact ((hD.own j' (by rw [hlh]; exact hllt i' j' e') z hz').2.1).symm
   ·rw [hs'len] at hk
    have h1 : ¬ k < n0 := by omega
    have h2 : ¬ k < n0 + nq := by omega
    simp only [M3,h1,h2,if_false]
   ·rcases Nat.lt_or_ge k n0 with h | h
    ·by_cases hc : k ∈ cons
     ·rw [(hM3c k h hc).1] at h1; cases h1
     cases hx : idx k with
     | none =>
      rw [hM3a k h hx hc] at h1
      exact hD.mv k m m0 h1 h0
     | some q =>
      rw [hM3b k q h hx] at h1
      rcases hMi k q hx with ⟨_,e,_⟩ | ⟨_,e⟩
      ·rw [e] at h1; cases h1
      ·rw [e] at h1
       exact hD.mv k m m0 h1 h0
    ·rw [hD.mz k (by rw [hlh]; exact h)] at h0; cases h0
   ·rw [hs'len] at hk
    rw [hlh]; omega
  obtain ⟨s1,s2⟩ := resR_shift cm.R ρ n0
  have hnpq : np ≤ nq := by show np ≤ ((resR 0 cm.R ρ).2 ++ slW cm.s np y).length; rw [List.length_append]; exact Nat.le_add_right _ _
  obtain ⟨lo,ec⟩ := low_tup (h := hpC) (m := nq) (low_resR cm.R ρ 0 nq (by rw [Nat.zero_add]; exact hnpq))
  have e1 := ec (resB'.map some) hClow
  have rr := b.rep
  have rr' : Rep w' N2 M2 (av hpC (tupT (resR 0 cm.R ρ).1)) v [] := rr
  rw [e1] at rr' lo
  have r2 := rr'.lowM (M' := fun j => if j < nq then M2 j else none) (n := nq) (fun j hj z e => by simp only [hj,if_true]; exact e) lo
  have r3 := r2.ren (M := M3) (f := (· + n0)) (fun j z e => by
   by_cases hj : j < nq
   ·simp only [hj,if_true] at e
    show M3 (j + n0) = _
    rw [Nat.add_comm,hM3n j hj]; exact e
   ·simp only [hj,if_false] at e; cases e)
  refine ⟨_,?_,N2,M3,_,main.d.put d r3⟩
  have ehk : t.backV cons l (fxW cm.s (t.hp.length + (resR t.hp.length cm.R ρ).2.length) y) ((resR t.hp.length cm.R ρ).2 ++ slW cm.s (t.hp.length + (resR t.hp.length cm.R ρ).2.length) y) = tp := by
   show _ = t.backV cons l (fxW cm.s (n0 + np) y) ((resR 0 cm.R ρ).2 ++ slW cm.s np y)
   rw [show (resR t.hp.length cm.R ρ).2 = (resR 0 cm.R ρ).2 from s2,slW_base cm.s y np,slW_base cm.s y (t.hp.length + (resR 0 cm.R ρ).2.length)]
  have hk' : k (tp.put d (tupT (resR n0 cm.R ρ).1)) = some r := by rw [← ehk]; exact hk
  refine Kt.of hk' ?_
  have hle : StLe { toAS n t with hp := toHP tp.hp } (toAS n tp) := by
   refine ⟨by rw [toAS_len]; exact (toAS_len n t).symm,fun i => ?_,by rw [toAS_hp],fun i z hz => ⟨z,by rw [toAS_hp]; exact hz,by cases z; trivial; exact RowLe.refl _⟩⟩
   show Im ((toAS n t).sl.getD i .any) _
   rw [toAS_get,toAS_get,show tp.get n i = flt p (t.get n i) from get_flt n t _ _ p rfl i]
   exact av_flt hhpk _
  rw [toAS_put]
  refine StLe.put hle d ?_
  rw [s1,tupT_shf,av_shf (hp := resB'.map some) hnew]
  exact Im.refl _
theorem xcallM_sound {P : Program} {S : Bool} {Ω : Type} {r : Ω} {Γ : List CX} (hΓ : ∀ cx ∈ Γ,CXok P cx) (hS : ∀ cm,CX.m cm ∈ Γ → S = true) {f : FuncId} {xs : List TV} {d : Option Nat} {k : TS → Option Ω} (h : xcallM Γ t f xs d k = some r) :
  CallW P S (toAS n t) f (xs.map (av t.hp)) d (Kt k r n) := by
 have pick : ∀ {Γ : List CX} {f : FuncId} {cm : CM},pickM Γ f = some cm → CX.m cm ∈ Γ ∧ cm.f = f := by
  intro Γ
  induction Γ with
  | nil => intro f cm h; cases h
  | cons c Γ ih =>
   intro f cm h
   cases c with
   | c ct => exact ⟨List.mem_cons_of_mem _ (ih h).1,(ih h).2⟩
   | m c =>
    simp only [pickM] at h
    cases hb : Nat.beq c.f f with
    | true => rw [hb,cond_true] at h; cases h; exact ⟨by simp,by simpa using hb⟩
    | false => rw [hb,cond_false] at h; exact ⟨List.mem_cons_of_mem _ (ih h).1,(ih h).2⟩
 unfold xcallM at h
 split at h
 case h_2 => cases h
 rename_i cm hp
 obtain ⟨h1,rfl⟩ := pick hp
 cases hb : Nat.beq xs.length (slotsS cm.s).length with
 | false => rw [hb] at h; cases h
 | true =>
  rw [hb,cond_true] at h
  have hlen : xs.length = (slotsS cm.s).length := by simpa using hb
  cases hfl : (noBv cm.s && noPv cm.R) with
  | true =>
   rw [hfl,cond_true] at h
   exact callM_sound (hΓ _ h1) (hS _ h1) hlen (by simpa using hfl) h
  | false =>
   rw [hfl,cond_false] at h
   exact callV_sound (hΓ _ h1) (hS _ h1) hlen h
end
end Go.Proofs.Ytkmhopbmpeiofaa.Nx
namespace Go.Proofs.Ytkmhopbmpeiofaa.Nx
open Go Go.RowKit
section
variable {n : Nat} {t : TS}
theorem pick_spec {hp : THP} : ∀ {Γ : List CX} {f : FuncId} {xs : List TV} {ct : CT} {a : DenP ct.p},pick hp Γ f xs = some ⟨ct,a⟩ → CX.c ct ∈ Γ ∧ ct.f = f ∧ (need ct.p ≤ 8 ∧ noPv ct.R = true) ∧ asPs hp ct.p xs = some (a,[])
 | [],_,_,_,_,h => by cases h
 | .m c :: Γ,f,xs,ct,a,h => by
  obtain ⟨h1,h2⟩ := pick_spec (Γ := Γ) h
  exact ⟨List.mem_cons_of_mem _ h1,h2⟩
 | .c c :: Γ,f,xs,ct,a,h => by
  simp only [pick] at h
  cases hb : (Nat.beq c.f f && (Nat.ble (need c.p) 8 && noPv c.R)) with
  | false =>
   rw [hb,cond_false] at h
   obtain ⟨h1,h2⟩ := pick_spec h
   exact ⟨List.mem_cons_of_mem _ h1,h2⟩
  | true =>
   rw [hb,cond_true] at h
   split at h
   ·rename_i a' e
    simp only [Bool.and_eq_true,Nat.beq_eq] at hb
    cases h
    exact ⟨by simp,hb.1,⟨Nat.le_of_ble_eq_true hb.2.1,hb.2.2⟩,e⟩
   ·obtain ⟨h1,h2⟩ := pick_spec h
    exact ⟨List.mem_cons_of_mem _ h1,h2⟩
def ΓOk (P : Program) (S : Bool) (Γ : List CX) : Prop := (∀ cx ∈ Γ,CXok P cx) ∧ ∀ cm,CX.m cm ∈ Γ → S = true
theorem onlyC_mem : ∀ {Γ : List CX} {cx : CX},cx ∈ onlyC Γ → cx ∈ Γ ∧ ∀ cm,cx ≠ .m cm
 | [],_,h => by cases h
 | .c ct :: Γ,cx,h => by
  simp only [onlyC,List.mem_cons] at h
  rcases h with rfl | h
  ·exact ⟨by simp,fun cm e => by cases e⟩
  ·exact ⟨List.mem_cons_of_mem _ (onlyC_mem h).1,(onlyC_mem h).2⟩
 | .m cm :: Γ,cx,h => by
  have := onlyC_mem (Γ := Γ) (cx := cx) h
  exact ⟨List.mem_cons_of_mem _ this.1,this.2⟩
theorem lows_ok {P : Program} {Γ : List CX} (h : ∀ cx ∈ Γ,CXok P cx) (S : Bool) : ΓOk P S (lows S Γ) := by
 cases S with
 | true => exact ⟨h,fun _ _ => rfl⟩
 | false => exact ⟨fun cx hc => h cx (onlyC_mem hc).1,fun cm hc => absurd rfl ((onlyC_mem hc).2 cm)⟩
theorem xcall_sound {P : Program} {S : Bool} {Ω : Type} {r : Ω} {Γ : List CX} (hΓ : ΓOk P S Γ) {f : FuncId} {xs : List TV} {d : Option Nat} {k : TS → Option Ω} (h : xcall Γ t f xs d k = some r) :
  CallW P S (toAS n t) f (xs.map (av t.hp)) d (Kt k r n) := by
 unfold xcall at h
 split at h
 ·rename_i ct a hp
  obtain ⟨h1,h2,h3,h4⟩ := pick_spec hp
  obtain ⟨y,hy,hk⟩ := Option.bind_eq_some_iff.1 h
  obtain ⟨x1,e,hi⟩ := asPs_spec _ _ _ _ h4 8 h3.1
  rw [List.append_nil] at e
  subst e
  refine .a ⟨Is (resA ct.R y) (resH ct.R y),?_,?_⟩
  ·have := (show CTok P ct from hΓ.1 _ h1) a y hy
   rw [h2] at this
   refine this.args ?_
   rw [List.map_map]
   exact hi
  ·rintro x hp' ⟨rfl,rfl⟩
   refine ⟨fresh_resA _ h3.2 _,fresh_resH _ h3.2 _,?_⟩
   refine Kt.of hk ?_
   rw [toAS_put,toAS_hp,toHP_len]
   obtain ⟨s1,s2⟩ := resR_shift ct.R y t.hp.length
   have hle := StLe.newL (n := n) (t := t) (resR_arr ct.R h3.2 y t.hp.length)
   rw [s2] at hle
   rw [s2]
   refine StLe.put hle d ?_
   rw [s1,tupT_shf,av_shf (hp := resB ct.R y)]
   ·exact Im.refl _
   ·exact fun j => hpk_new j
 ·exact xcallM_sound hΓ.1 hΓ.2 h
end
end Go.Proofs.Ytkmhopbmpeiofaa.Nx
