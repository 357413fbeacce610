/- More effects of the evaluator, and its views: sound, with no condition beyond those each lemma names. -/
import Derived.Test.YtkmhopbmpeiofaaNxk
set_option linter.unusedVariables false
set_option linter.unusedSimpArgs false
namespace Go.Proofs.Ytkmhopbmpeiofaa.Nx
open Go Go.RowKit
theorem c1_cell {hp : THP} {x : TV} (h : x.c1 hp = true) : (av hp x).cell1 = true := by
 cases x with
 | v T x => cases T <;> first | rfl | cases h
 | c v => cases v <;> first | rfl | cases h
 | nil => rfl
 | own j =>
  simp only [TV.c1,isArr] at h
  split at h
  ·rename_i e; simp only [av,e]; rfl
  ·cases h
 | sub j o l =>
  simp only [TV.c1,isArr] at h
  split at h
  ·rename_i e; simp only [av,e]; rfl
  ·cases h
 | ipv => rfl
 | ipt => rfl
 | _ => cases h
theorem asOwnC_c1 (hp : THP) : ∀ (T : Ty) (cs : List TV) (y : Den T) (l : List Nat) (r : List TV),asOwnC hp T cs = some (y,l,r) → ∃ c1,cs = c1 ++ r ∧ (∀ c ∈ c1,c.c1 hp = true) ∧ c1.length = T.sz := by
 intro T
 induction T with
 | ar n k =>
  intro cs y l r h
  cases cs with
  | nil => cases h
  | cons c cs => cases h
 | i k =>
  intro cs y l r h
  cases cs with
  | nil => cases h
  | cons c cs =>
   simp only [asOwnC] at h
   split at h
   ·split at h
    ·rename_i hz
     cases h
     obtain ⟨rfl,_⟩ := cst_some hz
     exact ⟨[_],rfl,by simp [TV.c1],rfl⟩
    ·cases h
   ·cases h
 | bl =>
  intro cs y l r h
  cases cs with
  | nil => cases h
  | cons c cs =>
   simp only [asOwnC] at h
   split at h
   ·split at h
    ·rename_i hz
     cases h
     obtain ⟨rfl,_⟩ := cst_some hz
     exact ⟨[_],rfl,by simp [TV.c1],rfl⟩
    ·cases h
   ·cases h
 | tx =>
  intro cs y l r h
  cases cs with
  | nil => cases h
  | cons c cs =>
   simp only [asOwnC] at h
   split at h
   ·split at h
    ·rename_i hz
     cases h
     obtain ⟨rfl,_⟩ := cst_some hz
     exact ⟨[_],rfl,by simp [TV.c1],rfl⟩
    ·cases h
   ·cases h
 | sv t _ =>
  intro cs y l r h
  cases cs with
  | nil => cases h
  | cons c cs =>
   simp only [asOwnC] at h
   split at h
   ·split at h
    ·rename_i hz
     cases h
     obtain ⟨rfl,_⟩ := cst_some hz
     exact ⟨[_],rfl,by simp [TV.c1],rfl⟩
    ·cases h
   ·cases h
    exact ⟨[_],rfl,by simp [TV.c1],rfl⟩
   ·cases h
 | sl t _ =>
  intro cs y l r h
  cases cs with
  | nil => cases h
  | cons c cs =>
   simp only [asOwnC] at h
   split at h
   ·rename_i j
    split at h
    ·rename_i A o Lx e
     cases ho : (o || A.flat) with
     | false => rw [ho] at h; cases h
     | true =>
      rw [ho,cond_true] at h
      split at h
      ·cases h
       exact ⟨[_],rfl,by simp [TV.c1,isArr,hpk_arr e],rfl⟩
      ·cases h
    ·cases h
   ·cases h
    exact ⟨[_],rfl,by simp [TV.c1],rfl⟩
   ·cases h
 | pr a b iha ihb =>
  intro cs y l r h
  simp only [asOwnC] at h
  split at h
  ·rename_i h1
   split at h
   ·rename_i h2
    cases h
    obtain ⟨c1,rfl,k1,k2⟩ := iha _ _ _ _ h1
    obtain ⟨c2,rfl,k3,k4⟩ := ihb _ _ _ _ h2
    refine ⟨c1 ++ c2,by simp,fun c hc => ?_,by simp [k2,k4,Ty.sz]⟩
    rcases List.mem_append.1 hc with h | h
    ·exact k1 c h
    ·exact k3 c h
   ·cases h
  ·cases h
 | st t ih =>
  intro cs y l r h
  exact ih cs y l r h
theorem asRowsO_spec (hp : THP) (T : Ty) : ∀ {R : List (List TV)} {L : List (Den T)} {l : List Nat},asRowsO hp T R = some (L,l) →
  bareRows (R.map fun cs => mkr T.ag (cs.map (cav hp))) ∧ Ab (toHP hp) ((R.map fun cs => mkr T.ag (cs.map (cav hp))).flatMap AV.cells) ((L.map (enc true T)).flatMap AV.cells) l ∧ L.length = R.length
 | [],L,l,h => by cases h; exact ⟨fun _ hr => (by cases hr),.nil,rfl⟩
 | cs :: R,L,l,h => by
  simp only [asRowsO] at h
  split at h
  ·rename_i x l1 h1
   split at h
   ·rename_i xs m h2
    cases h
    obtain ⟨k1,k2,k3⟩ := asRowsO_spec hp T h2
    obtain ⟨c1,e,q1,q2⟩ := asOwnC_c1 hp T _ _ _ _ h1
    rw [List.append_nil] at e
    subst e
    obtain ⟨c1',e',q3⟩ := asOwnC_spec hp T _ _ _ _ h1 q1
    rw [List.append_nil] at e'
    subst e'
    have hcv : cs.map (cav hp) = cs.map (av hp) := List.map_congr_left fun c hc => by
     unfold cav
     rw [q1 c hc]; rfl
    have hcells : (mkr T.ag (cs.map (cav hp))).cells = cs.map (av hp) := by
     rw [map_cav_cells,hcv]
     split
     ·rfl
     ·rename_i hag
      have h1 : cs.length = 1 := by rw [q2]; exact sz_one (by simpa using hag)
      match cs,h1 with
      | [c],_ => rfl
    refine ⟨?_,?_,by simp [k3]⟩
    ·intro r hr
     simp only [List.map_cons,List.mem_cons] at hr
     rcases hr with rfl | hr
     ·rw [hcells,List.all_eq_true]
      intro c hc
      obtain ⟨y,hy,rfl⟩ := List.mem_map.1 hc
      rw [c1_bare (q1 y hy),c1_cell (q1 y hy)]; rfl
     ·exact k1 r hr
    ·simp only [List.map_cons,List.flatMap_cons,enc_cells,hcells]
     exact q3.append k2
   ·cases h
  ·cases h
theorem setAllH_two (hp : HP) (l : List Nat) (j : Nat) (h : j < hp.length) : setAllH (setAllH hp l) [j] = setAllH hp (j :: l) := by
 apply List.ext_getElem?
 intro i
 simp only [setAllH_get,setAllH_len,List.mem_cons,List.mem_singleton,List.not_mem_nil,or_false]
 by_cases h1 : i = j
 ·subst h1; simp [h]
 ·by_cases h2 : i ∈ l <;> simp [h1,h2]
theorem StLe.setAll {s s' : AS} (h : StLe s s') (l : List Nat) : StLe { s with hp := setAllH s.hp l } { s' with hp := setAllH s'.hp l } := by
 refine ⟨h.len,h.sl,by simp only [setAllH_len]; exact h.hl,fun i x hx => ?_⟩
 replace hx : (setAllH s.hp l)[i]? = some x := hx
 show ∃ y,(setAllH s'.hp l)[i]? = some y ∧ _
 rw [setAllH_get] at hx ⊢
 by_cases hi : i ∈ l
 ·rw [if_pos hi] at hx ⊢
  split at hx
  ·rename_i hl
   rw [if_pos (by rw [h.hl]; exact hl)]
   cases hx
   exact ⟨_,rfl,trivial⟩
  ·cases hx
 ·rw [if_neg hi] at hx ⊢
  exact h.hp i x hx
theorem Get.kill {s : AS} {l : List Nat} (hl : ∀ m ∈ l,m < s.hp.length) : Get s { s with hp := setAllH s.hp l } := fun _ _ _ hc => by
 obtain ⟨N,M,ℓ,hc⟩ := hc.fn
 exact hc.kill hl
theorem put_hp (s : AS) (d : Option Nat) (x : AV) (hp : HP) : ({ AS.put s d x with hp := hp } : AS) = AS.put { s with hp := hp } d x := by cases d <;> rfl
theorem put_hp' (s : AS) (d : Option Nat) (x : AV) : (AS.put s d x).hp = s.hp := by cases d <;> rfl
theorem Get.take {s : AS} {j : Nat} {b : Blk} (hj : s.hp[j]? = some (some b)) {rows' : List AV} {l : List Nat} {i : Nat} (hi : i < s.hp.length) (hn : (j :: l).Nodup) (hlen : rows'.length = b.rows.length)
  (hcl : (∀ y ∈ b.rows,y.cells.length = b.sz) → ∀ y ∈ rows',y.cells.length = b.sz) (hab : Ab s.hp (b.rows.flatMap AV.cells) (rows'.flatMap AV.cells) l) :
  Get s { s with hp := setAllH (s.hp.set j (some { b with rows := rows' })) (i :: l) } := by
 refine Get.trans (Get.absorb hj hn hlen hcl hab) ?_
 have := Get.kill (s := { s with hp := setAllH (s.hp.set j (some { b with rows := rows' })) l }) (l := [i]) (fun m hm => by
  simp only [List.mem_singleton] at hm
  subst hm
  show m < (setAllH _ l).length
  rw [setAllH_len]; simpa using hi)
 rw [show ({ s with hp := setAllH (s.hp.set j (some { b with rows := rows' })) l } : AS).hp = setAllH (s.hp.set j (some { b with rows := rows' })) l from rfl,setAllH_two _ _ _ (by simpa using hi)] at this
 exact this
section
variable {Ω : Type} {r : Ω} {n : Nat} {Θ : TyO} {t : TS} {d : Option Nat} {k : TS → Option Ω}
def strP (str : Bool) : AV → Prop
 | .val (.string _) => str = true
 | _ => str = false
theorem str_ok {T : Ty} {y : TV} {L2 : List (Den T)} {str : Bool} (h : srcY t.hp T y = some L2) (hs : strC str y = true) : strP str (av t.hp y) := by
 have e0 : (∀ x,y ≠ .v .tx x) → str = false := fun hn => by
  unfold strC at hs
  split at hs
  ·exact absurd rfl (hn _)
  ·simpa using hs
 cases y with
 | v A x => cases A <;> first | exact hs | exact e0 fun x e => by cases e
 | own j =>
  have := e0 fun x e => by cases e
  simp only [av]
  generalize hpk t.hp j = q
  cases q with
  | none => exact this
  | some q => cases q <;> exact this
 | sub j o l =>
  have := e0 fun x e => by cases e
  simp only [av]
  generalize hpk t.hp j = q
  cases q with
  | none => exact this
  | some q => cases q <;> exact this
 | nil => exact e0 fun x e => by cases e
 | emp => exact e0 fun x e => by cases e
 | _ => unfold srcY at h; cases T <;> simp [srcT] at h
theorem strP_own {str : Bool} {j v o l : Nat} (h : strC str (.own j) = true) : strP str (.ref j v o l) := by
 show str = false
 simpa [strC] using h
theorem rowsOwn_spec {T : Ty} {y : TV} {L2 : List (Den T)} {l : List Nat} (h : rowsOwn t.hp T y = some (L2,l)) :
  ∃ j' l' R,y = .own j' ∧ l = j' :: l' ∧ t.hp[j']? = some (some (.rws T R)) ∧ asRowsO t.hp T R = some (L2,l') := by
 unfold rowsOwn at h
 split at h
 ·rename_i j'
  split at h
  ·rename_i A R e
   by_cases hA : A = T
   ·subst hA
    simp only [decide_true,cond_true] at h
    split at h
    ·rename_i L l' h1
     cases h
     exact ⟨j',l',R,rfl,rfl,e,h1⟩
    ·cases h
   ·have : decide (A = T) = false := by simpa using hA
    rw [this] at h; cases h
  ·cases h
 ·cases h
theorem hpk_grow {j : Nat} {b : TB} (hj : j < t.hp.length) : hpk (t.grow j b).hp j = some b.rlen := by
 unfold hpk TS.grow
 show (match ((fltH _ t.hp).set j (some b))[j]? with | some (some b) => some b.rlen | _ => none) = _
 rw [List.getElem?_set,if_pos rfl,if_pos (by rw [fltH_len]; exact hj)]
theorem hpk_kill {l : List Nat} {j : Nat} (hj : j ∉ l) : hpk (t.kill l).hp j = hpk t.hp j := by
 rw [← hpk_flt (fun i => !memB l i) t.hp j]
 unfold hpk TS.kill
 show (match (setAll (fltH _ t.hp) l)[j]? with | some (some b) => some b.rlen | _ => none) = _
 rw [setAll_get,if_neg hj]
 rfl
theorem eff_appNew {str : Bool} {sz by_ : Nat} {x y : Operand} (hx : isNil (av t.hp (t.ev n x)) = true) (hx2 : ∀ j v o l,av t.hp (t.ev n x) ≠ .ref j v o l) (hs : strC str (t.ev n y) = true)
  (h : appNew Θ t d k sz by_ (t.ev n y) = some r) : ae (toAS n t) d (Kt k r n) (.app str sz by_ x y) := by
 unfold appNew at h
 split at h
 ·rename_i T hT
  cases hz : Nat.beq T.sz sz with
  | false => rw [hz] at h; cases h
  | true =>
   rw [hz,cond_true] at h
   simp only [Nat.beq_eq] at hz
   subst hz
   split at h
   ·rename_i L2 hL
    obtain ⟨h1,h2⟩ := chk_some h
    have h1 := h1.sm
    simp only [decide_eq_true_eq] at h1
    simp only [ae,toAS_ev]
    refine ⟨str_ok hL hs,?_⟩
    rw [srcY_spec hL]
    refine ⟨enc_false_cells L2,hx,by rw [List.length_map]; exact h1,?_⟩
    rw [List.length_map,toAS_hp,toHP_len]
    refine new_put (b := .arr T T.flat L2) ?_ (im_own (by simp [TB.rlen])) h2
    exact rowsLe (encs_RR' rfl (by cases T.flat <;> rfl) L2)
   ·split at h
    ·rename_i L2 l hL
     cases hn : (nodupB l && l.all fun i => Nat.blt i t.hp.length) with
     | false => rw [hn] at h; cases h
     | true =>
      rw [hn,cond_true] at h
      simp only [Bool.and_eq_true,List.all_eq_true,Nat.blt_eq] at hn
      obtain ⟨h1,h2⟩ := chk_some h
      have h1 := h1.sm
      simp only [decide_eq_true_eq] at h1
      obtain ⟨j',l',R,e1,rfl,e3,e4⟩ := rowsOwn_spec hL
      obtain ⟨k1,k2,k3⟩ := asRowsO_spec t.hp T e4
      have hnd := nodupB_iff hn.1
      simp only [ae,toAS_ev,e1]
      rw [e1] at hs
      rw [av_own (hpk_rws e3)]
      refine ⟨strP_own (v := R.length) (o := 0) (l := R.length) hs,?_⟩
      simp only [srcRows,toAS_hp]
      rw [at_rws e3]
      simp only [if_true]
      rw [sub_all _ _ (by simp)]
      refine ⟨k1,hx,by rw [List.length_map,← k3]; exact h1,?_⟩
      rw [List.length_map,toHP_len]
      refine ⟨_,h2,?_⟩
      rw [toAS_put]
      generalize hrows : (R.map fun cs => mkr T.ag (cs.map (cav t.hp))) = rows at *
      have hl0 : t.hp.length ∉ j' :: l' := fun hm => by have := hn.2 _ hm; omega
      have hnew : ((toHP t.hp ++ [some (⟨T.sz,0,rows,0⟩ : Blk)]))[t.hp.length]? = some (some ⟨T.sz,0,rows,0⟩) := by
       rw [List.getElem?_append_right (by rw [toHP_len]; exact Nat.le_refl _),toHP_len,Nat.sub_self]; rfl
      have hset : ((toHP t.hp ++ [some (⟨T.sz,0,rows,0⟩ : Blk)]).set t.hp.length (some ⟨T.sz,0,L2.map (enc true T),0⟩)) = toHP t.hp ++ [some ⟨T.sz,0,L2.map (enc true T),0⟩] := by
       rw [List.set_append_right _ _ (by rw [toHP_len]; exact Nat.le_refl _),toHP_len,Nat.sub_self]; rfl
      have g0 := Get.take (s := (toAS n t).new d ⟨T.sz,0,rows,0⟩ (.ref t.hp.length R.length 0 R.length)) (j := t.hp.length) (b := ⟨T.sz,0,rows,0⟩) (rows' := L2.map (enc true T)) (l := l') (i := j')
       (by unfold AS.new; rw [put_hp']; exact hnew) (by unfold AS.new; rw [put_hp']; simp [toAS_hp,toHP_len]; have := hn.2 j' (by simp); omega)
       (List.nodup_cons.2 ⟨fun hm => hl0 (by simp [hm]),(List.nodup_cons.1 hnd).2⟩) (by rw [List.length_map,k3,← hrows]; simp)
       (fun _ y hy => by
        obtain ⟨q,_,rfl⟩ := List.mem_map.1 hy
        rw [enc_cells,cls_len])
       (by
        unfold AS.new
        rw [put_hp']
        refine k2.mono fun i hi => ?_
        show (toHP t.hp ++ [_])[i]? = _
        rw [List.getElem?_append_left (by rw [toHP_len]; exact hn.2 i (by simp [hi]))])
      refine Get.trans g0 (StLe.get ?_)
      unfold AS.new
      rw [put_hp',put_hp]
      refine StLe.put ?_ d ?_
      ·show StLe { toAS n t with hp := setAllH ((toHP t.hp ++ [some (⟨T.sz,0,rows,0⟩ : Blk)]).set t.hp.length (some ⟨T.sz,0,L2.map (enc true T),0⟩)) (j' :: l') } _
       rw [hset]
       have s1 := StLe.new (n := n) (t := t) (.arr T true L2) (k := ⟨T.sz,0,L2.map (enc true T),0⟩) (RowLe.refl _)
       exact (s1.setAll (j' :: l')).trans (StLe.kill (j' :: l'))
      ·have e5 : hpk ((t.new [.arr T true L2]).kill (j' :: l')).hp t.hp.length = some (some R.length) := by
        rw [hpk_kill hl0]
        unfold hpk
        rw [new_len]
        simp [TB.rlen,k3]
       rw [av_own e5]
       exact Im.refl _
    ·cases h
 ·cases h
theorem eff_app {str : Bool} {sz by_ : Nat} {x y : Operand} (h : xeff n Θ t d k (.app str sz by_ x y) = some r) : ae (toAS n t) d (Kt k r n) (.app str sz by_ x y) := by
 simp only [xeff] at h
 cases hs : strC str (t.ev n y) with
 | false => rw [hs] at h; cases h
 | true =>
  rw [hs,cond_true] at h
  split at h
  ·rename_i j hx
   split at h
   ·rename_i T o L e
    have hj : j < t.hp.length := (List.getElem?_eq_some_iff.1 e).1
    cases hz : Nat.beq T.sz sz with
    | false => rw [hz] at h; cases h
    | true =>
     rw [hz,cond_true] at h
     simp only [Nat.beq_eq] at hz
     subst hz
     cases ho : (!o || T.flat) with
     | true =>
      rw [ho,cond_true] at h
      split at h
      ·rename_i L2 hL
       obtain ⟨h1,h2⟩ := chk_some h
       have h1 := h1.sm
       simp only [decide_eq_true_eq] at h1
       simp only [ae,toAS_ev]
       refine ⟨str_ok hL hs,?_⟩
       rw [srcY_spec hL,hx,av_own (hpk_arr e)]
       simp only [toAS_hp]
       rw [at_arr e]
       refine ⟨enc_false_cells L2,by trivial,by trivial,by trivial,by rw [List.length_map]; exact h1,?_⟩
       rw [List.length_map]
       refine Kt.of h2 ?_
       rw [toAS_put]
       refine StLe.put (StLe.grow hj ?_) d ?_
       ·show RowLe ⟨T.sz,0,L.map (enc o T) ++ L2.map (enc false T),0⟩ ⟨T.sz,0,(L ++ L2).map (enc o T),0⟩
        exact rowsLe (All2.append (encs_RR ho L) (encs_RR' rfl ho L2))
       ·rw [av_own (l := L.length + L2.length) (by rw [hpk_grow hj]; simp [TB.rlen])]
        exact Im.refl _
      ·cases h
     | false =>
      rw [ho,cond_false] at h
      simp only [Bool.or_eq_false_iff,Bool.not_eq_false'] at ho
      obtain ⟨rfl,_⟩ := ho
      split at h
      ·rename_i L2 l hL
       cases hn : nodupB (j :: l) with
       | false => rw [hn] at h; cases h
       | true =>
        rw [hn,cond_true] at h
        obtain ⟨h1,h2⟩ := chk_some h
        have h1 := h1.sm
        simp only [decide_eq_true_eq] at h1
        obtain ⟨j',l',R,e1,rfl,e3,e4⟩ := rowsOwn_spec hL
        obtain ⟨k1,k2,k3⟩ := asRowsO_spec t.hp T e4
        have hnd := nodupB_iff hn
        have hj' : j' < t.hp.length := (List.getElem?_eq_some_iff.1 e3).1
        have hjl : j ∉ j' :: l' := (List.nodup_cons.1 hnd).1
        simp only [ae,toAS_ev,e1]
        rw [e1] at hs
        rw [av_own (hpk_rws e3),hx,av_own (hpk_arr e)]
        refine ⟨strP_own (v := R.length) (o := 0) (l := R.length) hs,?_⟩
        simp only [srcRows,toAS_hp]
        rw [at_rws e3]
        simp only [if_true]
        rw [sub_all _ _ (by simp),at_arr e]
        refine ⟨k1,by trivial,by trivial,by trivial,by rw [List.length_map,← k3]; exact h1,?_⟩
        rw [List.length_map]
        refine ⟨_,h2,?_⟩
        rw [toAS_put]
        generalize hrows : (R.map fun cs => mkr T.ag (cs.map (cav t.hp))) = rows at *
        show Get (AS.put { toAS n t with hp := (toHP t.hp).set j (some ⟨T.sz,0,L.map (enc true T) ++ rows,0⟩) } d (.ref j (L.length + R.length) 0 (L.length + R.length))) _
        have hset : ((toHP t.hp).set j (some (⟨T.sz,0,L.map (enc true T) ++ rows,0⟩ : Blk))).set j (some ⟨T.sz,0,(L ++ L2).map (enc true T),0⟩) = (toHP t.hp).set j (some ⟨T.sz,0,(L ++ L2).map (enc true T),0⟩) := List.set_set ..
        have g0 := Get.take (s := AS.put { toAS n t with hp := (toHP t.hp).set j (some ⟨T.sz,0,L.map (enc true T) ++ rows,0⟩) } d (.ref j (L.length + R.length) 0 (L.length + R.length))) (j := j) (b := ⟨T.sz,0,L.map (enc true T) ++ rows,0⟩) (rows' := (L ++ L2).map (enc true T)) (l := l') (i := j')
         (by
          rw [put_hp']
          show ((toHP t.hp).set j _)[j]? = _
          rw [List.getElem?_set,if_pos rfl,if_pos (by rw [toHP_len]; exact hj)])
         (by rw [put_hp']; simp [toHP_len]; exact hj')
         (List.nodup_cons.2 ⟨fun hm => hjl (by simp [hm]),(List.nodup_cons.1 (List.nodup_cons.1 hnd).2).2⟩) (by simp [k3,← hrows])
         (fun _ y hy => by
          obtain ⟨q,_,rfl⟩ := List.mem_map.1 hy
          rw [enc_cells,cls_len])
         (by
          rw [put_hp']
          simp only [List.flatMap_append,List.map_append]
          refine Ab.append (l := []) (Ab.refl _ _) (k2.mono fun i hi => ?_)
          show ((toHP t.hp).set j _)[i]? = _
          rw [List.getElem?_set,if_neg (fun e => hjl (by rw [e]; simp [hi]))])
        refine Get.trans g0 (StLe.get ?_)
        rw [put_hp',put_hp]
        refine StLe.put ?_ d ?_
        ·show StLe { toAS n t with hp := setAllH (((toHP t.hp).set j (some (⟨T.sz,0,L.map (enc true T) ++ rows,0⟩ : Blk))).set j (some ⟨T.sz,0,(L ++ L2).map (enc true T),0⟩)) (j' :: l') } _
         rw [hset]
         have s1 := StLe.grow (n := n) (t := t) (j := j) (b := .arr T true (L ++ L2)) hj (k := ⟨T.sz,0,(L ++ L2).map (enc true T),0⟩) (RowLe.refl _)
         exact (s1.setAll (j' :: l')).trans (StLe.kill (j' :: l'))
        ·rw [av_own (l := L.length + R.length) (by rw [hpk_kill hjl,hpk_grow hj]; simp [TB.rlen,k3])]
         exact Im.refl _
      ·cases h
   ·rename_i T L e
    have hj : j < t.hp.length := (List.getElem?_eq_some_iff.1 e).1
    cases hz : (Nat.beq T.sz sz && dIn d n) with
    | false => rw [hz] at h; cases h
    | true =>
     rw [hz,cond_true] at h
     simp only [Bool.and_eq_true,Nat.beq_eq] at hz
     obtain ⟨hz,hd⟩ := hz
     subst hz
     obtain ⟨d',rfl,hdn⟩ : ∃ d',d = some d' ∧ d' < n := by
      cases d with
      | none => cases hd
      | some d' =>
       simp only [dIn,Nat.blt_eq] at hd
       exact ⟨d',rfl,hd⟩
     split at h
     ·rename_i L2 hL
      obtain ⟨h1,h2⟩ := chk_some h
      have h1 := h1.sm
      simp only [decide_eq_true_eq] at h1
      simp only [ae,toAS_ev]
      refine ⟨str_ok hL hs,?_⟩
      rw [srcY_spec hL,hx,av_own (hpk_log e)]
      simp only [toAS_hp]
      rw [at_log e]
      refine ⟨enc_false_cells L2,by trivial,by trivial,by trivial,by rw [List.length_map]; exact h1,?_⟩
      rw [List.length_map]
      refine ⟨_,h2,?_⟩
      rw [toAS_put]
      let rows := L.map (enc false T) ++ L2.map (enc false T)
      have hrl : rows.length = L.length + L2.length := by simp [rows]
      have hre : rows = (L ++ L2).map (enc false T) := by simp [rows]
      show Get (AS.put { toAS n t with hp := (toHP t.hp).set j (some ⟨T.sz,L.length,rows,0⟩) } (some d') (.ref j (L.length + L2.length) 0 (L.length + L2.length))) _
      rw [← hrl]
      have g0 := Get.frz (s := AS.put { toAS n t with hp := (toHP t.hp).set j (some ⟨T.sz,L.length,rows,0⟩) } (some d') (.ref j rows.length 0 rows.length)) (j := j) (k := d') (b := ⟨T.sz,L.length,rows,0⟩)
       (by
        show ((toHP t.hp).set j _)[j]? = _
        rw [List.getElem?_set,if_pos rfl,if_pos (by rw [toHP_len]; exact hj)])
       (by rw [hre]; exact enc_false_ci T _)
       (by
        show ((toAS n t).sl.set d' _).getD d' .any = _
        rw [List.getD_eq_getElem?_getD,List.getElem?_set,if_pos rfl,if_pos (by rw [toAS_len]; exact hdn)]; rfl)
      refine Get.trans g0 (StLe.get ?_)
      have e1 : (AS.put { (AS.put { toAS n t with hp := (toHP t.hp).set j (some ⟨T.sz,L.length,rows,0⟩) } (some d') (.ref j rows.length 0 rows.length)) with hp := setAllH ((toHP t.hp).set j (some ⟨T.sz,L.length,rows,0⟩)) [j] ++ [some ⟨T.sz,rows.length,rows,rows.length⟩] } (some d') (.ref ((toHP t.hp).set j (some (⟨T.sz,L.length,rows,0⟩ : Blk))).length rows.length 0 rows.length) : AS)
        = AS.put { toAS n t with hp := setAllH (toHP t.hp) [j] ++ [some ⟨T.sz,rows.length,rows,rows.length⟩] } (some d') (.ref t.hp.length rows.length 0 rows.length) := by
       simp only [AS.put,setAllH,List.set_set,List.length_set,toHP_len]
      refine Eq.subst (motive := fun s => StLe s _) e1.symm ?_
      refine StLe.put ?_ (some d') ?_
      ·refine ((StLe.kill (n := n) (t := t) [j]).app [some ⟨T.sz,rows.length,rows,rows.length⟩]).trans ?_
       rw [toAS_hp]
       refine StLe.new (n := n) (t := t.kill [j]) (.log T (L ++ L2)) ?_
       have : (⟨T.sz,rows.length,rows,rows.length⟩ : Blk) = tb ((t.kill [j]).new [.log T (L ++ L2)]).hp (.log T (L ++ L2)) := by
        simp only [tb,hre,List.length_map]
       rw [this]; exact RowLe.refl _
      ·have hkl : (t.kill [j]).hp.length = t.hp.length := by show (setAll (fltH _ t.hp) [j]).length = _; simp [setAll,fltH_len]
       have hun : hpk ((t.kill [j]).new [.log T (L ++ L2)]).hp t.hp.length = some (some rows.length) := by
        have : ((t.kill [j]).new [.log T (L ++ L2)]).hp[t.hp.length]? = some (some (.log T (L ++ L2))) := by rw [← hkl]; exact new_len (t := t.kill [j]) _
        rw [hpk_log this,hrl,List.length_append]
       rw [av_own hun]
       exact Im.refl _
     ·cases h
   ·cases h
  ·rename_i hx
   exact eff_appNew (by rw [hx]; rfl) (fun j v o l e => by rw [hx] at e; cases e) hs h
  ·rename_i hx
   exact eff_appNew (by rw [hx]; rfl) (fun j v o l e => by rw [hx] at e; cases e) hs h
  ·cases h
end
section
variable {n : Nat} {t : TS} {C : Ctx} {a : Act} {w : World}
theorem arrz_conc (x : Operand) (hc : Conc C (toAS n t) a w) : Conc C (toAS n (arrz n t x)) a w := by
 unfold arrz
 split
 case h_2 => exact hc
 rename_i j _
 split
 case h_2 => exact hc
 rename_i T R e
 split
 case h_2 => exact hc
 rename_i L l e4
 cases hn : nodupB (j :: l) with
 | false => exact hc
 | true =>
  simp only [cond_true]
  have hnd := nodupB_iff hn
  have hj : j < t.hp.length := (List.getElem?_eq_some_iff.1 e).1
  obtain ⟨k1,k2,k3⟩ := asRowsO_spec t.hp T e4
  have hat : (toAS n t).hp[j]? = some (some (tb t.hp (.rws T R))) := by rw [toAS_hp,toHP_get,e]; rfl
  have g := Get.absorb (s := toAS n t) hat hnd (rows' := L.map (enc true T)) (by simp [tb,k3]) (fun _ y hy => by
   obtain ⟨q,_,rfl⟩ := List.mem_map.1 hy
   rw [enc_cells,cls_len]; rfl) (by rw [toAS_hp]; exact k2)
  refine StLe.conc ?_ (g _ _ _ hc)
  have e1 : toAS n { t with hp := t.hp.set j (some (.arr T true L)) } = { toAS n t with hp := (toHP t.hp).set j (some ⟨T.sz,0,L.map (enc true T),0⟩) } := toAS_setB hj (by simp [hpk,e,TB.rlen,k3])
  have := StLe.kill (n := n) (t := { t with hp := t.hp.set j (some (.arr T true L)) }) l
  rw [e1] at this
  have e2 : toHP (t.hp.set j (some (.arr T true L))) = (toHP t.hp).set j (some ⟨T.sz,0,L.map (enc true T),0⟩) := congrArg AS.hp e1
  rw [e2] at this
  exact this
theorem arrN_conc (x : Operand) (hc : Conc C (toAS n t) a w) : Conc C (toAS n (arrN n t x)) a w := by
 unfold arrN
 split
 ·split
  ·rename_i T _ _
   cases T.flat
   ·exact arrz_conc x hc
   ·exact hc
  ·exact hc
 ·exact hc
theorem arrC_conc : ∀ (xs : List Operand) {t : TS},Conc C (toAS n t) a w → Conc C (toAS n (arrC n t xs)) a w
 | [],_,hc => hc
 | x :: xs,_,hc => arrC_conc xs (arrN_conc x hc)
theorem prep_conc {Θ : TyO} (no : NO) (hc : Conc C (toAS n t) a w) : Conc C (toAS n (prep Θ n t no)) a w := by
 have h1 : ∀ (c : Bool),Conc C (toAS n (bif c then settle t else t)) a w := fun c => by
  cases c
  ·exact hc
  ·exact settle_conc hc
 unfold prep
 split
 ·exact arrz_conc _ (h1 _)
 ·exact seeO_conc _ (ownz_conc _ (h1 _))
 ·exact seeP_conc _ _ hc
 ·exact seeQ_conc _ _ hc
 ·exact arrC_conc _ (h1 _)
 ·rename_i m ag x
  cases (Nat.beq m 1 && !ag) with
  | false => exact takeR_conc m x (h1 _)
  | true => exact takeT_conc x (h1 _)
 ·exact h1 _
end
end Go.Proofs.Ytkmhopbmpeiofaa.Nx
namespace Go.Proofs.Ytkmhopbmpeiofaa.Nx
open Go Go.RowKit
theorem vw_rows (H : HP) (n : Nat) (T : Ty) (o : Bool) (L : List (Den T)) : (L.map (enc o T)).map (vw H n) = L.map (enc false T) := by
 rw [List.map_map]
 exact List.map_congr_left fun x _ => vw_mkr H n T o x
theorem vw_agg (H : HP) (n : Nat) (cs : List AV) : vw H (n + 1) (.agg cs) = .agg (cs.map (vw H n)) := by
 cases hc : ci (.agg cs) with
 | true =>
  rw [vw_ci hc,vmap_ci (by simpa [ci] using hc)]
 | false => simp only [vw,hc,Bool.false_eq_true,if_false]
theorem vw_fn (H : HP) (n : Nat) (f : FuncId) (cs : List AV) : vw H (n + 1) (.fn f cs) = .fn f (cs.map (vw H n)) := by
 cases hc : ci (.fn f cs) with
 | true =>
  rw [vw_ci hc,vmap_ci (by simpa [ci] using hc)]
 | false => simp only [vw,hc,Bool.false_eq_true,if_false]
theorem vw_ipt (H : HP) (n : Nat) (cs : List AV) : vw H (n + 1) (.ipt cs) = .ipt (cs.map (vw H n)) := by
 cases hc : ci (.ipt cs) with
 | true =>
  rw [vw_ci hc,vmap_ci (by simpa [ci] using hc)]
 | false => simp only [vw,hc,Bool.false_eq_true,if_false]
section
variable {hp : THP}
theorem vw_own {j : Nat} {A : Ty} {o : Bool} {L : List (Den A)} (e : hp[j]? = some (some (.arr A o L))) (n : Nat) : vw (toHP hp) (n + 1) (av hp (.own j)) = enc false (.sl A) L := by
 rw [av_own (hpk_arr e)]
 have hc : ci (.ref j L.length 0 L.length) = false := rfl
 simp only [vw,hc,Bool.false_eq_true,if_false]
 rw [at_arr e]
 simp only
 rw [sub_all _ _ (by simp),vw_rows]
 rfl
theorem vw_sub {j off len : Nat} {A : Ty} {o : Bool} {L : List (Den A)} (e : hp[j]? = some (some (.arr A o L))) (n : Nat) : vw (toHP hp) (n + 1) (av hp (.sub j off len)) = enc false (.sl A) ((L.drop off).take len) := by
 have : av hp (.sub j off len) = .ref j L.length off len := by simp only [av,hpk_arr e]
 rw [this]
 have hc : ci (.ref j L.length off len) = false := rfl
 simp only [vw,hc,Bool.false_eq_true,if_false]
 rw [at_arr e]
 simp only
 rw [sub_dt,← List.map_drop,← List.map_take,vw_rows]
 rfl
theorem asArgC_spec : ∀ (T : Ty) (cs : List TV) (y : Den T) (r : List TV),asArg.asArgC hp T cs = some (y,r) →
  ∃ c1,cs = c1 ++ r ∧ (∀ n,All2 Im (c1.map fun c => vw (toHP hp) (n + 1) (av hp c)) (cls false T y)) ∧ ∀ c ∈ c1,c.c1 hp = true := by
 intro T
 induction T with
 | ar n k =>
  intro cs y r h
  cases cs with
  | nil => cases h
  | cons c cs => cases h
 | i k =>
  intro cs y r h
  cases cs with
  | nil => cases h
  | cons c cs =>
   simp only [asArg.asArgC] at h
   split at h
   ·split at h
    ·rename_i hz
     cases h
     obtain ⟨rfl,hz⟩ := cst_some hz
     cases hz
     exact ⟨[_],rfl,fun n => .cons (by show Im (vw (toHP hp) (n + 1) (av hp _)) _; rw [vw_ci rfl]; exact .refl _) .nil,by simp [TV.c1]⟩
    ·cases h
   ·cases h
 | bl =>
  intro cs y r h
  cases cs with
  | nil => cases h
  | cons c cs =>
   simp only [asArg.asArgC] at h
   split at h
   ·split at h
    ·rename_i hz
     cases h
     obtain ⟨rfl,hz⟩ := cst_some hz
     cases hz
     exact ⟨[_],rfl,fun n => .cons (by show Im (vw (toHP hp) (n + 1) (av hp _)) _; rw [vw_ci rfl]; exact .refl _) .nil,by simp [TV.c1]⟩
    ·cases h
   ·cases h
 | tx =>
  intro cs y r h
  cases cs with
  | nil => cases h
  | cons c cs =>
   simp only [asArg.asArgC] at h
   split at h
   ·split at h
    ·rename_i hz
     cases h
     obtain ⟨rfl,hz⟩ := cst_some hz
     cases hz
     exact ⟨[_],rfl,fun n => .cons (by show Im (vw (toHP hp) (n + 1) (av hp _)) _; rw [vw_ci rfl]; exact .refl _) .nil,by simp [TV.c1]⟩
    ·cases h
   ·cases h
 | sv t _ =>
  intro cs y r h
  cases cs with
  | nil => cases h
  | cons c cs =>
   simp only [asArg.asArgC] at h
   split at h
   ·split at h
    ·rename_i hz
     cases h
     obtain ⟨rfl,hz⟩ := cst_some hz
     cases hz
     exact ⟨[_],rfl,fun n => .cons (by show Im (vw (toHP hp) (n + 1) (enc false (.sl t) _)) _; rw [vw_ci (ci_enc (.sl t) _)]; exact .refl _) .nil,by simp [TV.c1]⟩
    ·cases h
   ·cases h
    exact ⟨[_],rfl,fun n => .cons (by show Im (vw (toHP hp) (n + 1) (av hp _)) _; rw [vw_ci rfl]; exact im_nil_sl false _) .nil,by simp [TV.c1]⟩
   ·cases h
 | sl t _ =>
  intro cs y r h
  cases cs with
  | nil => cases h
  | cons c cs =>
   simp only [asArg.asArgC] at h
   split at h
   ·split at h
    ·rename_i A x _ z hz
     cases h
     have hz := cstU_enc hz
     have h1 : (TV.v A x).c1 hp = true := by
      cases A <;> first | rfl | (exfalso; revert hz; simp [enc,Ty.ag,mkr,cls])
     exact ⟨[_],rfl,fun n => .cons (by show Im (vw (toHP hp) (n + 1) (enc false _ _)) _; rw [vw_ci (ci_enc _ _),hz]; exact .refl _) .nil,by simpa using h1⟩
    ·cases h
   ·split at h
    ·rename_i e
     split at h
     ·rename_i hz
      cases h
      have hz := cstU_enc hz
      exact ⟨[_],rfl,fun n => .cons (by show Im (vw (toHP hp) (n + 1) (av hp _)) _; rw [vw_own e,hz]; exact .refl _) .nil,by simp [TV.c1,isArr,hpk_arr e]⟩
     ·cases h
    ·cases h
   ·split at h
    ·rename_i e
     split at h
     ·rename_i hz
      cases h
      have hz := cstU_enc hz
      exact ⟨[_],rfl,fun n => .cons (by show Im (vw (toHP hp) (n + 1) (av hp _)) _; rw [vw_sub e,hz]; exact .refl _) .nil,by simp [TV.c1,isArr,hpk_arr e]⟩
     ·cases h
    ·cases h
   ·cases h
    exact ⟨[_],rfl,fun n => .cons (by show Im (vw (toHP hp) (n + 1) (av hp _)) _; rw [vw_ci rfl]; exact im_nil_sl false _) .nil,by simp [TV.c1]⟩
   ·cases h
 | pr a b iha ihb =>
  intro cs y r h
  simp only [asArg.asArgC] at h
  split at h
  ·rename_i h1
   split at h
   ·rename_i h2
    cases h
    obtain ⟨c1,rfl,k1,k2⟩ := iha _ _ _ h1
    obtain ⟨c2,rfl,k3,k4⟩ := ihb _ _ _ h2
    refine ⟨c1 ++ c2,by simp,fun n => ?_,fun c hc => ?_⟩
    ·rw [List.map_append]; exact All2.append (k1 n) (k3 n)
    ·rcases List.mem_append.1 hc with h | h
     ·exact k2 c h
     ·exact k4 c h
   ·cases h
  ·cases h
 | st t ih =>
  intro cs y r h
  exact ih cs y r h
theorem asArg_spec {T : Ty} {x : TV} {y : Den T} (h : asArg hp T x = some y) (n : Nat) : Im (vw (toHP hp) (n + 2) (av hp x)) (enc false T y) := by
 unfold asArg at h
 split at h
 ·split at h
  ·rename_i hz
   cases h
   obtain ⟨c1,e,k1,_⟩ := asArgC_spec _ _ _ _ hz
   rw [List.append_nil] at e
   subst e
   simp only [av,avL_map]
   rw [vw_agg,List.map_map]
   exact Im.agg (k1 n)
  ·cases h
 ·have e := (arOf_cls hp h).1
  have e2 : av hp (.ag ‹List TV›) = enc false (.ar _ _) y := by
   simp only [av,avL_map,e]; rfl
  rw [e2,vw_ci (ci_enc _ _)]
  exact .refl _
 ·have hz := cstU_enc h
  simp only [av]
  rw [vw_ci (ci_enc _ _),hz]
  exact .refl _
 ·split at h
  ·rename_i e
   have hz := cstU_enc h
   rw [vw_own e,hz]; exact .refl _
  ·cases h
 ·split at h
  ·rename_i e
   have hz := cstU_enc h
   rw [vw_sub e,hz]; exact .refl _
  ·cases h
 ·cases h
  simp only [av]
  rw [vw_ci rfl]
  exact im_nil_sl false _
 ·cases h
  simp only [av]
  have hc : ci (.sl true 0 []) = false := rfl
  simp only [vw,hc,Bool.false_eq_true,if_false,List.map_nil]
  intro w N M v r
  cases r with
  | slI0 => exact .slI0 _ _ _
  | slI => exact .slI0 _ _ _
 ·cases h
theorem av_cap : ∀ (p : PK) (a : DenP p),(capT p a).map (av hp) = (capT p a).map (av []) := by
 intro p
 induction p with
 | un | d | ip => intro a; rfl
 | fn f c ih => intro a; simp only [capT,List.map_cons,List.map_nil,av,avL_map,ih]
 | pr a b iha ihb => intro x; simp only [capT,List.map_append,iha,ihb]
theorem asPs_spec : ∀ (p : PK) (xs : List TV) (a : DenP p) (r : List TV),asPs hp p xs = some (a,r) → ∀ n,need p ≤ n →
  ∃ x1,xs = x1 ++ r ∧ All2 Im (x1.map fun x => vw (toHP hp) n (av hp x)) ((capT p a).map (av [])) := by
 intro p
 induction p with
 | un =>
  intro xs a r h n hn
  simp only [asPs,Option.some.injEq,Prod.mk.injEq,true_and] at h
  exact ⟨[],by rw [h]; rfl,.nil⟩
 | d T =>
  intro xs a r h n hn
  cases xs with
  | nil => cases h
  | cons x xs =>
   simp only [asPs] at h
   split at h
   ·rename_i hz
    cases h
    obtain ⟨n,rfl⟩ : ∃ k,n = k + 2 := ⟨n - 2,by simp only [need] at hn; omega⟩
    exact ⟨[x],rfl,.cons (asArg_spec hz n) .nil⟩
   ·cases h
 | ip T =>
  intro xs a r h n hn
  cases xs with
  | nil => cases h
  | cons x xs =>
   obtain ⟨n,rfl⟩ : ∃ k,n = k + 2 := ⟨n - 2,by simp only [need] at hn; omega⟩
   simp only [asPs] at h
   split at h
   ·rename_i A y off
    cases hb : Nat.beq off 0 with
    | false => rw [hb] at h; cases h
    | true =>
     rw [hb,cond_true] at h
     simp only [Nat.beq_eq] at hb
     subst hb
     split at h
     ·rename_i hz
      cases h
      obtain ⟨rfl,hz⟩ := cst_some hz
      cases hz
      refine ⟨[_],rfl,.cons ?_ .nil⟩
      show Im (vw (toHP hp) (n + 2) (av hp (.ipv _ _ 0))) _
      rw [vw_ci (by simp only [av,ci,List.drop_zero]; exact ciL_cls _ _)]
      exact .refl _
     ·cases h
   ·split at h
    ·rename_i hz
     cases h
     obtain ⟨c1,e,k1,_⟩ := asArgC_spec _ _ _ _ hz
     rw [List.append_nil] at e
     subst e
     refine ⟨[_],rfl,.cons ?_ .nil⟩
     show Im (vw (toHP hp) (n + 1 + 1) (av hp (.ipt _))) (av [] (.ipv T _ 0))
     simp only [av,avL_map]
     rw [vw_ipt,List.map_map,List.drop_zero]
     exact Im.ipt (k1 n)
    ·cases h
   ·rename_i j row off
    cases hb : (Nat.beq row 0 && Nat.beq off 0) with
    | false => rw [hb] at h; cases h
    | true =>
     rw [hb,cond_true] at h
     simp only [Bool.and_eq_true,Nat.beq_eq] at hb
     obtain ⟨rfl,rfl⟩ := hb
     split at h
     ·rename_i cs e
      split at h
      ·rename_i hz
       cases h
       obtain ⟨c1,e1,k1,k2⟩ := asArgC_spec _ _ _ _ hz
       rw [List.append_nil] at e1
       subst e1
       refine ⟨[_],rfl,.cons ?_ .nil⟩
       have hav : av hp (.ptr j 0 0) = .ptr j 1 0 0 := by simp only [av,hpk_box e]
       show Im (vw (toHP hp) (n + 2) (av hp (.ptr j 0 0))) _
       rw [hav]
       have hc : ci (.ptr j 1 0 0) = false := rfl
       simp only [vw,hc,Bool.false_eq_true,if_false]
       rw [at_box e]
       simp only [Nat.lt_one_iff,if_true,List.getD_cons_zero,AV.cells,List.drop_zero,av]
       have hcv : cs.map (cav hp) = cs.map (av hp) := List.map_congr_left fun c hc => by
        unfold cav
        rw [k2 c hc]; rfl
       rw [hcv,List.map_map]
       exact Im.ipt (k1 n)
      ·cases h
     ·cases h
   ·cases h
 | fn f c ih =>
  intro xs a r h n hn
  cases xs with
  | nil => cases h
  | cons x xs =>
   obtain ⟨n,rfl⟩ : ∃ k,n = k + 1 := ⟨n - 1,by simp only [need] at hn; omega⟩
   simp only [asPs] at h
   split at h
   ·rename_i g cs
    cases hb : Nat.beq f g with
    | false => rw [hb] at h; cases h
    | true =>
     rw [hb,cond_true] at h
     simp only [Nat.beq_eq] at hb
     subst hb
     split at h
     ·rename_i hz
      cases h
      obtain ⟨x1,e,k⟩ := ih _ _ _ hz n (by simp only [need] at hn; omega)
      rw [List.append_nil] at e
      subst e
      refine ⟨[_],rfl,.cons ?_ .nil⟩
      show Im (vw (toHP hp) (n + 1) (av hp (.fn f _))) (av [] (.fn f _))
      simp only [av,avL_map]
      rw [vw_fn,List.map_map]
      exact Im.fn k
     ·cases h
   ·cases h
 | pr a b iha ihb =>
  intro xs x r h n hn
  simp only [need] at hn
  simp only [asPs] at h
  split at h
  ·rename_i h1
   split at h
   ·rename_i h2
    cases h
    obtain ⟨x1,rfl,k1⟩ := iha _ _ _ h1 n (by omega)
    obtain ⟨x2,rfl,k2⟩ := ihb _ _ _ h2 n (by omega)
    refine ⟨x1 ++ x2,by simp,?_⟩
    simp only [capT,List.map_append]
    exact All2.append k1 k2
   ·cases h
  ·cases h
end
end Go.Proofs.Ytkmhopbmpeiofaa.Nx
