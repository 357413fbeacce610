/- The effects of the evaluator: sound, with no condition beyond those each lemma names. -/
import Derived.Test.YtkmhopbmpeiofaaNxj
set_option linter.unusedVariables false
set_option linter.unusedSimpArgs false
namespace Go.Proofs.Ytkmhopbmpeiofaa.Nx
open Go Go.RowKit
section
variable {Ω : Type} {r : Ω} {n : Nat} {Θ : TyO} {t : TS} {d : Option Nat} {k : TS → Option Ω}
def Kt (k : TS → Option Ω) (r : Ω) (n : Nat) (s : AS) : Prop := ∃ t',k t' = some r ∧ Get s (toAS n t')
theorem Kt.of {s : AS} {t' : TS} (h : k t' = some r) (hs : StLe s (toAS n t')) : Kt k r n s := ⟨t',h,hs.get⟩
theorem new_put {kb : Blk} {b : TB} {x : AV} {y : TV} (hk : RowLe kb (tb (t.new [b]).hp b)) (hx : Im x (av (t.new [b]).hp y)) (h : k ((t.new [b]).put d y) = some r) :
  Kt k r n ((toAS n t).new d kb x) := by
 refine Kt.of h ?_
 rw [toAS_put]
 exact (StLe.new b hk).put d hx
theorem new_len (b : TB) : (t.new [b]).hp[t.hp.length]? = some (some b) := by
 unfold TS.new
 show ((fltH _ t.hp) ++ [some b])[t.hp.length]? = _
 rw [List.getElem?_append_right (by rw [fltH_len]; exact Nat.le_refl _),fltH_len,Nat.sub_self]; rfl
theorem av_own {hp : THP} {j : Nat} {l : Nat} (h : hpk hp j = some (some l)) : av hp (.own j) = .ref j l 0 l := by simp only [av,h]
theorem cut_hpk (b : TB) : ∀ j,Nat.blt j t.hp.length = true → hpk (t.new [b]).hp j = hpk t.hp j := fun j hj => by
 rw [Nat.blt_eq] at hj
 rw [← hpk_flt (fun i => Nat.blt i t.hp.length) t.hp j]
 unfold hpk TS.new
 rw [List.getElem?_append_left (by rw [fltH_len]; exact hj)]
theorem cav_leaf {hp : THP} {c : AV} (h : isVal c = true) : Im c (cav hp (cAVt c)) := by
 cases c <;> first | cases h | skip
 rename_i v
 unfold cav
 cases hc : TV.c1 hp (cAVt (.val v)) with
 | false => exact .any _
 | true =>
  simp only [cond_true]
  show Im _ (av hp (leaf v))
  rw [av_leaf]; exact .refl _
theorem all2_vals {hp : THP} : ∀ {z : List AV},z.all isVal = true → All2 Im z ((z.map cAVt).map (cav hp))
 | [],_ => .nil
 | c :: z,h => by
  simp only [List.all_cons,Bool.and_eq_true] at h
  exact .cons (cav_leaf h.1) (all2_vals h.2)
theorem vals_bare {z : List AV} (h : z.all isVal = true) : ∀ c ∈ z,c.bare1 = true := fun c hc => by
 have := List.all_eq_true.1 h c hc
 cases c <;> first | rfl | cases this
theorem zAr_spec {m : Nat} {K : IntKind} {z : List AV} (h : zAr m K z = true) : z.length = m ∧ z = arC m K (List.replicate m 0) := by
 unfold zAr at h
 simp only [Bool.and_eq_true,Nat.beq_eq] at h
 obtain ⟨rfl,h⟩ := h
 refine ⟨rfl,List.ext_getElem (by simp [arC]) fun i h1 h2 => ?_⟩
 have h3 := List.all_eq_true.1 h z[i] (List.getElem_mem h1)
 have e : z[i] = .val (.int K 0) := by
  generalize z[i] = c at h3
  cases c with
  | val v =>
   cases v with
   | int k x =>
    simp only [Bool.and_eq_true,decide_eq_true_eq] at h3
    rw [h3.1,h3.2]
   | _ => cases h3
  | _ => cases h3
 rw [e]
 simp [arC,List.getD_eq_getElem?_getD,h1]
theorem eff_al {z : List AV} (h : xeff n Θ t d k (.al z) = some r) : ae (toAS n t) d (Kt k r n) (.al z) := by
 simp only [xeff] at h
 split at h
 ·rename_i m K e
  cases hz : zAr m K z with
  | false => rw [hz] at h; cases h
  | true =>
   rw [hz,cond_true] at h
   obtain ⟨h1,h2⟩ := zAr_spec hz
   refine new_put (b := .ara m K (List.replicate m 0)) ?_ ?_ h
   ·rw [h1]
    show RowLe _ ⟨m,0,[.agg (arC m K (List.replicate m 0))],0⟩
    rw [← h2]
    exact .refl _
   ·simp only [av,hpk,new_len,TB.rlen,toAS_hp,toHP_len]
    exact .refl _
 cases hz : z.all isVal with
 | false => rw [hz] at h; cases h
 | true =>
  rw [hz,cond_true] at h
  refine new_put (b := .box (z.map cAVt)) ?_ ?_ h
  ·refine RowLe.of (by simp [tb]) rfl rfl rfl ?_ ?_ ?_
   ·intro c hc
    simp only [List.flatMap_cons,List.flatMap_nil,List.append_nil,AV.cells] at hc
    exact vals_bare hz c hc
   ·intro _ y hy
    simp only [tb,List.mem_singleton] at hy
    subst hy; simp [AV.cells]
   ·simp only [tb,List.flatMap_cons,List.flatMap_nil,List.append_nil,AV.cells]
    exact all2_vals hz
  ·simp only [av,hpk,new_len,TB.rlen,toAS_hp,toHP_len]
   exact .refl _
theorem cs_cav {hp : THP} {m : Nat} {x : TV} (h : x.fits hp m = true) : (av hp x).cells = x.cs.map (cav hp) := by
 rw [← (fits_spec h).2]
 refine List.map_congr_left fun c hc => ?_
 unfold cav
 rw [fits_c1 h c hc]; rfl
theorem all2_cut {b : TB} (cs : List TV) : All2 Im (cs.map (cav t.hp)) ((fltL (fun i => Nat.blt i t.hp.length) cs).map (cav (t.new [b]).hp)) := by
 rw [fltL_map,List.map_map]
 exact all2_map (fun x => cav_flt (cut_hpk b) x) cs
theorem eff_bx {m : Nat} {x : Operand} (h : xeff n Θ t d k (.bx m x) = some r) : ae (toAS n t) d (Kt k r n) (.bx m x) := by
 simp only [xeff] at h
 split at h
 ·rename_i m' K L e
  cases hm : Nat.beq m m' with
  | false => rw [hm] at h; cases h
  | true =>
   rw [hm,cond_true] at h
   simp only [Nat.beq_eq] at hm
   subst hm
   have hf : (t.ev n x).fits t.hp m = true := by rw [e]; simp [TV.fits]
   simp only [ae,toAS_ev]
   refine ⟨(fits_spec hf).1,new_put (b := .ara m K L) ?_ ?_ h⟩
   ·rw [e]
    show RowLe ⟨m,0,[.agg (enc false (.ar m K) L).cells],0⟩ ⟨m,0,[.agg (arC m K L)],0⟩
    rw [enc_cells]
    exact .refl _
   ·simp only [av,hpk,new_len,TB.rlen,toAS_hp,toHP_len]
    exact .refl _
 cases hf : (t.ev n x).fits t.hp m with
 | false => rw [hf] at h; cases h
 | true =>
  rw [hf,cond_true] at h
  simp only [ae,toAS_ev]
  refine ⟨(fits_spec hf).1,new_put (b := .box (fltL (fun i => Nat.blt i t.hp.length) (t.ev n x).cs)) ?_ ?_ h⟩
  ·rw [cs_cav hf]
   refine RowLe.of ?_ rfl rfl rfl ?_ ?_ ?_
   ·simp only [tb,fltL_map,List.length_map]
    exact fits_len hf
   ·intro c hc
    simp only [List.flatMap_cons,List.flatMap_nil,List.append_nil,AV.cells,List.mem_map] at hc
    obtain ⟨y,_,rfl⟩ := hc
    exact (cav_cell _ y).1
   ·intro _ y hy
    simp only [tb,List.mem_singleton] at hy
    subst hy
    simp only [AV.cells,List.length_map,fltL_map]
    exact fits_len hf
   ·simp only [tb,List.flatMap_cons,List.flatMap_nil,List.append_nil,AV.cells]
    exact all2_cut _
  ·simp only [av,hpk,new_len,TB.rlen,toAS_hp,toHP_len]
   exact .refl _
theorem im_own {b : TB} {l : Nat} (hb : b.rlen = some l) : Im (.ref t.hp.length l 0 l) (av (t.new [b]).hp (.own t.hp.length)) := by
 rw [av_own (l := l) (by unfold hpk; rw [new_len]; simp [hb])]
 exact .refl _
theorem bslT_spec {sz : Nat} {T : Ty} (hs : T.sz = sz) (ho : T.flat = true) : ∀ {ps : List (Nat × Operand)} {L L' : List (Den T)} {rows : List AV},bslT n t T ps L = some L' → All2 (RR true T) rows L →
  bslC (toAS n t) sz L.length ps ∧ All2 (RR true T) (bslR (toAS n t) ps rows) L' ∧ L'.length = L.length
 | [],L,L',rows,h,hr => by cases h; exact ⟨trivial,hr,rfl⟩
 | (i,x) :: ps,L,L',rows,h,hr => by
  simp only [bslT] at h
  split at h
  ·rename_i y hy
   cases hc : (Nat.blt i L.length && (t.ev n x).fits t.hp T.sz) with
   | false => rw [hc] at h; cases h
   | true =>
    rw [hc,cond_true] at h
    simp only [Bool.and_eq_true,Nat.blt_eq] at hc
    obtain ⟨k1,k2,k3⟩ := bslT_spec hs ho h (hr.set (x := (toAS n t).ev x) (y := y) (by
     show RI true T ((toAS n t).ev x).cells y
     rw [toAS_ev]
     exact (asDen_spec t.hp hy).1.o (by simpa using ho)) i)
    rw [List.length_set] at k1 k3
    refine ⟨⟨hc.1,?_,k1⟩,k2,k3⟩
    rw [toAS_ev,← hs]
    exact (fits_spec hc.2).1
  ·cases h
theorem RRw_rows {T : Ty} {hp : THP} {cs : List TV} {x : AV} (h : x.cells = cs.map (cav hp)) (hl : T.ag = false → cs.length = 1) : (mkr T.ag (cs.map (cav hp))).cells = x.cells := by
 rw [map_cav_cells,h]
 split
 ·rfl
 ·rename_i hag
  have := hl (by simpa using hag)
  match cs,this with
  | [c],_ => rfl
def RW (T : Ty) (hp : THP) (x : AV) (cs : List TV) : Prop := All2 Im x.cells (mkr T.ag (cs.map (cav hp))).cells ∧ (∀ c ∈ x.cells,c.bare1 = true) ∧ (mkr T.ag (cs.map (cav hp))).cells.length = T.sz
theorem sz_one {T : Ty} (h : T.ag = false) : T.sz = 1 := by cases T <;> first | rfl | cases h
theorem bslR_spec {sz : Nat} {T : Ty} (hs : T.sz = sz) : ∀ {ps : List (Nat × Operand)} {R R' : List (List TV)} {rows : List AV},bslR' n t sz ps R = some R' → All2 (RW T t.hp) rows R →
  bslC (toAS n t) sz R.length ps ∧ All2 (RW T t.hp) (bslR (toAS n t) ps rows) R' ∧ R'.length = R.length
 | [],R,R',rows,h,hr => by cases h; exact ⟨trivial,hr,rfl⟩
 | (i,x) :: ps,R,R',rows,h,hr => by
  simp only [bslR'] at h
  cases hc : (Nat.blt i R.length && (t.ev n x).fits t.hp sz) with
  | false => rw [hc] at h; cases h
  | true =>
   rw [hc,cond_true] at h
   simp only [Bool.and_eq_true,Nat.blt_eq] at hc
   have hcs := cs_cav hc.2
   have hm := RRw_rows (T := T) hcs fun hag => by rw [fits_len hc.2,← hs]; exact sz_one hag
   obtain ⟨k1,k2,k3⟩ := bslR_spec hs h (hr.set (x := (toAS n t).ev x) (y := (t.ev n x).cs) (by
    show RW T t.hp ((toAS n t).ev x) _
    rw [toAS_ev]
    refine ⟨by rw [hm]; exact All2.imrefl _,fun c hc' => ?_,by rw [hm,hcs,List.length_map,fits_len hc.2,hs]⟩
    rw [hcs] at hc'
    obtain ⟨y,_,rfl⟩ := List.mem_map.1 hc'
    exact (cav_cell _ y).1) i)
   rw [List.length_set] at k1 k3
   refine ⟨⟨hc.1,?_,k1⟩,k2,k3⟩
   rw [toAS_ev]
   exact (fits_spec hc.2).1
theorem RowLe.trans {a b c : Blk} (h : RowLe a b) (k : RowLe b c) : RowLe a c := by
 obtain ⟨a1,a2,a3,a4,a5,a6⟩ := h
 obtain ⟨b1,b2,b3,b4,b5,b6⟩ := k
 refine ⟨b1.trans a1,b2.trans a2,b3.trans a3,b4.trans a4,fun q => ?_,fun w N M p o K r => b6 _ _ _ _ _ _ (a6 _ _ _ _ _ _ r)⟩
 have := b5 (by rw [a1]; exact a5 q)
 rw [a1] at this; exact this
theorem rwLe {T : Ty} {hp : THP} {rows : List AV} {R : List (List TV)} (h : All2 (RW T hp) rows R) : RowLe ⟨T.sz,0,rows,0⟩ ⟨T.sz,0,R.map fun cs => mkr T.ag (cs.map (cav hp)),0⟩ := by
 refine RowLe.of rfl rfl rfl (by rw [List.length_map]; exact h.len) ?_ ?_ ?_
 ·intro c hc
  obtain ⟨r,hr,hc⟩ := List.mem_flatMap.1 hc
  obtain ⟨y,hy⟩ := h.mem_left hr
  exact hy.2.1 c hc
 ·intro _ y hy
  obtain ⟨cs,hcs,rfl⟩ := List.mem_map.1 hy
  obtain ⟨x,hx⟩ := h.mem_right hcs
  exact hx.2.2
 ·show All2 Im (rows.flatMap AV.cells) ((R.map _).flatMap AV.cells)
  induction h with
  | nil => exact .nil
  | cons h1 _ ih =>
   simp only [List.flatMap_cons,List.map_cons]
   exact All2.append h1.1 ih
theorem bslT_spec0 {sz : Nat} {T : Ty} (hs : T.sz = sz) {ps : List (Nat × Operand)} {L L' : List (Den T)} {rows : List AV} (ho : T.flat = true ∨ L = []) (h : bslT n t T ps L = some L') (hr : All2 (RR true T) rows L) :
  bslC (toAS n t) sz L.length ps ∧ All2 (RR true T) (bslR (toAS n t) ps rows) L' ∧ L'.length = L.length := by
 rcases ho with ho | rfl
 ·exact bslT_spec hs ho h hr
 ·cases ps with
  | nil => simp only [bslT,Option.some.injEq] at h; subst h; exact ⟨trivial,hr,rfl⟩
  | cons q ps =>
   obtain ⟨i,x⟩ := q
   simp only [bslT] at h
   split at h
   ·have : Nat.blt i ([] : List (Den T)).length = false := rfl
    rw [this] at h; cases h
   ·cases h
theorem eff_bsl {sz m : Nat} {ag : Bool} {z : List AV} {ps : List (Nat × Operand)} (h : xeff n Θ t d k (.bsl sz m ag z ps) = some r) : ae (toAS n t) d (Kt k r n) (.bsl sz m ag z ps) := by
 simp only [xeff] at h
 split at h
 ·rename_i T hT
  cases hc : (Nat.beq T.sz sz && (T.ag == ag)) with
  | false => rw [hc] at h; cases h
  | true =>
   rw [hc,cond_true] at h
   simp only [Bool.and_eq_true,Nat.beq_eq,beq_iff_eq] at hc
   obtain ⟨hs,rfl⟩ := hc
   cases hf : (T.flat && (zOk T z || Nat.beq m 0) || Nat.beq m 0) with
   | true =>
    rw [hf,cond_true] at h
    simp only [Bool.and_eq_true,Bool.or_eq_true,Nat.beq_eq] at hf
    split at h
    ·rename_i L hL
     have h0 : All2 (RR true T) (List.replicate m (zrow T.ag z)) (List.replicate m (dft T)) := by
      rcases hf with ⟨_,hz | rfl⟩ | rfl
      ·exact All2.replicate (R := RR true T) (zOk_spec hz).1 m
      ·exact .nil
      ·exact .nil
     obtain ⟨k1,k2,k3⟩ := bslT_spec0 hs (hf.imp (fun h => h.1) (fun h => by rw [h]; rfl)) hL h0
     rw [List.length_replicate] at k1 k3
     refine ⟨k1,?_⟩
     have hlen : L.length = m := k3
     rw [← hs,toAS_hp,toHP_len]
     have := im_own (t := t) (b := .arr T true L) (l := m) (by simp [TB.rlen,hlen])
     exact new_put (b := .arr T true L) (rowsLe k2) this h
    ·cases h
   | false =>
    rw [hf,cond_false] at h
    cases hv : z.all isVal with
    | false => rw [hv] at h; cases h
    | true =>
     rw [hv,cond_true] at h
     cases hzl : Nat.beq z.length T.sz with
     | false => rw [hzl] at h; cases h
     | true =>
     rw [hzl,cond_true] at h
     simp only [Nat.beq_eq] at hzl
     split at h
     ·rename_i R hR
      have hz0 : (zrow T.ag z).cells = z ∨ (T.ag = false ∧ ∃ c,z = [c] ∧ (zrow T.ag z).cells = [c]) := by
       unfold zrow
       cases hag : T.ag with
       | true => exact .inl rfl
       | false =>
        have h1 : z.length = 1 := by rw [hzl]; exact sz_one hag
        match z,h1,hv with
        | [c],_,hv =>
         simp only [List.all_cons,List.all_nil,Bool.and_true] at hv
         cases c <;> first | exact .inr ⟨rfl,_,rfl,rfl⟩ | cases hv
      have hzc : (zrow T.ag z).cells = z := by
       rcases hz0 with h | ⟨_,c,rfl,h⟩
       ·exact h
       ·exact h
      have h0 : All2 (RW T t.hp) (List.replicate m (zrow T.ag z)) (List.replicate m (z.map cAVt)) := by
       refine All2.replicate ?_ m
       unfold RW
       rw [hzc,map_cav_cells]
       refine ⟨?_,vals_bare hv,?_⟩
       ·split
        ·exact all2_vals hv
        ·rename_i hag
         have h1 : z.length = 1 := by rw [hzl]; exact sz_one (by simpa using hag)
         match z,h1,hv with
         | [c],_,hv => exact .cons (cav_leaf (by simpa using hv)) .nil
       ·split
        ·simp [hzl]
        ·rename_i hag
         rw [sz_one (by simpa using hag)]; rfl
      obtain ⟨k1,k2,k3⟩ := bslR_spec hs hR h0
      rw [List.length_replicate] at k1 k3
      refine ⟨k1,?_⟩
      rw [← hs,toAS_hp,toHP_len]
      have := im_own (t := t) (b := .rws T (R.map (fltL fun i => Nat.blt i t.hp.length))) (l := m) (by simp [TB.rlen,k3])
      refine new_put (b := .rws T (R.map (fltL fun i => Nat.blt i t.hp.length))) ?_ this h
      exact (rwLe k2).trans (tb_flt (cut_hpk _) (.rws T R))
     ·cases h
 ·cases h
end
end Go.Proofs.Ytkmhopbmpeiofaa.Nx
namespace Go.Proofs.Ytkmhopbmpeiofaa.Nx
open Go Go.RowKit
section
variable {Ω : Type} {r : Ω} {n : Nat} {Θ : TyO} {t : TS} {d : Option Nat} {k : TS → Option Ω}
theorem eff_mk {sz by_ : Nat} {ag : Bool} {z : List AV} {l c : Operand} (h : xeff n Θ t d k (.mk sz by_ ag z l c) = some r) : ae (toAS n t) d (Kt k r n) (.mk sz by_ ag z l c) := by
 simp only [xeff] at h
 split at h
 ·rename_i T k1 m k2 m' hT hl hc
  cases hb : (Nat.beq T.sz sz && ((T.ag == ag) && zOk T z)) with
  | false => rw [hb] at h; cases h
  | true =>
   rw [hb,cond_true] at h
   simp only [Bool.and_eq_true,Nat.beq_eq,beq_iff_eq] at hb
   obtain ⟨hs,rfl,hz⟩ := hb
   obtain ⟨h1,h2⟩ := chk_some h
   have h1 := h1.sm
   simp only [Bool.and_eq_true,decide_eq_true_eq] at h1
   obtain ⟨e1,e2,e3,e4⟩ := h1
   subst e1
   simp only [ae,toAS_ev,hl,hc]
   show m = m ∧ 0 ≤ m ∧ m * (by_ : Int) ≤ 140737488355328 ∧ m ≤ 9223372036854775807 ∧ _
   refine ⟨rfl,e2,e3,e4,?_⟩
   rw [← hs,toAS_hp,toHP_len]
   exact new_put (b := .arr T true (List.replicate m.toNat (dft T))) (rowsLe (All2.replicate (R := RR true T) (zOk_spec hz).1 _)) (im_own (by rw [TB.rlen,List.length_replicate])) h2
 ·cases h
theorem eff_csb {x : Operand} (h : xeff n Θ t d k (.csb x) = some r) : ae (toAS n t) d (Kt k r n) (.csb x) := by
 simp only [xeff] at h
 split at h
 ·rename_i s hs
  simp only [ae,toAS_ev,hs]
  show Kt k r n _
  have hsz : s.size = (byteL s).length := by unfold byteL; rw [List.length_map]; rfl
  rw [bytesAV_eq,toAS_hp,toHP_len]
  refine new_put (b := .arr (.i .u8) true (byteL s)) ?_ (im_own (by rw [TB.rlen,hsz])) h
  exact RowLe.refl _
 ·cases h
theorem cpy_go {x y : Operand} {j off : Nat} {len : Option Nat} {K : IntKind} {o : Bool} {L : List Int} (e : t.hp[j]? = some (some (.arr (.i K) o L))) (ha : av t.hp (t.ev n x) = .ref j L.length off (len.getD L.length))
  (hle : len = none → off = 0) (h : cpyT t d k j off len (t.ev n y) = some r) : ae (toAS n t) d (Kt k r n) (.cpy x y) := by
 have hj : j < t.hp.length := (List.getElem?_eq_some_iff.1 e).1
 unfold cpyT at h
 rw [e] at h
 simp only at h
 split at h
 ·rename_i L2 hs
  obtain ⟨h1,h2⟩ := chk_some h
  have hle' : off + len.getD (List.length (α := Int) L) ≤ List.length (α := Int) L := by
   cases len with
   | none => rw [hle rfl]; simp
   | some l =>
    have h1 := h1.sm
    exact Nat.le_of_ble_eq_true h1
  simp only [ae,toAS_ev,ha,toAS_hp]
  rw [at_arr e]
  have hs2 := srcT_spec (n := n) _ hs
  refine ⟨K,L,L2,rfl,rfl,Nat.zero_le _,hs2,srcT_notStr _ hs,?_⟩
  refine Kt.of h2 ?_
  rw [toAS_put]
  refine StLe.put ?_ d (Im.refl _)
  have hl : List.length (α := Int) (cpyL L off (len.getD (List.length (α := Int) L)) L2) = List.length (α := Int) L := by
   unfold cpyL
   simp only [List.length_append,List.length_take,List.length_drop]
   omega
  refine StLe.setB hj (by rw [hpk_arr e]; show some (some (List.length (α := Int) L)) = some (some (List.length (α := Int) _)); rw [hl]) ?_
  exact RowLe.refl _
 ·cases h
theorem eff_cpy {x y : Operand} (h : xeff n Θ t d k (.cpy x y) = some r) : ae (toAS n t) d (Kt k r n) (.cpy x y) := by
 simp only [xeff] at h
 have arr : ∀ {j off : Nat} {len : Option Nat},cpyT t d k j off len (t.ev n y) = some r → ∃ K o L,t.hp[j]? = some (some (.arr (.i K) o L)) := fun {j off len} h => by
  unfold cpyT at h
  split at h
  ·rename_i K o L e; exact ⟨K,o,L,e⟩
  ·cases h
 split at h
 ·rename_i j hx
  obtain ⟨K,o,L,e⟩ := arr h
  exact cpy_go e (by rw [hx]; simp only [av,hpk_arr e]; rfl) (fun _ => rfl) h
 ·rename_i j off len hx
  obtain ⟨K,o,L,e⟩ := arr h
  exact cpy_go e (by rw [hx]; simp only [av,hpk_arr e]; rfl) (fun e => by cases e) h
 ·cases h
theorem eff_isn {neg : Bool} {x : Operand} (h : xeff n Θ t d k (.isn neg x) = some r) : ae (toAS n t) d (Kt k r n) (.isn neg x) := by
 simp only [xeff] at h
 split at h
 ·rename_i T L hL
  simp only [ae,toAS_ev,hL]
  have one : ∀ b : Bool,k (t.put d (.v .bl (neg != b))) = some r → Kt k r n ((toAS n t).put d (.val (.bool (neg != b)))) := fun b h => by
   refine Kt.of h ?_
   rw [toAS_put]
   exact StLe.refl _
  have e0 : (neg != false) = neg := by cases neg <;> rfl
  have e1 : (neg != true) = !neg := by cases neg <;> rfl
  refine ⟨trivial,fun b hb => ?_⟩
  by_cases h0 : L.length = 0
  ·rw [decide_eq_true h0,cond_true] at h
   obtain ⟨h1,h2⟩ := agree_some h
   cases b with
   | false => exact one false (by rw [e0]; exact h2)
   | true => exact one true (by rw [e1]; exact h1)
  ·rw [decide_eq_false h0,cond_false] at h
   have hb0 : b = false := by
    cases b with
    | false => rfl
    | true =>
     have := hb rfl
     have e : lenV (av t.hp (.v (.sl T) L)) = .val (.int .i64 (L.length : Nat)) := by
      show AV.val (.int .i64 ((L.map fun y => mkr T.ag (cls false T y)).length : Nat)) = _
      rw [List.length_map]
     rw [e] at this
     simp only [AV.val.injEq,Value.int.injEq,true_and] at this
     exact absurd (by exact_mod_cast this) h0
   subst hb0
   exact one false (by rw [e0]; exact h)
 ·cases h
theorem mkRow_enc {o : Bool} {T : Ty} (x : Den T) (cs : List AV) (hl : cs.length = T.sz) (hc : ∀ c ∈ cs,c.cells = [c]) : (mkRow (enc o T x) cs).cells = cs := by
 cases T with
 | st t => rfl
 | pr a b => rfl
 | ar n k => rfl
 | _ =>
  have h1 : cs.length = 1 := hl
  match cs,h1 with
  | [c],_ => exact hc c (by simp)
theorem cls_c (o : Bool) (T : Ty) (x : Den T) : ∀ c ∈ cls o T x,c.cells = [c] := fun c hc => (cls_cell1 o T x c hc).2
theorem st_rows {o : Bool} {T : Ty} {L : List (Den T)} {row off m : Nat} {y : TV} (hr : row < L.length) (hle : off + m ≤ T.sz) (hf : y.fits t.hp m = true) :
  ((mkRow ((L.map (enc o T)).getD row .any) (((L.map (enc o T)).getD row .any).cells.take off ++ ((av t.hp y).cells ++ ((L.map (enc o T)).getD row .any).cells.drop (off + m)))).cells
   = (cls o T (L.getD row (dft T))).take off ++ ((av t.hp y).cells ++ (cls o T (L.getD row (dft T))).drop (off + m))) ∧
  ((cls o T (L.getD row (dft T))).take off ++ ((av t.hp y).cells ++ (cls o T (L.getD row (dft T))).drop (off + m))).length = T.sz := by
 have hlen : ((cls o T (L.getD row (dft T))).take off ++ ((av t.hp y).cells ++ (cls o T (L.getD row (dft T))).drop (off + m))).length = T.sz := by
  have h1 := fits_len hf
  have h2 := congrArg List.length (fits_spec hf).2
  rw [List.length_map] at h2
  simp only [List.length_append,List.length_take,List.length_drop,cls_len]
  omega
 rw [getD_map (d := dft T) hr,enc_cells]
 refine ⟨mkRow_enc _ _ hlen fun c hc => ?_,hlen⟩
 rcases List.mem_append.1 hc with h | h
 ·exact cls_c o T _ c (List.mem_of_mem_take h)
 ·rcases List.mem_append.1 h with h | h
  ·rw [cs_cav hf] at h
   obtain ⟨z,_,rfl⟩ := List.mem_map.1 h
   exact (cav_cell _ z).2
  ·exact cls_c o T _ c (List.mem_of_mem_drop h)
theorem set_split {α : Type} {l : List α} {i : Nat} {x d : α} (h : i < l.length) : l.set i x = l.take i ++ x :: l.drop (i + 1) ∧ l = l.take i ++ l.getD i d :: l.drop (i + 1) := by
 constructor
 ·rw [List.set_eq_take_append_cons_drop,if_pos h]
 ·rw [List.getD_eq_getElem?_getD,List.getElem?_eq_getElem h]
  simp
theorem nodupB_iff : ∀ {l : List Nat},nodupB l = true → l.Nodup
 | [],_ => List.nodup_nil
 | x :: l,h => by
  simp only [nodupB,Bool.and_eq_true,Bool.not_eq_true'] at h
  refine List.nodup_cons.2 ⟨fun hx => ?_,nodupB_iff h.2⟩
  have : l.any (Nat.beq x) = true := List.any_eq_true.2 ⟨x,hx,by simp⟩
  rw [h.1] at this; cases this
theorem Get.absorb {s : AS} {j : Nat} {b : Blk} (hj : s.hp[j]? = some (some b)) {rows' : List AV} {l : List Nat} (hn : (j :: l).Nodup) (hlen : rows'.length = b.rows.length)
  (hcl : (∀ y ∈ b.rows,y.cells.length = b.sz) → ∀ y ∈ rows',y.cells.length = b.sz) (hab : Ab s.hp (b.rows.flatMap AV.cells) (rows'.flatMap AV.cells) l) :
  Get s { s with hp := setAllH (s.hp.set j (some { b with rows := rows' })) l } := fun _ _ _ hc => by
 obtain ⟨N,M,ℓ,hc⟩ := hc.fn
 exact hc.absorb hj hn hlen hcl hab
theorem Get.absorbP {s : AS} {d : Option Nat} {x : AV} {j : Nat} {b : Blk} (hj : j < s.hp.length) {rows' : List AV} {l : List Nat} (hn : (j :: l).Nodup) (hlen : rows'.length = b.rows.length)
  (hcl : (∀ y ∈ b.rows,y.cells.length = b.sz) → ∀ y ∈ rows',y.cells.length = b.sz) (hab : Ab (s.hp.set j (some b)) (b.rows.flatMap AV.cells) (rows'.flatMap AV.cells) l) :
  Get (AS.put { s with hp := s.hp.set j (some b) } d x) (AS.put { s with hp := setAllH (s.hp.set j (some { b with rows := rows' })) l } d x) := by
 have h0 : (s.hp.set j (some b))[j]? = some (some b) := by rw [List.getElem?_set,if_pos rfl,if_pos hj]
 have e : (s.hp.set j (some b)).set j (some { b with rows := rows' }) = s.hp.set j (some { b with rows := rows' }) := List.set_set ..
 cases d with
 | none =>
  have := Get.absorb (s := { s with hp := s.hp.set j (some b) }) h0 hn hlen hcl hab
  rw [show ({ s with hp := s.hp.set j (some b) } : AS).hp = s.hp.set j (some b) from rfl,e] at this
  exact this
 | some d =>
  have := Get.absorb (s := { sl := s.sl.set d x,hp := s.hp.set j (some b) }) h0 hn hlen hcl hab
  rw [show ({ sl := s.sl.set d x,hp := s.hp.set j (some b) } : AS).hp = s.hp.set j (some b) from rfl,e] at this
  exact this
theorem Ab.mono {hp hp' : HP} {xs ys : List AV} {l : List Nat} (h : Ab hp xs ys l) : (∀ i ∈ l,hp'[i]? = hp[i]?) → Ab hp' xs ys l := by
 induction h with
 | nil => intro _; exact .nil
 | im h1 h2 _ ih => intro hh; exact .im h1 h2 (ih hh)
 | same _ ih => intro hh; exact .same (ih hh)
 | ref h1 h2 _ ih => intro hh; exact .ref (by rw [hh _ (by simp)]; exact h1) h2 (ih fun i hi => hh i (by simp [hi]))
theorem toAS_setB {j : Nat} {b : TB} (hj : j < t.hp.length) (hr : hpk t.hp j = some b.rlen) : toAS n { t with hp := t.hp.set j (some b) } = { toAS n t with hp := (toHP t.hp).set j (some (tb t.hp b)) } := by
 have hh : ∀ i,hpk (t.hp.set j (some b)) i = hpk t.hp i := fun i => by
  by_cases hi : j = i
  ·subst hi
   rw [hr]
   unfold hpk
   rw [List.getElem?_set,if_pos rfl,if_pos hj]
  ·unfold hpk
   rw [List.getElem?_set,if_neg hi]
 unfold toAS E
 simp only [AS.mk.injEq]
 constructor
 ·congr 1
  refine List.map_congr_left fun p _ => ?_
  show (p.1,av (t.hp.set j (some b)) p.2) = _
  rw [av_congr hh]
 ·unfold toHP
  rw [List.map_set]
  congr 1
  ·refine List.map_congr_left fun c _ => ?_
   cases c with
   | none => rfl
   | some c => show some (tb _ c) = some (tb _ c); rw [tb_congr hh]
  ·show some (tb _ b) = _
   rw [tb_congr hh]
theorem set_take_drop {α : Type} {A : List α} {off : Nat} (x z : α) (h : off < A.length) : (A.set off x).take off ++ ([z] ++ (A.set off x).drop (off + 1)) = A.set off z := by
 rw [List.take_set_of_le (Nat.le_refl _),List.drop_set_of_lt (by omega),List.set_eq_take_append_cons_drop,if_pos h]; rfl
theorem arC_set {m off : Nat} {K : IntKind} {L : List Int} {v : Int} (h : off < m) : (arC m K L).take off ++ ([AV.val (.int K v)] ++ (arC m K L).drop (off + 1)) = arC m K ((padL m L).set off v) := by
 have e1 : (arC m K L).take off ++ ([AV.val (.int K v)] ++ (arC m K L).drop (off + 1)) = (arC m K L).set off (.val (.int K v)) := by
  rw [List.set_eq_take_append_cons_drop,if_pos (by rw [arC_len]; exact h)]; rfl
 rw [e1]
 refine List.ext_getElem (by simp [arC]) fun i h1 h2 => ?_
 have hi : i < m := by simpa [arC] using h2
 rw [List.getElem_set]
 by_cases hc : off = i
 ·subst hc
  simp [arC,padL,List.getD_eq_getElem?_getD,hi]
 ·rw [if_neg hc]
  simp [arC,padL,List.getD_eq_getElem?_getD,hi,hc]
theorem eff_st {m : Nat} {x y : Operand} (hrow : ∀ j row off,t.ev n x = .ptr j row off → ∀ (T : Ty) (o : Bool) (L : List (Den T)),t.hp[j]? = some (some (.arr T o L)) → row < L.length)
  (hrowh : ∀ j row off,t.ev n x = .ptr j row off → ∀ (T : Ty) (L : List (Den T)) (r o : Nat) (c : TV),t.hp[j]? = some (some (.hol T L r o c)) → row < L.length)
  (h : xeff n Θ t d k (.st m x y) = some r) : ae (toAS n t) d (Kt k r n) (.st m x y) := by
 simp only [xeff] at h
 split at h
 ·rename_i j row off hx
  split at h
  ·rename_i cs e
   have hj : j < t.hp.length := (List.getElem?_eq_some_iff.1 e).1
   cases hb : (Nat.beq row 0 && (Nat.ble (off + m) cs.length && (t.ev n y).fits t.hp m)) with
   | false => rw [hb] at h; cases h
   | true =>
    rw [hb,cond_true] at h
    simp only [Bool.and_eq_true,Nat.beq_eq] at hb
    obtain ⟨rfl,hle,hf⟩ := hb
    have hle := Nat.le_of_ble_eq_true hle
    have ha : av t.hp (.ptr j 0 off) = .ptr j 1 0 off := by simp only [av,hpk_box e]
    simp only [ae,toAS_ev,hx,ha,toAS_hp]
    rw [at_box e]
    show 0 ≤ 0 ∧ _
    refine ⟨Nat.le_refl _,(fits_spec hf).1,?_,?_⟩
    ·show off + m ≤ (cs.map (cav t.hp)).length
     rw [List.length_map]; exact hle
    ·refine Kt.of h ?_
     rw [toAS_put]
     refine StLe.put ?_ d (Im.any _)
     refine StLe.setB hj (by simp [hpk_box e,TB.rlen]) ?_
     have : RowLe ⟨cs.length,0,[AV.agg ((cs.map (cav t.hp)).take off ++ ((av t.hp (t.ev n y)).cells ++ (cs.map (cav t.hp)).drop (off + m)))],0⟩ (tb t.hp (.box (cs.take off ++ ((t.ev n y).cs ++ cs.drop (off + m))))) := by
      have hl : (cs.take off ++ ((t.ev n y).cs ++ cs.drop (off + m))).length = cs.length := by
       have := fits_len hf
       simp only [List.length_append,List.length_take,List.length_drop]; omega
      have e2 : tb t.hp (.box (cs.take off ++ ((t.ev n y).cs ++ cs.drop (off + m)))) = ⟨cs.length,0,[AV.agg ((cs.map (cav t.hp)).take off ++ ((av t.hp (t.ev n y)).cells ++ (cs.map (cav t.hp)).drop (off + m)))],0⟩ := by
       simp only [tb,hl,cs_cav hf,List.map_append,List.map_take,List.map_drop]
      rw [e2]; exact .refl _
     exact this
  ·rename_i m' K L e
   have hj : j < t.hp.length := (List.getElem?_eq_some_iff.1 e).1
   cases hb0 : Nat.beq row 0 with
   | false => rw [hb0] at h; cases h
   | true =>
    rw [hb0,cond_true] at h
    simp only [Nat.beq_eq] at hb0
    subst hb0
    have ha : av t.hp (.ptr j 0 off) = .ptr j 1 0 off := by simp only [av,hpk_ara e]
    have fin : ∀ L2 : List Int,(t.ev n y).fits t.hp m = true → off + m ≤ m' → (arC m' K L).take off ++ ((av t.hp (t.ev n y)).cells ++ (arC m' K L).drop (off + m)) = arC m' K L2 →
      k (({ t with hp := t.hp.set j (some (.ara m' K L2)) } : TS).put d .any) = some r → ae (toAS n t) d (Kt k r n) (.st m x y) := by
     intro L2 hf hle e2 h
     simp only [ae,toAS_ev,hx,ha,toAS_hp]
     rw [at_ara e]
     show 0 ≤ 0 ∧ _
     refine ⟨Nat.le_refl _,(fits_spec hf).1,?_,?_⟩
     ·show off + m ≤ (arC m' K L).length
      rw [arC_len]; exact hle
     ·refine Kt.of h ?_
      rw [toAS_put]
      refine StLe.put ?_ d (Im.any _)
      refine StLe.setB hj (by simp [hpk_ara e,TB.rlen]) ?_
      have : RowLe ⟨m',0,[AV.agg ((arC m' K L).take off ++ ((av t.hp (t.ev n y)).cells ++ (arC m' K L).drop (off + m)))],0⟩ (tb t.hp (.ara m' K L2)) := by
       rw [e2]; exact .refl _
      exact this
    have whole : ∀ L2 : List Int,(av t.hp (t.ev n y)).cells = arC m' K L2 → (arC m' K L).take 0 ++ ((av t.hp (t.ev n y)).cells ++ (arC m' K L).drop (0 + m')) = arC m' K L2 := by
     intro L2 e2
     rw [e2,List.take_zero,List.drop_eq_nil_of_le (by rw [arC_len]; omega),List.append_nil,List.nil_append]
    split at h
    ·rename_i A z hy
     split at h
     ·rename_i v hv
      obtain ⟨rfl,hz⟩ := cst_some hv
      cases hz
      cases hm : Nat.beq m 1 with
      | false => rw [hm] at h; cases h
      | true =>
       rw [hm,cond_true] at h
       simp only [Nat.beq_eq] at hm
       subst hm
       obtain ⟨hc,h⟩ := chk_some h
       have hc := hc.sm
       rw [decide_eq_true_eq] at hc
       refine fin _ (by rw [hy]; rfl) (by omega) ?_ h
       rw [hy]
       exact arC_set hc
     ·split at h
      ·rename_i L2 hv
       obtain ⟨rfl,hz⟩ := cst_some hv
       cases hz
       cases hm : (Nat.beq off 0 && Nat.beq m m') with
       | false => rw [hm] at h; cases h
       | true =>
        rw [hm,cond_true] at h
        simp only [Bool.and_eq_true,Nat.beq_eq] at hm
        obtain ⟨rfl,rfl⟩ := hm
        refine fin _ (by rw [hy]; simp [TV.fits]) (by omega) (whole _ ?_) h
        rw [hy]
        exact enc_cells ..
      ·cases h
    ·rename_i cs hy
     split at h
     ·rename_i L2 hv
      cases hm : (Nat.beq off 0 && Nat.beq m m') with
      | false => rw [hm] at h; cases h
      | true =>
       rw [hm,cond_true] at h
       simp only [Bool.and_eq_true,Nat.beq_eq] at hm
       obtain ⟨rfl,rfl⟩ := hm
       obtain ⟨o1,o2⟩ := arOf_cls t.hp hv
       refine fin _ ?_ (by omega) (whole _ ?_) h
       ·rw [hy]
        simp only [TV.fits,Bool.and_eq_true,Nat.beq_eq]
        exact ⟨o2,arL_c1 t.hp hv⟩
       ·rw [hy]
        simp only [av,avL_map,AV.cells]
        exact o1
     ·cases h
    ·cases h
  ·rename_i T o L e
   have hj : j < t.hp.length := (List.getElem?_eq_some_iff.1 e).1
   have hr := hrow j row off hx T o L e
   cases hb : (Nat.ble (off + m) T.sz && (t.ev n y).fits t.hp m) with
   | false => rw [hb] at h; cases h
   | true =>
    rw [hb,cond_true] at h
    simp only [Bool.and_eq_true] at hb
    have hle := Nat.le_of_ble_eq_true hb.1
    have hf := hb.2
    have ha : av t.hp (.ptr j row off) = .ptr j L.length row off := by simp only [av,hpk_arr e]
    simp only [ae,toAS_ev,hx,ha,toAS_hp]
    rw [at_arr e]
    obtain ⟨g1,g2⟩ := st_rows (o := o) (t := t) hr hle hf
    refine ⟨Nat.zero_le _,(fits_spec hf).1,?_,?_⟩
    ·show off + m ≤ (((L.map (enc o T)).getD row .any).cells).length
     rw [getD_map (d := dft T) hr,enc_cells,cls_len]; exact hle
    show Kt k r n (AS.put { toAS n t with hp := (toHP t.hp).set j (some ⟨T.sz,0,(L.map (enc o T)).set row (mkRow ((L.map (enc o T)).getD row .any) (((L.map (enc o T)).getD row .any).cells.take off ++ ((av t.hp (t.ev n y)).cells ++ ((L.map (enc o T)).getD row .any).cells.drop (off + m)))),0⟩) } d .any)
    generalize hnr : mkRow ((L.map (enc o T)).getD row .any) (((L.map (enc o T)).getD row .any).cells.take off ++ ((av t.hp (t.ev n y)).cells ++ ((L.map (enc o T)).getD row .any).cells.drop (off + m))) = nr at g1
    have hcyl : (av t.hp (t.ev n y)).cells.length = m := by rw [cs_cav hf,List.length_map]; exact fits_len hf
    cases ho : (!o || T.flat) with
    | true =>
     rw [ho,cond_true] at h
     split at h
     ·rename_i z l hz
      refine Kt.of h ?_
      rw [toAS_put]
      refine StLe.put ?_ d (Im.any _)
      refine StLe.setB hj (by simp [hpk_arr e,TB.rlen]) ?_
      refine rowsLe ((encs_RR ho L).set (x := nr) (y := z) ?_ row)
      show RI o T nr.cells z
      rw [g1,cls_o ho]
      have s1 := setG_spec (R := fun a b _ => All2 Im a b) (fun xs => All2.imrefl xs) (fun h k => All2.append h k) (o := false) hcyl (fun T' z' l' hz' _ => (fV_spec t.hp hz').2.1) T _ off z l hz hle
      refine RI.o ⟨s1,fun c hc => ?_⟩ ho
      rcases List.mem_append.1 hc with h | h
      ·exact cls_bare T _ c (List.mem_of_mem_take h)
      ·rcases List.mem_append.1 h with h | h
       ·rw [cs_cav hf] at h
        obtain ⟨q,_,rfl⟩ := List.mem_map.1 h
        exact (cav_cell _ q).1
       ·exact cls_bare T _ c (List.mem_of_mem_drop h)
     ·cases h
    | false =>
     rw [ho,cond_false] at h
     simp only [Bool.or_eq_false_iff,Bool.not_eq_false'] at ho
     obtain ⟨rfl,_⟩ := ho
     split at h
     ·rename_i z l hz
      cases hn : nodupB (j :: l) with
      | false => rw [hn] at h; cases h
      | true =>
       rw [hn,cond_true] at h
       have hnd := nodupB_iff hn
       have s1 := setG_spec (R := Ab (toHP t.hp)) (fun xs => Ab.refl _ xs) (fun h k => Ab.append h k) (o := true) hcyl (fun T' z' l' hz' _ => by
        have := fO_spec hz' (fits_c1 hf)
        rw [(fits_spec hf).2] at this
        exact this) T _ off z l hz hle
       rw [← g1] at s1
       obtain ⟨q1,q2⟩ := set_split (l := L.map (enc true T)) (i := row) (x := nr) (d := .any) (by simpa using hr)
       obtain ⟨q3,_⟩ := set_split (l := L) (i := row) (x := z) (d := dft T) hr
       have hnrl : nr.cells.length = T.sz := by rw [g1]; exact g2
       have hab : Ab (toHP t.hp) (((L.map (enc true T)).set row nr).flatMap AV.cells) (((L.set row z).map (enc true T)).flatMap AV.cells) l := by
        rw [q1,q3]
        simp only [List.map_append,List.map_cons,List.map_take,List.map_drop,List.flatMap_append,List.flatMap_cons,enc_cells]
        have := (Ab.refl (toHP t.hp) (((L.map (enc true T)).take row).flatMap AV.cells)).append (s1.append (Ab.refl (toHP t.hp) (((L.map (enc true T)).drop (row + 1)).flatMap AV.cells)))
        simpa using this
       have hlive : ∀ i ∈ l,i ≠ j := fun i hi e => (List.nodup_cons.1 hnd).1 (e ▸ hi)
       refine ⟨_,h,?_⟩
       have hab' : Ab ((toHP t.hp).set j (some ⟨T.sz,0,(L.map (enc true T)).set row nr,0⟩)) (((L.map (enc true T)).set row nr).flatMap AV.cells) (((L.set row z).map (enc true T)).flatMap AV.cells) l := hab.mono fun i hi => by
        rw [List.getElem?_set,if_neg (fun e => hlive i hi e.symm)]
       rw [toAS_put]
       refine Get.trans (Get.absorbP (s := toAS n t) (d := d) (b := ⟨T.sz,0,(L.map (enc true T)).set row nr,0⟩) (rows' := (L.set row z).map (enc true T)) (l := l)
        (by rw [toAS_hp,toHP_len]; exact hj) hnd (by simp) (fun _ y hy => by
         obtain ⟨q,_,rfl⟩ := List.mem_map.1 hy
         rw [enc_cells,cls_len]) hab') (StLe.get ?_)
       refine StLe.put ?_ d (Im.refl _)
       have e1 : toAS n { t with hp := t.hp.set j (some (.arr T true (L.set row z))) } = { toAS n t with hp := (toHP t.hp).set j (some ⟨T.sz,0,(L.set row z).map (enc true T),0⟩) } := toAS_setB hj (by simp [hpk_arr e,TB.rlen])
       have := StLe.kill (n := n) (t := { t with hp := t.hp.set j (some (.arr T true (L.set row z))) }) l
       rw [e1] at this
       have e2 : toHP (t.hp.set j (some (.arr T true (L.set row z)))) = (toHP t.hp).set j (some ⟨T.sz,0,(L.set row z).map (enc true T),0⟩) := congrArg AS.hp e1
       rw [e2] at this
       exact this
     ·cases h
  ·rename_i T L row' off' c0 e
   have hj : j < t.hp.length := (List.getElem?_eq_some_iff.1 e).1
   have hr := hrowh j row off hx T L row' off' c0 e
   split at h
   ·rename_i q hy
    cases hb : (Nat.beq off off' && (Nat.beq m 1 && (Nat.ble (off' + 1) T.sz && isArr t.hp q))) with
    | false => rw [hb] at h; cases h
    | true =>
     rw [hb,cond_true] at h
     simp only [Bool.and_eq_true,Nat.beq_eq] at hb
     obtain ⟨rfl,rfl,hle,hq⟩ := hb
     have hle := Nat.le_of_ble_eq_true hle
     obtain ⟨h1,h2⟩ := chk_some h
     have h1 := h1.sm
     simp only [Nat.beq_eq] at h1
     subst h1
     have hf : (t.ev n y).fits t.hp 1 = true := by
      rw [hy]
      simp only [TV.fits,TV.c1,hq,Bool.and_true]; rfl
     have ha : av t.hp (.ptr j row off) = .ptr j L.length row off := by simp only [av,hpk_hol e]
     simp only [ae,toAS_ev,hx,ha,toAS_hp]
     rw [at_hol e]
     have hcl := cls_len true T (L.getD row (dft T))
     have hgd : ((tb t.hp (.hol T L row off c0)).rows).getD row .any = .agg ((cls true T (L.getD row (dft T))).set off (cav t.hp c0)) := by
      simp only [tb,List.getD_eq_getElem?_getD,List.getElem?_set]
      rw [if_pos (by simp)]
      simp [hr]
     refine ⟨Nat.zero_le _,(fits_spec hf).1,?_,?_⟩
     ·show off + 1 ≤ ((((tb t.hp (.hol T L row off c0)).rows).getD row .any).cells).length
      rw [hgd]
      simp only [AV.cells,List.length_set,hcl]; exact hle
     refine Kt.of h2 ?_
     rw [toAS_put]
     refine StLe.put ?_ d (Im.any _)
     refine StLe.setB hj (by simp [hpk_hol e,TB.rlen]) ?_
     have hcy : (av t.hp (t.ev n y)).cells = [cav t.hp (.own q)] := by rw [cs_cav hf,hy]; rfl
     have : mkRow (((tb t.hp (.hol T L row off c0)).rows).getD row .any) ((((tb t.hp (.hol T L row off c0)).rows).getD row .any).cells.take off ++ ((av t.hp (t.ev n y)).cells ++ (((tb t.hp (.hol T L row off c0)).rows).getD row .any).cells.drop (off + 1))) = .agg ((cls true T (L.getD row (dft T))).set off (cav t.hp (.own q))) := by
      rw [hgd,hcy]
      simp only [AV.cells,mkRow]
      congr 1
      exact set_take_drop _ _ (by omega)
     have e3 : (⟨T.sz,0,((tb t.hp (.hol T L row off c0)).rows).set row (.agg ((cls true T (L.getD row (dft T))).set off (cav t.hp (.own q)))),0⟩ : Blk) = tb t.hp (.hol T L row off (.own q)) := by
      simp only [tb,List.set_set]
     rw [this]
     rw [← e3]
     exact RowLe.refl _
   ·cases h
  ·cases h
 ·cases h
end
end Go.Proofs.Ytkmhopbmpeiofaa.Nx
namespace Go.Proofs.Ytkmhopbmpeiofaa.Nx
open Go Go.RowKit
section
variable {C : Ctx} {s : AS} {a : Act} {w : World} {N : NT} {M : MT} {ℓ : Nat → List (Nat × Nat)}
theorem ConcF.emit (h : ConcF C s a w N M ℓ) {j : Nat} {b : Blk} (hj : s.hp[j]? = some (some b)) {A B : List AV} {sz : Nat} {rows rows' : List AV} (hc : b.rows.flatMap AV.cells = A ++ .sl true sz rows :: B)
  (hc' : rows'.flatMap AV.cells = A ++ .ref s.hp.length rows.length 0 rows.length :: B) (hlen : rows'.length = b.rows.length) (hcl : (∀ y ∈ b.rows,y.cells.length = b.sz) → ∀ y ∈ rows',y.cells.length = b.sz) :
  Conc C { s with hp := s.hp.set j (some { b with rows := rows' }) ++ [some ⟨sz,0,rows,0⟩] } a w := by
 have hjl : j < s.hp.length := (List.getElem?_eq_some_iff.1 hj).1
 obtain ⟨mj,K,q1,q2,q3⟩ := h.hp j _ hj
 have r := q2.rep
 rw [hc] at r
 obtain ⟨KA,KR,rfl,rA,rR⟩ := r.append
 have hv : mj.virt = false := by
  cases hv : mj.virt with
  | false => rfl
  | true =>
   have := q2.vt hv
   rw [this] at hc
   simp at hc
 cases rR with
 | cons hcell hx rB =>
  rename_i v L1 L2
  obtain ⟨m',L',ad,cap,e1,e2,e3,e4,e5⟩ : ∃ (m' : Cn) (L' : List Nat) (ad : Option Addr) (cap : Nat),ownOf m' L' = L1.map (fun b => (b,0)) ∧ BR w N M ⟨sz,0,rows,0⟩ m' L' ∧ refOk w m' 0 rows.length ad cap ∧ v = .slice ad rows.length cap ∧ m'.len = rows.length := by
   cases hx with
   | slO0 _ ad =>
    refine ⟨⟨0,0,sz,0,0,true⟩,[],ad,0,by simp [ownOf],⟨rfl,rfl,Nat.zero_le _,fun y hy => (by cases hy),.nil _ _,fun _ => rfl,fun e => (by cases e),Nat.le_refl _,fun i hi => (by simp at hi),fun _ => rfl⟩,⟨Nat.le_refl _,.inl ⟨rfl,rfl⟩⟩,rfl,rfl⟩
   | slO rr hl hcap hroom =>
    rename_i b' o' cap L'
    refine ⟨⟨b',o',sz,rows.length,0,false⟩,L',_,cap,by simp [ownOf],⟨rfl,rfl,Nat.zero_le _,hl,rr,fun e => (by cases e),fun _ => ?_,Nat.zero_le _,fun i hi => (by simp at hi),fun _ => rfl⟩,⟨by simp,.inr ⟨rfl,by simp,hcap,by simpa using hroom⟩⟩,rfl,rfl⟩
    obtain ⟨c,e,fz,h1,h2,h3⟩ := hroom
    exact ⟨c,e,fz,h1,Nat.le_trans (Nat.add_le_add_left (Nat.mul_le_mul_right _ hcap) _) h2,h3⟩
  subst e4
  let n0 := s.hp.length
  let M' : MT := fun i => if i = n0 then some (some m') else M i
  let ℓ' : Nat → List (Nat × Nat) := fun i => if i = n0 then ownOf m' L' else if i = j then ownOf mj (KA ++ L2) else ℓ i
  have hjn : j ≠ n0 := fun e => by simp only [n0] at e; omega
  have hM : ∀ i,i ≠ n0 → M' i = M i := fun i hi => by simp only [M',hi,if_false]
  have hMn : M' n0 = some (some m') := by simp only [M',if_true]
  have g : Gr w w N N M M' := ⟨fun _ c _ _ h => ⟨c,h,rfl⟩,fun _ _ _ => rfl,fun _ _ hn => hn,fun i x hx => by
   have hi : i ≠ n0 := fun e => by
    subst e
    rw [h.un _ (Nat.le_refl _)] at hx; cases hx
   exact ⟨x,by rw [hM i hi]; exact hx,fun m hm => ⟨m,hm,.inl rfl⟩⟩⟩
  have same : ∀ b,Same w w b := fun _ _ => rfl
  have hlj : ownOf mj (KA ++ (L1 ++ L2)) = (mj.b,mj.fr) :: (KA ++ (L1 ++ L2)).map fun b => (b,0) := by rw [ownOf,if_neg (by rw [hv]; simp)]
  have hlj' : ownOf mj (KA ++ L2) = (mj.b,mj.fr) :: (KA ++ L2).map fun b => (b,0) := by rw [ownOf,if_neg (by rw [hv]; simp)]
  have fstid : ∀ X : List Nat,(X.map fun b => (b,0)).map Prod.fst = X := fun X => by
   rw [List.map_map]
   have : (Prod.fst ∘ fun b : Nat => (b,0)) = id := rfl
   rw [this,List.map_id]
  have hnd0 := h.nd j hjl
  rw [q3,hlj,List.map_cons,fstid] at hnd0
  obtain ⟨nb,nk⟩ := List.nodup_cons.1 hnd0
  have nk' := List.nodup_append.1 nk
  have nk2 := List.nodup_append.1 nk'.2.1
  have lj : ∀ p,p ∈ ownOf mj (KA ++ L2) → p ∈ ℓ j := fun p hp => by
   rw [q3,hlj]
   rw [hlj'] at hp
   rcases List.mem_cons.1 hp with rfl | hp
   ·simp
   ·refine List.mem_cons_of_mem _ ?_
    obtain ⟨x,hx,rfl⟩ := List.mem_map.1 hp
    refine List.mem_map_of_mem ?_
    rcases List.mem_append.1 hx with hx | hx
    ·exact List.mem_append_left _ hx
    ·exact List.mem_append_right _ (List.mem_append_right _ hx)
  have ln : ∀ p,p ∈ ownOf m' L' → p ∈ ℓ j := fun p hp => by
   rw [e1] at hp
   rw [q3,hlj]
   obtain ⟨x,hx,rfl⟩ := List.mem_map.1 hp
   exact List.mem_cons_of_mem _ (List.mem_map_of_mem (List.mem_append_right _ (List.mem_append_left _ hx)))
  have src : ∀ i,i ≤ n0 → ∀ p ∈ ℓ' i,p ∈ ℓ (if i = n0 then j else i) := fun i hi p hp => by
   by_cases e : i = n0
   ·simp only [ℓ',e,if_true] at hp ⊢
    exact ln p hp
   ·by_cases e' : i = j
    ·subst e'
     simp only [ℓ',e,if_false,if_true] at hp ⊢
     exact lj p hp
    ·simp only [ℓ',e,e',if_false] at hp ⊢
     exact hp
  have apart : ∀ p ∈ ownOf mj (KA ++ L2),∀ q ∈ ownOf m' L',p.1 ≠ q.1 := fun p hp q hq e => by
   rw [e1] at hq
   obtain ⟨y,hy,rfl⟩ := List.mem_map.1 hq
   rw [hlj'] at hp
   rcases List.mem_cons.1 hp with rfl | hp
   ·have e : mj.b = y := e
    exact nb (e ▸ List.mem_append_right _ (List.mem_append_left _ hy))
   ·obtain ⟨x,hx,rfl⟩ := List.mem_map.1 hp
    have e : x = y := e
    subst e
    rcases List.mem_append.1 hx with hx | hx
    ·exact nk'.2.2 x hx x (List.mem_append_left _ hy) rfl
    ·exact nk2.2.2 x hy x hx rfl
  have hlen' : (s.hp.set j (some { b with rows := rows' }) ++ [some (⟨sz,0,rows,0⟩ : Blk)]).length = n0 + 1 := by simp [n0]
  refine ConcF.c (N := N) (M := M') (ℓ := ℓ') ⟨h.df,h.sl.gr g (fun _ hb => by cases hb),fun i x hx => ?_,fun i hi => ?_,fun i i' hi hi' hne p hp q hq => ?_,fun i hi p hp => ?_,h.nlt,h.nup,h.ndn,h.fr,fun k hk => ?_,fun k m m0 h1 h0 => ?_,fun k hk => ?_⟩
  ·replace hx : (s.hp.set j (some { b with rows := rows' }) ++ [some (⟨sz,0,rows,0⟩ : Blk)])[i]? = some x := hx
   rcases Nat.lt_or_ge i n0 with hi | hi
   ·have hin : i ≠ n0 := by omega
    rw [List.getElem?_append_left (by simpa using hi),List.getElem?_set] at hx
    by_cases hij : j = i
    ·subst hij
     rw [if_pos rfl,if_pos hjl] at hx
     cases hx
     refine ⟨mj,KA ++ L2,by rw [hM _ hin]; exact q1,?_,by simp only [ℓ',hin,if_false,if_true]⟩
     refine ⟨by rw [q2.len,hlen],q2.sz,q2.fr,hcl q2.cl,?_,fun e => (by rw [hv] at e; cases e),q2.rm,by rw [hlen]; exact q2.lo,q2.fz,q2.f0⟩
     rw [hc']
     refine (rA.gr g (fun _ _ => rfl) (fun _ _ => same _)).join ?_
     have : Rep w N M' (.ref s.hp.length rows.length 0 rows.length) (.slice ad rows.length cap) [] := .ref (some m') hMn fun m hm => by
      cases hm
      exact ⟨by rw [e5]; exact Nat.le_refl _,fun _ => e3⟩
     exact .cons (L1 := []) hcell this (rB.gr g (fun _ _ => rfl) (fun _ _ => same _))
    ·rw [if_neg hij] at hx
     have := h.hp i x hx
     cases x with
     | none => exact ⟨by rw [hM _ hin]; exact this.1,by simp only [ℓ',hin,if_false]; rw [if_neg (fun e => hij e.symm)]; exact this.2⟩
     | some x =>
      obtain ⟨m,L1',h1,h2,h3⟩ := this
      exact ⟨m,L1',by rw [hM _ hin]; exact h1,h2.gr g (fun _ _ => same _),by simp only [ℓ',hin,if_false]; rw [if_neg (fun e => hij e.symm)]; exact h3⟩
   ·rw [List.getElem?_append_right (by simpa using hi)] at hx
    have hi0 : i = n0 := by
     have := (List.getElem?_eq_some_iff.1 hx).1
     simp at this; simp only [n0] at hi ⊢; omega
    subst hi0
    simp only [List.length_set,n0,Nat.sub_self,List.getElem?_cons_zero,Option.some.injEq] at hx
    subst hx
    exact ⟨m',L',hMn,e2.gr g (fun _ _ => same _),by simp only [ℓ',if_true]⟩
  ·rw [hlen'] at hi
   by_cases e : i = n0
   ·simp only [ℓ',e,if_true,e1,fstid]
    exact nk2.1
   ·by_cases e' : i = j
    ·subst e'
     simp only [ℓ',e,if_false,if_true,hlj',List.map_cons,fstid]
     refine List.nodup_cons.2 ⟨fun hx => nb ?_,List.nodup_append.2 ⟨nk'.1,nk2.2.1,fun x hx y hy => nk'.2.2 x hx y (List.mem_append_right _ hy)⟩⟩
     rcases List.mem_append.1 hx with hx | hx
     ·exact List.mem_append_left _ hx
     ·exact List.mem_append_right _ (List.mem_append_right _ hx)
    ·simp only [ℓ',e,e',if_false]
     exact h.nd i (by simp only [n0] at hi e; omega)
  ·rw [hlen'] at hi hi'
   have hp' := src i (by omega) p hp
   have hq' := src i' (by omega) q hq
   by_cases e : i = n0
   ·by_cases e' : i' = j
    ·subst e; subst e'
     simp only [ℓ',if_true] at hp
     simp only [ℓ',hjn,if_false,if_true] at hq
     exact fun e => apart q hq p hp e.symm
    ·have : i' ≠ n0 := fun e2 => hne (e.trans e2.symm)
     rw [if_pos e] at hp'
     rw [if_neg this] at hq'
     exact h.dj j i' hjl (by simp only [n0] at *; omega) (fun e => e' e.symm) p hp' q hq'
   ·by_cases e2 : i' = n0
    ·by_cases e' : i = j
     ·subst e2; subst e'
      simp only [ℓ',if_true] at hq
      simp only [ℓ',hjn,if_false,if_true] at hp
      exact apart p hp q hq
     ·rw [if_neg e] at hp'
      rw [if_pos e2] at hq'
      exact h.dj i j (by simp only [n0] at *; omega) hjl e' p hp' q hq'
    ·rw [if_neg e] at hp'
     rw [if_neg e2] at hq'
     exact h.dj i i' (by simp only [n0] at *; omega) (by simp only [n0] at *; omega) hne p hp' q hq'
  ·rw [hlen'] at hi
   have hp' := src i (by omega) p hp
   by_cases e : i = n0
   ·rw [if_pos e] at hp'; exact h.own j hjl p hp'
   ·rw [if_neg e] at hp'; exact h.own i (by simp only [n0] at *; omega) p hp'
  ·rw [hlen'] at hk
   rw [hM k (by omega)]
   exact h.un k (by simp only [n0] at hk; omega)
  ·by_cases e : k = n0
   ·rw [h.mz k (by simp only [n0] at e; omega)] at h0; cases h0
   ·rw [hM k e] at h1; exact h.mv k m m0 h1 h0
  ·rw [hlen'] at hk
   exact h.mz k (by simp only [n0] at hk; omega)
theorem getL_spec : ∀ (T : Ty) (x : Den T) (off : Nat) (t' : Ty) (xs : List (Den t')),getL T x off = some ⟨t',xs⟩ → off < T.sz ∧ (cls true T x)[off]? = some (.sl true t'.sz (xs.map (enc true t'))) := by
 intro T
 induction T with
 | i | bl | tx | sv | ar => intro x off t' xs h; cases h
 | sl t _ =>
  intro x off t' xs h
  simp only [getL] at h
  cases hb : Nat.beq off 0 with
  | false => rw [hb] at h; cases h
  | true =>
   rw [hb,cond_true] at h
   cases h
   simp only [Nat.beq_eq] at hb
   subst hb
   exact ⟨Nat.zero_lt_one,rfl⟩
 | st t ih => exact fun x off t' xs h => ih x off t' xs h
 | pr a b iha ihb =>
  intro x off t' xs h
  simp only [getL] at h
  have la := cls_len true a x.1
  simp only [Ty.sz,cls]
  cases hb : Nat.blt off a.sz with
  | true =>
   rw [hb,cond_true] at h
   rw [Nat.blt_eq] at hb
   obtain ⟨h1,h2⟩ := iha x.1 off t' xs h
   exact ⟨by omega,by rw [List.getElem?_append_left (by omega)]; exact h2⟩
  | false =>
   rw [hb,cond_false] at h
   have hb : ¬ off < a.sz := fun e => by rw [← Nat.blt_eq,hb] at e; cases e
   obtain ⟨h1,h2⟩ := ihb x.2 (off - a.sz) t' xs h
   exact ⟨by omega,by rw [List.getElem?_append_right (by omega),la]; exact h2⟩
end
section
variable {n : Nat} {t : TS} {C : Ctx} {a : Act} {w : World}
theorem settle1_get (j : Nat) : Get (toAS n t) (toAS n (settle1 t j)) := by
 unfold settle1
 split
 case h_3 => exact fun _ _ _ h => h
 case h_2 =>
  rename_i T L row cs e
  have hj : j < t.hp.length := (List.getElem?_eq_some_iff.1 e).1
  split
  case h_2 => exact fun _ _ _ h => h
  rename_i z l hz
  cases hb : (cs.all (TV.c1 t.hp) && nodupB (j :: l)) with
  | false => exact fun _ _ _ h => h
  | true =>
   simp only [Bool.and_eq_true,List.all_eq_true] at hb
   obtain ⟨hc1,hn⟩ := hb
   simp only [cond_true]
   have hnd := nodupB_iff hn
   obtain ⟨c1,ec,s1⟩ := asOwnC_spec t.hp T cs z l [] hz hc1
   rw [List.append_nil] at ec
   subst ec
   have hcv : cs.map (cav t.hp) = cs.map (av t.hp) := List.map_congr_left fun c hc => by unfold cav; rw [hc1 c hc]; rfl
   rw [← hcv] at s1
   have hat : (toHP t.hp)[j]? = some (some (tb t.hp (.tld T L row cs))) := by rw [toHP_get,e]; rfl
   have hab : Ab (toHP t.hp) ((tb t.hp (.tld T L row cs)).rows.flatMap AV.cells) (((L.set row z).map (enc true T)).flatMap AV.cells) l ∨ (L.length ≤ row) := by
    rcases Nat.lt_or_ge row L.length with hr | hr
    ·refine .inl ?_
     obtain ⟨q1,q2⟩ := set_split (l := L.map (enc true T)) (i := row) (x := .agg (cs.map (cav t.hp))) (d := .any) (by simpa using hr)
     obtain ⟨q3,_⟩ := set_split (l := L) (i := row) (x := z) (d := dft T) hr
     show Ab _ (((L.map (enc true T)).set row (.agg (cs.map (cav t.hp)))).flatMap AV.cells) _ _
     rw [q1,q3]
     have hagg : ∀ cs : List AV,(AV.agg cs).cells = cs := fun _ => rfl
     simp only [List.map_append,List.map_cons,List.map_take,List.map_drop,List.flatMap_append,List.flatMap_cons,enc_cells,hagg]
     have := (Ab.refl (toHP t.hp) (((L.map (enc true T)).take row).flatMap AV.cells)).append (s1.append (Ab.refl (toHP t.hp) (((L.map (enc true T)).drop (row + 1)).flatMap AV.cells)))
     simpa using this
    ·exact .inr hr
   have fin : Get (toAS n t) { toAS n t with hp := setAllH ((toHP t.hp).set j (some ⟨T.sz,0,(L.set row z).map (enc true T),0⟩)) l } := by
    rcases hab with hab | hr
    ·exact Get.absorb (s := toAS n t) hat hnd (by simp [tb]) (fun _ y hy => by
      obtain ⟨q,_,rfl⟩ := List.mem_map.1 hy
      rw [enc_cells,cls_len]; rfl) hab
    ·have e3 : tb t.hp (.tld T L row cs) = ⟨T.sz,0,(L.set row z).map (enc true T),0⟩ := by
      simp only [tb]
      rw [List.set_eq_of_length_le (by simpa using hr),List.set_eq_of_length_le hr]
     have e4 : (toHP t.hp).set j (some ⟨T.sz,0,(L.set row z).map (enc true T),0⟩) = toHP t.hp := by
      rw [← e3]
      refine List.ext_getElem? fun i => ?_
      rw [List.getElem?_set]
      by_cases hi : j = i
      ·subst hi
       rw [if_pos rfl,if_pos (by rw [toHP_len]; exact hj),hat]
      ·rw [if_neg hi]
     rw [e4]
     have hl : ∀ m ∈ l,m < (toAS n t).hp.length := fun m hm => by
      obtain ⟨bm,e5,_⟩ := s1.live m hm
      exact (List.getElem?_eq_some_iff.1 e5).1
     intro C a w hc
     obtain ⟨N,M,ℓ,hc⟩ := hc.fn
     exact hc.kill hl
   refine Get.trans fin (StLe.get ?_)
   have e1 : toAS n { t with hp := t.hp.set j (some (.arr T true (L.set row z))) } = { toAS n t with hp := (toHP t.hp).set j (some ⟨T.sz,0,(L.set row z).map (enc true T),0⟩) } := toAS_setB hj (by simp [hpk_tld e,TB.rlen])
   have := StLe.kill (n := n) (t := { t with hp := t.hp.set j (some (.arr T true (L.set row z))) }) l
   rw [e1] at this
   have e2 : toHP (t.hp.set j (some (.arr T true (L.set row z)))) = (toHP t.hp).set j (some ⟨T.sz,0,(L.set row z).map (enc true T),0⟩) := congrArg AS.hp e1
   rw [e2] at this
   exact this
 rename_i T L row off k e
 have hj : j < t.hp.length := (List.getElem?_eq_some_iff.1 e).1
 cases hb : (Nat.ble (off + 1) T.sz && isArr t.hp k) with
 | false => exact fun _ _ _ h => h
 | true =>
  simp only [Bool.and_eq_true] at hb
  obtain ⟨hle,hk⟩ := hb
  have hle := Nat.le_of_ble_eq_true hle
  simp only [cond_true]
  split
  case h_2 => exact fun _ _ _ h => h
  rename_i z l hz
  cases hn : nodupB (j :: l) with
  | false => exact fun _ _ _ h => h
  | true =>
   simp only [cond_true]
   have hnd := nodupB_iff hn
   have hf : (TV.own k).fits t.hp 1 = true := by
    simp only [TV.fits,TV.c1,hk,Bool.and_true]; rfl
   have hcyl : (av t.hp (.own k)).cells.length = 1 := by rw [cs_cav hf,List.length_map]; exact fits_len hf
   have s1 := setG_spec (R := Ab (toHP t.hp)) (fun xs => Ab.refl _ xs) (fun h k => Ab.append h k) (o := true) hcyl (fun T' z' l' hz' _ => by
    have := fO_spec hz' (fits_c1 hf)
    rw [(fits_spec hf).2] at this
    exact this) T _ off z l hz hle
   have hcav : (av t.hp (.own k)).cells = [cav t.hp (.own k)] := by rw [cs_cav hf]; rfl
   have hcl := cls_len true T (L.getD row (dft T))
   have s2 : Ab (toHP t.hp) ((cls true T (L.getD row (dft T))).set off (cav t.hp (.own k))) (cls true T z) l := by
    rw [List.set_eq_take_append_cons_drop,if_pos (by omega)]
    rw [hcav] at s1
    exact s1
   have hat : (toHP t.hp)[j]? = some (some (tb t.hp (.hol T L row off (.own k)))) := by rw [toHP_get,e]; rfl
   have henc : ∀ q : Den T,(enc true T q).cells = cls true T q := fun q => enc_cells true T q
   have hab : Ab (toHP t.hp) ((tb t.hp (.hol T L row off (.own k))).rows.flatMap AV.cells) (((L.set row z).map (enc true T)).flatMap AV.cells) l ∨ (L.length ≤ row) := by
    rcases Nat.lt_or_ge row L.length with hr | hr
    ·refine .inl ?_
     obtain ⟨q1,q2⟩ := set_split (l := L.map (enc true T)) (i := row) (x := .agg ((cls true T (L.getD row (dft T))).set off (cav t.hp (.own k)))) (d := .any) (by simpa using hr)
     obtain ⟨q3,_⟩ := set_split (l := L) (i := row) (x := z) (d := dft T) hr
     show Ab _ (((L.map (enc true T)).set row (.agg ((cls true T (L.getD row (dft T))).set off (cav t.hp (.own k))))).flatMap AV.cells) _ _
     rw [q1,q3]
     have hagg : ∀ cs : List AV,(AV.agg cs).cells = cs := fun _ => rfl
     simp only [List.map_append,List.map_cons,List.map_take,List.map_drop,List.flatMap_append,List.flatMap_cons,enc_cells,hagg]
     have := (Ab.refl (toHP t.hp) (((L.map (enc true T)).take row).flatMap AV.cells)).append (s2.append (Ab.refl (toHP t.hp) (((L.map (enc true T)).drop (row + 1)).flatMap AV.cells)))
     simpa using this
    ·exact .inr hr
   have fin : Get (toAS n t) { toAS n t with hp := setAllH ((toHP t.hp).set j (some ⟨T.sz,0,(L.set row z).map (enc true T),0⟩)) l } := by
    rcases hab with hab | hr
    ·exact Get.absorb (s := toAS n t) hat hnd (by simp [tb]) (fun _ y hy => by
      obtain ⟨q,_,rfl⟩ := List.mem_map.1 hy
      rw [enc_cells,cls_len]; rfl) hab
    ·have e3 : tb t.hp (.hol T L row off (.own k)) = ⟨T.sz,0,(L.set row z).map (enc true T),0⟩ := by
      simp only [tb]
      rw [List.set_eq_of_length_le (by simpa using hr),List.set_eq_of_length_le hr]
     have e4 : (toHP t.hp).set j (some ⟨T.sz,0,(L.set row z).map (enc true T),0⟩) = toHP t.hp := by
      rw [← e3]
      refine List.ext_getElem? fun i => ?_
      rw [List.getElem?_set]
      by_cases hi : j = i
      ·subst hi
       rw [if_pos rfl,if_pos (by rw [toHP_len]; exact hj),hat]
      ·rw [if_neg hi]
     rw [e4]
     have hl : ∀ m ∈ l,m < (toAS n t).hp.length := fun m hm => by
      obtain ⟨bm,e5,_⟩ := s2.live m hm
      exact (List.getElem?_eq_some_iff.1 e5).1
     intro C a w hc
     obtain ⟨N,M,ℓ,hc⟩ := hc.fn
     exact hc.kill hl
   refine Get.trans fin (StLe.get ?_)
   have e1 : toAS n { t with hp := t.hp.set j (some (.arr T true (L.set row z))) } = { toAS n t with hp := (toHP t.hp).set j (some ⟨T.sz,0,(L.set row z).map (enc true T),0⟩) } := toAS_setB hj (by simp [hpk_hol e,TB.rlen])
   have := StLe.kill (n := n) (t := { t with hp := t.hp.set j (some (.arr T true (L.set row z))) }) l
   rw [e1] at this
   have e2 : toHP (t.hp.set j (some (.arr T true (L.set row z)))) = (toHP t.hp).set j (some ⟨T.sz,0,(L.set row z).map (enc true T),0⟩) := congrArg AS.hp e1
   rw [e2] at this
   exact this
theorem settle_conc (hc : Conc C (toAS n t) a w) : Conc C (toAS n (settle t)) a w := by
 have : ∀ (i : Nat) (t : TS),Conc C (toAS n t) a w → Conc C (toAS n (settleN i t)) a w := by
  intro i
  induction i with
  | zero => exact fun t h => h
  | succ i ih => exact fun t h => ih _ (settle1_get i C a w h)
 exact this _ _ hc
theorem takeT_conc (x : Operand) (hc : Conc C (toAS n t) a w) : Conc C (toAS n (takeT n t x)) a w := by
 unfold takeT
 split
 case h_2 => exact hc
 rename_i j row off hx
 split
 case h_2 => exact hc
 rename_i T o L e
 cases hb : (o && !T.flat) with
 | false => exact hc
 | true =>
  simp only [Bool.and_eq_true] at hb
  obtain ⟨rfl,_⟩ := hb
  simp only [cond_true]
  split
  case h_2 => exact hc
  rename_i t' xs hg
  have hj : j < t.hp.length := (List.getElem?_eq_some_iff.1 e).1
  obtain ⟨N,M,ℓ,hcf⟩ := hc.fn
  have ha : (toAS n t).ev x = .ptr j L.length row off := by rw [toAS_ev,hx]; simp only [av,hpk_arr e]
  obtain ⟨b,m,L1,q1,q2,q3,q4,q5,q6,hr,q8⟩ := hcf.d.ptr ha (by rw [toAS_hp,at_arr e]; rfl)
  obtain ⟨ho,hcell⟩ := getL_spec T _ off t' xs hg
  have hcl := cls_len true T (L.getD row (dft T))
  have hat : (toAS n t).hp[j]? = some (some ⟨T.sz,0,L.map (enc true T),0⟩) := by rw [toAS_hp,toHP_get,e]; rfl
  have hlen : (toAS n t).hp.length = t.hp.length := by rw [toAS_hp,toHP_len]
  let nr : AV := .agg ((cls true T (L.getD row (dft T))).set off (.ref t.hp.length xs.length 0 xs.length))
  have hrm : row < (L.map (enc true T)).length := by rw [List.length_map]; exact hr
  have hrow : (L.map (enc true T))[row] = enc true T (L.getD row (dft T)) := by simp [List.getD,hr]
  have em := hcf.emit (A := ((L.map (enc true T)).take row).flatMap AV.cells ++ (cls true T (L.getD row (dft T))).take off) (B := (cls true T (L.getD row (dft T))).drop (off + 1) ++ ((L.map (enc true T)).drop (row + 1)).flatMap AV.cells) (sz := t'.sz) (rows := xs.map (enc true t')) (rows' := (L.map (enc true T)).set row nr) hat
   (by
    show (L.map (enc true T)).flatMap AV.cells = _
    have e1 : L.map (enc true T) = (L.map (enc true T)).take row ++ (L.map (enc true T))[row] :: (L.map (enc true T)).drop (row + 1) := by rw [List.getElem_cons_drop hrm,List.take_append_drop]
    have e2 : cls true T (L.getD row (dft T)) = (cls true T (L.getD row (dft T))).take off ++ .sl true t'.sz (xs.map (enc true t')) :: (cls true T (L.getD row (dft T))).drop (off + 1) := by
     have h1 : off < (cls true T (L.getD row (dft T))).length := by omega
     have h2 : (cls true T (L.getD row (dft T)))[off] = .sl true t'.sz (xs.map (enc true t')) := by
      rw [List.getElem?_eq_getElem h1] at hcell
      exact Option.some.inj hcell
     rw [← h2,List.getElem_cons_drop h1,List.take_append_drop]
    conv => lhs; rw [e1]
    rw [List.flatMap_append,List.flatMap_cons,hrow,enc_cells]
    conv => lhs; rw [e2]
    simp)
   (by
    rw [flat_set hrm,hlen,List.length_map]
    show _ ++ ((cls true T (L.getD row (dft T))).set off (.ref t.hp.length xs.length 0 xs.length) ++ _) = _
    rw [List.set_eq_take_append_cons_drop,if_pos (by omega)]
    simp)
   (by simp) (fun _ y hy => by
    rcases List.mem_or_eq_of_mem_set hy with hy | rfl
    ·obtain ⟨q,_,rfl⟩ := List.mem_map.1 hy
     rw [enc_cells,cls_len]
    ·show ((cls true T (L.getD row (dft T))).set off _).length = _
     rw [List.length_set,cls_len])
  refine StLe.conc ?_ em
  let u : TS := t.new [.arr t' true xs]
  let v : TS := { u with hp := u.hp.set j (some (.hol T L row off (.own t.hp.length))) }
  show StLe _ (toAS n v)
  have hul : u.hp.length = t.hp.length + 1 := by simp [u,TS.new,fltH_len]
  have hun : u.hp[t.hp.length]? = some (some (.arr t' true xs)) := new_len (t := t) _
  have hvn : v.hp[t.hp.length]? = some (some (.arr t' true xs)) := by
   show (u.hp.set j _)[t.hp.length]? = _
   rw [List.getElem?_set,if_neg (by omega)]; exact hun
  have hui : ∀ i,i < t.hp.length → u.hp[i]? = (t.hp[i]?).map (Option.map (TB.flt fun i => Nat.blt i t.hp.length)) := fun i hi => by
   show (fltH _ t.hp ++ _)[i]? = _
   rw [List.getElem?_append_left (by rw [fltH_len]; exact hi),fltH_get]
  have hvj : v.hp[j]? = some (some (.hol T L row off (.own t.hp.length))) := by
   show (u.hp.set j _)[j]? = _
   rw [List.getElem?_set,if_pos rfl,if_pos (by omega)]
  have hvi : ∀ i,i < t.hp.length → i ≠ j → v.hp[i]? = (t.hp[i]?).map (Option.map (TB.flt fun i => Nat.blt i t.hp.length)) := fun i hi hij => by
   show (u.hp.set j _)[i]? = _
   rw [List.getElem?_set,if_neg (fun e => hij e.symm)]; exact hui i hi
  have hl : ∀ i,Nat.blt i t.hp.length = true → hpk v.hp i = hpk t.hp i := fun i hi => by
   rw [Nat.blt_eq] at hi
   by_cases hij : i = j
   ·subst hij; rw [hpk_hol hvj,hpk_arr e]
   ·unfold hpk
    rw [hvi i hi hij]
    cases t.hp[i]? with
    | none => rfl
    | some c => cases c with
     | none => rfl
     | some c => simp [rlen_flt]
  have hcv : cav v.hp (.own t.hp.length) = .ref t.hp.length xs.length 0 xs.length := by
   unfold cav
   simp only [TV.c1,isArr,av,hpk_arr hvn,cond_true]
  refine ⟨by show (toAS n v).sl.length = (toAS n t).sl.length; rw [toAS_len,toAS_len],fun i => ?_,?_,fun i y hy => ?_⟩
  ·show Im ((toAS n t).sl.getD i .any) _
   have hg2 : v.get n i = flt (fun i => Nat.blt i t.hp.length) (t.get n i) := get_flt n t _ _ (fun i => Nat.blt i t.hp.length) rfl i
   rw [toAS_get,toAS_get,hg2]
   exact av_flt hl _
  ·show (toHP v.hp).length = ((toHP t.hp).set j _ ++ [_]).length
   rw [toHP_len]
   show (u.hp.set j _).length = _
   simp [hul,toHP_len]
  ·show ∃ z,(toHP v.hp)[i]? = some z ∧ _
   replace hy : ((toHP t.hp).set j (some ⟨T.sz,0,(L.map (enc true T)).set row nr,0⟩) ++ [some ⟨t'.sz,0,xs.map (enc true t'),0⟩])[i]? = some y := hy
   rw [toHP_get]
   rcases Nat.lt_or_ge i t.hp.length with hi | hi
   ·rw [List.getElem?_append_left (by simpa [toHP_len] using hi),List.getElem?_set] at hy
    by_cases hij : j = i
    ·subst hij
     rw [if_pos rfl,if_pos (by rw [toHP_len]; exact hj)] at hy
     cases hy
     rw [hvj]
     refine ⟨_,rfl,?_⟩
     show RowLe _ (tb v.hp (.hol T L row off (.own t.hp.length)))
     have : tb v.hp (.hol T L row off (.own t.hp.length)) = ⟨T.sz,0,(L.map (enc true T)).set row nr,0⟩ := by simp only [tb,hcv,nr]
     rw [this]; exact .refl _
    ·rw [if_neg hij,toHP_get] at hy
     rw [hvi i hi (fun e => hij e.symm)]
     cases hb : t.hp[i]? with
     | none => rw [hb] at hy; cases hy
     | some c =>
      rw [hb] at hy
      simp only [Option.map_some,Option.some.injEq] at hy
      subst hy
      refine ⟨_,rfl,?_⟩
      cases c with
      | none => trivial
      | some c => exact tb_flt hl c
   ·rw [List.getElem?_append_right (by simpa [toHP_len] using hi)] at hy
    have hi0 : i = t.hp.length := by
     have := (List.getElem?_eq_some_iff.1 hy).1
     simp [toHP_len] at this; omega
    subst hi0
    simp only [List.length_set,toHP_len,Nat.sub_self,List.getElem?_cons_zero,Option.some.injEq] at hy
    subst hy
    rw [hvn]
    exact ⟨_,rfl,RowLe.refl _⟩
def rfC (base : Nat) : (T : Ty) → Den T → List AV
 | .sl _,x => [.ref base x.length 0 x.length]
 | .pr a b,x => rfC base a x.1 ++ rfC (base + (rsC base a x.1).2.length) b x.2
 | .st t,x => rfC base t x
 | .i k,x => [.val (.int k x)]
 | .bl,x => [.val (.bool x)]
 | .tx,x => [.val (.string x)]
 | .sv t,x => [.sl false t.sz (x.map fun y => mkr t.ag (cls false t y))]
 | .ar n k,x => arC n k x
def bkC (T : Ty) (x : Den T) : HP := (rsC 0 T x).2.map fun b => some (tb [] b)
theorem rsC_base : ∀ (T : Ty) (x : Den T) (b c : Nat),(rsC b T x).2 = (rsC c T x).2
 | .i _,_,_,_ => rfl
 | .bl,_,_,_ => rfl
 | .tx,_,_,_ => rfl
 | .sv _,_,_,_ => rfl
 | .ar _ _,_,_,_ => rfl
 | .sl _,_,_,_ => rfl
 | .st t,x,b,c => rsC_base t x b c
 | .pr p q,x,b,c => by
  simp only [rsC]
  rw [rsC_base p x.1 b c,rsC_base q x.2 _ (c + (rsC c p x.1).2.length)]
theorem rfC_len : ∀ (T : Ty) (x : Den T) (b : Nat),(rfC b T x).length = T.sz
 | .i _,_,_ => rfl
 | .bl,_,_ => rfl
 | .tx,_,_ => rfl
 | .sv _,_,_ => rfl
 | .ar _ _,_,_ => arC_len ..
 | .sl _,_,_ => rfl
 | .st t,x,b => rfC_len t x b
 | .pr p q,x,b => by simp [rfC,Ty.sz,rfC_len p,rfC_len q]
theorem emitT {T0 : Ty} {L : List (Den T0)} {row j : Nat} (hr : row < L.length) : ∀ (T : Ty) (x : Den T) (s : AS) (P S : List AV),P.length + (T.sz + S.length) = T0.sz →
  s.hp[j]? = some (some ⟨T0.sz,0,(L.map (enc true T0)).set row (.agg (P ++ (cls true T x ++ S))),0⟩) → Conc C s a w →
   Conc C { s with hp := s.hp.set j (some ⟨T0.sz,0,(L.map (enc true T0)).set row (.agg (P ++ (rfC s.hp.length T x ++ S))),0⟩) ++ bkC T x } a w := by
 have hrm : row < (L.map (enc true T0)).length := by simpa using hr
 have same : ∀ (s : AS) (b : Option Blk),s.hp[j]? = some b → s.hp.set j b ++ [] = s.hp := fun s b e => by
  rw [List.append_nil]
  refine List.ext_getElem? fun i => ?_
  rw [List.getElem?_set]
  by_cases hi : j = i
  ·subst hi
   rw [if_pos rfl,if_pos (List.getElem?_eq_some_iff.1 e).1,e]
  ·rw [if_neg hi]
 intro T
 induction T with
 | i | bl | tx | sv | ar =>
  intro x s P S hl e hc
  have := same s _ e
  show Conc C { s with hp := s.hp.set j _ ++ [] } a w
  simp only [cls,rfC] at this ⊢
  rw [this]; exact hc
 | st t ih => intro x s P S hl e hc; exact ih x s P S hl e hc
 | sl t _ =>
  intro x s P S hl e hc
  obtain ⟨N,M,ℓ,hcf⟩ := hc.fn
  have hagg : ∀ cs : List AV,(AV.agg cs).cells = cs := fun _ => rfl
  have := hcf.emit (A := ((L.map (enc true T0)).take row).flatMap AV.cells ++ P) (B := S ++ ((L.map (enc true T0)).drop (row + 1)).flatMap AV.cells) (sz := t.sz) (rows := x.map fun y => mkr t.ag (cls true t y)) (rows' := (L.map (enc true T0)).set row (.agg (P ++ (rfC s.hp.length (.sl t) x ++ S)))) e
   (by
    show ((L.map (enc true T0)).set row _).flatMap AV.cells = _
    rw [flat_set hrm,hagg]
    simp [cls])
   (by
    rw [flat_set hrm,hagg]
    simp [rfC])
   (by simp) (fun _ y hy => by
    rcases List.mem_or_eq_of_mem_set hy with hy | rfl
    ·obtain ⟨q,_,rfl⟩ := List.mem_map.1 hy
     rw [enc_cells,cls_len]
    ·show (P ++ (rfC s.hp.length (.sl t) x ++ S)).length = T0.sz
     rw [List.length_append,List.length_append,rfC_len]; exact hl)
  exact this
 | pr p q ihp ihq =>
  intro x s P S hl e hc
  have hj : j < s.hp.length := (List.getElem?_eq_some_iff.1 e).1
  have h1 := ihp x.1 s P (cls true q x.2 ++ S) (by simp only [List.length_append,cls_len]; simp only [Ty.sz] at hl; omega) (by rw [e]; simp [cls]) hc
  let s1 : AS := { s with hp := s.hp.set j (some ⟨T0.sz,0,(L.map (enc true T0)).set row (.agg (P ++ (rfC s.hp.length p x.1 ++ (cls true q x.2 ++ S)))),0⟩) ++ bkC p x.1 }
  have hl1 : s1.hp.length = s.hp.length + (rsC s.hp.length p x.1).2.length := by
   show (s.hp.set j _ ++ bkC p x.1).length = _
   rw [List.length_append,List.length_set,rsC_base p x.1 s.hp.length 0]
   simp [bkC]
  have e1 : s1.hp[j]? = some (some ⟨T0.sz,0,(L.map (enc true T0)).set row (.agg ((P ++ rfC s.hp.length p x.1) ++ (cls true q x.2 ++ S))),0⟩) := by
   show (s.hp.set j _ ++ bkC p x.1)[j]? = _
   rw [List.getElem?_append_left (by rw [List.length_set]; exact hj),List.getElem?_set,if_pos rfl,if_pos hj,List.append_assoc]
  have h2 := ihq x.2 s1 (P ++ rfC s.hp.length p x.1) S (by simp only [List.length_append,rfC_len]; simp only [Ty.sz] at hl; omega) e1 h1
  have e2 : s1.hp.set j (some ⟨T0.sz,0,(L.map (enc true T0)).set row (.agg ((P ++ rfC s.hp.length p x.1) ++ (rfC s1.hp.length q x.2 ++ S))),0⟩) ++ bkC q x.2 =
    s.hp.set j (some ⟨T0.sz,0,(L.map (enc true T0)).set row (.agg (P ++ (rfC s.hp.length (.pr p q) x ++ S))),0⟩) ++ bkC (.pr p q) x := by
   show (s.hp.set j _ ++ bkC p x.1).set j _ ++ bkC q x.2 = _
   rw [List.set_append_left _ _ (by rw [List.length_set]; exact hj),List.set_set,List.append_assoc]
   have e3 : bkC p x.1 ++ bkC q x.2 = bkC (.pr p q) x := by
    simp only [bkC,rsC,List.map_append]
    rw [rsC_base q x.2 (0 + (rsC 0 p x.1).2.length) 0]
   rw [e3,hl1]
   simp [rfC]
  rw [e2] at h2
  exact h2
theorem cav_rsC {hp : THP} : ∀ (T : Ty) (x : Den T) (base : Nat),(∀ i k,(rsC base T x).2[i]? = some k → hp[base + i]? = some (some k)) → (rsC base T x).1.map (cav hp) = rfC base T x := by
 intro T
 induction T with
 | i | bl | tx | sv => intro x base _; rfl
 | ar n k =>
  intro x base _
  simp only [rsC,tcls,rfC,arC,List.map_map]
  exact List.map_congr_left fun i _ => rfl
 | sl t _ =>
  intro x base h
  have := h 0 _ rfl
  rw [Nat.add_zero] at this
  simp only [rsC,rfC,List.map_cons,List.map_nil,cav,TV.c1,isArr,av,hpk_arr this,cond_true]
 | st t ih => intro x base h; exact ih x base h
 | pr p q ihp ihq =>
  intro x base h
  simp only [rsC,rfC,List.map_append] at h ⊢
  rw [ihp x.1 base (fun i k e => h i k (by rw [List.getElem?_append_left (List.getElem?_eq_some_iff.1 e).1]; exact e)),ihq x.2 _ (fun i k e => by
   rw [Nat.add_assoc]
   exact h _ k (by rw [List.getElem?_append_right (by omega),Nat.add_sub_cancel_left]; exact e))]
theorem takeR_conc (m : Nat) (x : Operand) (hc : Conc C (toAS n t) a w) : Conc C (toAS n (takeR n t m x)) a w := by
 unfold takeR
 split
 case h_2 => exact hc
 rename_i j row off hx
 split
 case h_2 => exact hc
 rename_i T o L e
 cases hb : ((o && !T.flat) && (Nat.beq off 0 && Nat.beq m T.sz)) with
 | false => exact hc
 | true =>
  simp only [Bool.and_eq_true,Nat.beq_eq] at hb
  obtain ⟨⟨rfl,_⟩,rfl,rfl⟩ := hb
  simp only [cond_true]
  have hj : j < t.hp.length := (List.getElem?_eq_some_iff.1 e).1
  have ha : (toAS n t).ev x = .ptr j L.length row 0 := by rw [toAS_ev,hx]; simp only [av,hpk_arr e]
  have hr : row < L.length := by
   obtain ⟨N,M,K,hcd⟩ := hc
   obtain ⟨b,m,L1,q1,q2,q3,q4,q5,q6,hr,q8⟩ := hcd.ptr ha (by rw [toAS_hp,at_arr e]; rfl)
   exact hr
  have hlen : (toAS n t).hp.length = t.hp.length := by rw [toAS_hp,toHP_len]
  have hrm : row < (L.map (enc true T)).length := by rw [List.length_map]; exact hr
  let X := L.getD row (dft T)
  let bs := (rsC t.hp.length T X).2
  have h0 : Conc C { toAS n t with hp := (toHP t.hp).set j (some ⟨T.sz,0,(L.map (enc true T)).set row (.agg ([] ++ (cls true T X ++ []))),0⟩) } a w := by
   suffices hle : StLe (toAS n t) { toAS n t with hp := (toHP t.hp).set j (some ⟨T.sz,0,(L.map (enc true T)).set row (.agg ([] ++ (cls true T X ++ []))),0⟩) } from hle.conc hc
   refine ⟨rfl,fun _ => .refl _,by rw [toAS_hp]; simp,fun i y hy => ?_⟩
   rw [toAS_hp] at hy
   show ∃ z,((toHP t.hp).set j (some ⟨T.sz,0,(L.map (enc true T)).set row (.agg ([] ++ (cls true T X ++ []))),0⟩))[i]? = some z ∧ _
   rw [List.getElem?_set]
   by_cases hij : j = i
   ·subst hij
    rw [if_pos rfl,if_pos (by rw [toHP_len]; exact hj)]
    rw [toHP_get,e] at hy
    cases hy
    refine ⟨_,rfl,?_⟩
    have hrow : (L.map (enc true T))[row] = enc true T X := by simp [X,List.getD,hr]
    have hfl : ((L.map (enc true T)).set row (.agg (cls true T X))).flatMap AV.cells = (L.map (enc true T)).flatMap AV.cells := by
     rw [flat_set hrm]
     have e1 : L.map (enc true T) = (L.map (enc true T)).take row ++ (L.map (enc true T))[row] :: (L.map (enc true T)).drop (row + 1) := by rw [List.getElem_cons_drop hrm,List.take_append_drop]
     conv => rhs; rw [e1]
     rw [List.flatMap_append,List.flatMap_cons,hrow,enc_cells]
     rfl
    show RowLe ⟨T.sz,0,L.map (enc true T),0⟩ ⟨T.sz,0,(L.map (enc true T)).set row (.agg ([] ++ (cls true T X ++ []))),0⟩
    rw [List.nil_append,List.append_nil]
    refine ⟨rfl,rfl,rfl,by simp,fun _ z hz => ?_,fun w N M p o K r => ?_⟩
    ·rcases List.mem_or_eq_of_mem_set hz with hz | rfl
     ·obtain ⟨q,_,rfl⟩ := List.mem_map.1 hz
      rw [enc_cells,cls_len]
     ·exact cls_len true T X
    ·simp only at r ⊢
     rw [hfl]; exact r
   ·rw [if_neg hij]
    exact ⟨y,hy,by cases y; trivial; exact RowLe.refl _⟩
  have em := emitT (j := j) (L := L) hr T X { toAS n t with hp := (toHP t.hp).set j (some ⟨T.sz,0,(L.map (enc true T)).set row (.agg ([] ++ (cls true T X ++ []))),0⟩) } [] [] (by simp) (by
   show ((toHP t.hp).set j _)[j]? = _
   rw [List.getElem?_set,if_pos rfl,if_pos (by rw [toHP_len]; exact hj)]) h0
  refine StLe.conc ?_ em
  let u : TS := t.new bs
  let v : TS := { u with hp := u.hp.set j (some (.tld T L row (rsC t.hp.length T X).1)) }
  show StLe _ (toAS n v)
  have hul : u.hp.length = t.hp.length + bs.length := by simp [u,TS.new,fltH_len]
  have hun : ∀ i k,bs[i]? = some k → u.hp[t.hp.length + i]? = some (some k) := fun i k ek => by
   show (fltH _ t.hp ++ bs.map some)[t.hp.length + i]? = _
   rw [List.getElem?_append_right (by rw [fltH_len]; omega),fltH_len,Nat.add_sub_cancel_left,List.getElem?_map,ek]; rfl
  have hvn : ∀ i k,bs[i]? = some k → v.hp[t.hp.length + i]? = some (some k) := fun i k ek => by
   show (u.hp.set j _)[t.hp.length + i]? = _
   rw [List.getElem?_set,if_neg (by omega)]; exact hun i k ek
  have hui : ∀ i,i < t.hp.length → u.hp[i]? = (t.hp[i]?).map (Option.map (TB.flt fun i => Nat.blt i t.hp.length)) := fun i hi => by
   show (fltH _ t.hp ++ _)[i]? = _
   rw [List.getElem?_append_left (by rw [fltH_len]; exact hi),fltH_get]
  have hvj : v.hp[j]? = some (some (.tld T L row (rsC t.hp.length T X).1)) := by
   show (u.hp.set j _)[j]? = _
   rw [List.getElem?_set,if_pos rfl,if_pos (by omega)]
  have hvi : ∀ i,i < t.hp.length → i ≠ j → v.hp[i]? = (t.hp[i]?).map (Option.map (TB.flt fun i => Nat.blt i t.hp.length)) := fun i hi hij => by
   show (u.hp.set j _)[i]? = _
   rw [List.getElem?_set,if_neg (fun e => hij e.symm)]; exact hui i hi
  have hl : ∀ i,Nat.blt i t.hp.length = true → hpk v.hp i = hpk t.hp i := fun i hi => by
   rw [Nat.blt_eq] at hi
   by_cases hij : i = j
   ·subst hij; rw [hpk_tld hvj,hpk_arr e]
   ·unfold hpk
    rw [hvi i hi hij]
    cases t.hp[i]? with
    | none => rfl
    | some c => cases c with
     | none => rfl
     | some c => simp [rlen_flt]
  have hcv : (rsC t.hp.length T X).1.map (cav v.hp) = rfC t.hp.length T X := cav_rsC T X t.hp.length hvn
  have hbk : bkC T X = bs.map fun b => some (tb v.hp b) := by
   unfold bkC
   rw [rsC_base T X 0 t.hp.length]
   refine List.map_congr_left fun b hb => ?_
   have : ∀ (T : Ty) (x : Den T) (b : Nat),∀ k ∈ (rsC b T x).2,∃ (A : Ty) (Z : List (Den A)),k = .arr A true Z := by
    intro T
    induction T with
    | i | bl | tx | sv | ar => intro x b k hk; cases hk
    | sl t _ => intro x b k hk; simp only [rsC,List.mem_singleton] at hk; exact ⟨_,_,hk⟩
    | st t ih => intro x; exact ih x
    | pr a c iha ihc =>
     intro x b k hk
     rcases List.mem_append.1 hk with h | h
     ·exact iha _ _ k h
     ·exact ihc _ _ k h
   obtain ⟨A,Z,rfl⟩ := this T X _ b hb
   rfl
  refine ⟨by show (toAS n v).sl.length = (toAS n t).sl.length; rw [toAS_len,toAS_len],fun i => ?_,?_,fun i y hy => ?_⟩
  ·show Im ((toAS n t).sl.getD i .any) _
   have hg2 : v.get n i = flt (fun i => Nat.blt i t.hp.length) (t.get n i) := get_flt n t _ _ (fun i => Nat.blt i t.hp.length) rfl i
   rw [toAS_get,toAS_get,hg2]
   exact av_flt hl _
  ·show (toHP v.hp).length = (((toHP t.hp).set j _).set j _ ++ bkC T X).length
   rw [toHP_len,hbk]
   show (u.hp.set j _).length = _
   simp [hul,toHP_len]
  ·show ∃ z,(toHP v.hp)[i]? = some z ∧ _
   replace hy : (((toHP t.hp).set j (some ⟨T.sz,0,(L.map (enc true T)).set row (.agg ([] ++ (cls true T X ++ []))),0⟩)).set j (some ⟨T.sz,0,(L.map (enc true T)).set row (.agg ([] ++ (rfC ((toHP t.hp).set j (some ⟨T.sz,0,(L.map (enc true T)).set row (.agg ([] ++ (cls true T X ++ []))),0⟩)).length T X ++ []))),0⟩) ++ bkC T X)[i]? = some y := hy
   rw [List.set_set,List.length_set,toHP_len,List.nil_append,List.append_nil] at hy
   rw [toHP_get]
   rcases Nat.lt_or_ge i t.hp.length with hi | hi
   ·rw [List.getElem?_append_left (by simpa [toHP_len] using hi),List.getElem?_set] at hy
    by_cases hij : j = i
    ·subst hij
     rw [if_pos rfl,if_pos (by rw [toHP_len]; exact hj)] at hy
     cases hy
     rw [hvj]
     refine ⟨_,rfl,?_⟩
     show RowLe _ (tb v.hp (.tld T L row (rsC t.hp.length T X).1))
     have : tb v.hp (.tld T L row (rsC t.hp.length T X).1) = ⟨T.sz,0,(L.map (enc true T)).set row (.agg (rfC t.hp.length T X)),0⟩ := by simp only [tb,hcv]
     rw [this]; exact .refl _
    ·rw [if_neg hij,toHP_get] at hy
     rw [hvi i hi (fun e => hij e.symm)]
     cases hb : t.hp[i]? with
     | none => rw [hb] at hy; cases hy
     | some c =>
      rw [hb] at hy
      simp only [Option.map_some,Option.some.injEq] at hy
      subst hy
      refine ⟨_,rfl,?_⟩
      cases c with
      | none => trivial
      | some c => exact tb_flt hl c
   ·rw [List.getElem?_append_right (by simpa [toHP_len] using hi)] at hy
    simp only [List.length_set,toHP_len] at hy
    rw [hbk,List.getElem?_map] at hy
    cases hk : bs[i - t.hp.length]? with
    | none => rw [hk] at hy; cases hy
    | some k =>
     rw [hk] at hy
     simp only [Option.map_some,Option.some.injEq] at hy
     subst hy
     have := hvn _ k hk
     rw [show t.hp.length + (i - t.hp.length) = i from by omega] at this
     rw [this]
     exact ⟨_,rfl,RowLe.refl _⟩
theorem StLe.app {s s' : AS} (h : StLe s s') (q : HP) : StLe { s with hp := s.hp ++ q } { s' with hp := s'.hp ++ q } := by
 refine ⟨h.len,h.sl,by simp [h.hl],fun i x hx => ?_⟩
 replace hx : (s.hp ++ q)[i]? = some x := hx
 show ∃ y,(s'.hp ++ q)[i]? = some y ∧ _
 rcases Nat.lt_or_ge i s.hp.length with hi | hi
 ·rw [List.getElem?_append_left hi] at hx
  rw [List.getElem?_append_left (by rw [h.hl]; exact hi)]
  exact h.hp i x hx
 ·rw [List.getElem?_append_right hi] at hx
  rw [List.getElem?_append_right (by rw [h.hl]; exact hi),h.hl]
  exact ⟨x,hx,by cases x; trivial; exact RowLe.refl _⟩
theorem ownz_conc {Θ : TyO} (x : Operand) (hc : Conc C (toAS n t) a w) : Conc C (toAS n (ownz Θ n t x)) a w := by
 unfold ownz
 split
 case h_2 => exact hc
 rename_i k
 split
 case h_2 => exact hc
 split
 case h_2 => exact hc
 rename_i j off len hx
 split
 case h_2 => exact hc
 rename_i T o L e
 cases hb : (Nat.beq off 0 && (o || T.flat)) with
 | false => exact hc
 | true =>
  simp only [Bool.and_eq_true,Nat.beq_eq] at hb
  obtain ⟨rfl,hof⟩ := hb
  simp only [cond_true]
  have hj : j < t.hp.length := (List.getElem?_eq_some_iff.1 e).1
  obtain ⟨N,M,ℓ,h⟩ := hc.fn
  have hlh : (toAS n t).hp.length = t.hp.length := by rw [toAS_hp,toHP_len]
  have hev : (toAS n t).ev (.tmp k) = .ref j L.length 0 len := by
   rw [toAS_ev]
   show av t.hp (t.get n k) = _
   rw [hx]; simp only [av,hpk_arr e]
  have r := h.d.ev (.tmp k)
  rw [hev] at r
  obtain ⟨m,L1,q1,q2,q3⟩ := h.hp j (some (tb t.hp (.arr T o L))) (by rw [toAS_hp,toHP_get,e]; rfl)
  have hrows : L.map (enc o T) = L.map (enc true T) := by
   refine List.map_congr_left fun y _ => ?_
   unfold enc
   cases o with
   | true => rfl
   | false => rw [cls_flat (by simpa using hof)]
  have hml : m.len = L.length := by have := q2.len; simpa [tb] using this
  have hfr : m.fr = 0 := q2.f0 rfl
  have hro : ∃ ad cap,a.eval (.tmp k) = .slice ad len cap ∧ refOk w m 0 len ad cap := by
   generalize a.eval (.tmp k) = v at r
   cases r with
   | ref mm h1 h2 =>
    rw [q1] at h1
    cases h1
    exact ⟨_,_,rfl,(h2 m rfl).2 hml.symm⟩
  obtain ⟨ad,cap,hv,hrf⟩ := hro
  have hlen : len ≤ L.length := by have := hrf.1; omega
  have htl : (L.take len).length = len := by simp; omega
  have hrep : RepC w N M m.b m.o ((L.map (enc true T)).flatMap AV.cells) L1 := by have := q2.rep; simpa [tb,hrows] using this
  have hsp : (L.map (enc true T)).flatMap AV.cells = ((L.take len).map (enc true T)).flatMap AV.cells ++ ((L.drop len).map (enc true T)).flatMap AV.cells := by
   rw [← List.flatMap_append,← List.map_append,List.take_append_drop]
  rw [hsp] at hrep
  obtain ⟨A,B,hL1,hA,_⟩ := hrep.append
  let m' : Cn := { m with len := len }
  let n0 := t.hp.length
  let M' : MT := fun i => if i = j then some none else if i = n0 then some (some m') else M i
  let ℓ' : Nat → List (Nat × Nat) := fun i => if i = j then [] else if i = n0 then ownOf m' A else ℓ i
  have hjn : j ≠ n0 := by omega
  have hM1 : M' j = some none := by simp [M']
  have hM2 : M' n0 = some (some m') := by simp [M',Ne.symm hjn]
  have hM3 : ∀ i,i ≠ j → i ≠ n0 → M' i = M i ∧ ℓ' i = ℓ i := fun i h1 h2 => ⟨by simp [M',h1,h2],by simp [ℓ',h1,h2]⟩
  have hl1 : ℓ' j = [] := by simp [ℓ']
  have hl2 : ℓ' n0 = ownOf m' A := by simp [ℓ',Ne.symm hjn]
  have hMn : M n0 = none := h.un n0 (by omega)
  have g : Gr w w N N M M' := ⟨fun _ c _ _ h => ⟨c,h,rfl⟩,fun _ _ _ => rfl,fun _ _ hn => hn,fun i x hx => by
   by_cases h1 : i = j
   ·exact ⟨none,by rw [h1]; exact hM1,fun m' hm' => by cases hm'⟩
   ·by_cases h2 : i = n0
    ·rw [h2,hMn] at hx; cases hx
    ·exact ⟨x,by rw [(hM3 i h1 h2).1]; exact hx,fun m' hm' => ⟨m',hm',.inl rfl⟩⟩⟩
  have hoO : ∀ B,ownOf m' B = if m.virt = true then [] else (m.b,m.fr) :: B.map fun b => (b,0) := fun B => rfl
  have hoM : ∀ B,ownOf m B = if m.virt = true then [] else (m.b,m.fr) :: B.map fun b => (b,0) := fun B => rfl
  have hsub : ∀ p ∈ ownOf m' A,p ∈ ℓ j := fun p hp => by
   rw [q3,hoM]
   rw [hoO] at hp
   by_cases hvt : m.virt = true
   ·rw [if_pos hvt] at hp; cases hp
   ·rw [if_neg hvt] at hp ⊢
    rcases List.mem_cons.1 hp with hp | hp
    ·exact List.mem_cons.2 (.inl hp)
    ·refine List.mem_cons_of_mem _ ?_
     rw [hL1,List.map_append]
     exact List.mem_append_left _ hp
  let kb : Blk := ⟨T.sz,0,(L.take len).map (enc true T),0⟩
  have hBR : BR w N M' kb m' A := by
   refine ⟨by show len = ((L.take len).map (enc true T)).length; rw [List.length_map,htl],q2.sz,by have := q2.fr; simpa [tb,kb] using this,fun y hy => ?_,hA.gr g (fun _ _ => rfl) (fun _ _ _ => rfl),fun e => ?_,fun e => ?_,Nat.zero_le _,fun i hi => by simp [kb] at hi,fun _ => hfr⟩
   ·obtain ⟨z,_,rfl⟩ := List.mem_map.1 hy
    show (enc true T z).cells.length = T.sz
    rw [enc_cells,cls_len]
   ·have := q2.vt e
    have hL : L = [] := by simpa [tb] using this
    simp [kb,hL]
   ·obtain ⟨c,ee,fz,r1,r2,r3⟩ := q2.rm e
    refine ⟨c,ee,fz,r1,Nat.le_trans (Nat.add_le_add_left (Nat.mul_le_mul_right _ ?_) _) r2,r3⟩
    show len ≤ m.len
    omega
  let s1 : AS := { toAS n t with hp := setAllH (toHP t.hp) [j] ++ [some kb] }
  have hs1 : s1.hp.length = n0 + 1 := by show (setAllH (toHP t.hp) [j] ++ [some kb]).length = _; rw [List.length_append,setAllH_len,toHP_len]; rfl
  have main : ConcF C s1 a w N M' ℓ' := by
   refine ⟨h.df,h.sl.gr g (fun _ hb => by cases hb),fun i x hx => ?_,fun i hi => ?_,fun i i' hi hi' hne p hp q hq => ?_,fun i hi p hp => ?_,h.nlt,h.nup,h.ndn,h.fr,fun k hk => ?_,fun k m1 m0 h1 h0 => ?_,fun k hk => h.mz k (by rw [hlh]; omega)⟩
   ·replace hx : (setAllH (toHP t.hp) [j] ++ [some kb])[i]? = some x := hx
    rcases Nat.lt_or_ge i n0 with hi | hi
    ·rw [List.getElem?_append_left (by rw [setAllH_len,toHP_len]; exact hi),setAllH_get] at hx
     by_cases hij : i = j
     ·subst hij
      rw [if_pos (by simp),if_pos (by rw [toHP_len]; exact hi)] at hx
      cases hx
      exact ⟨hM1,hl1⟩
     ·rw [if_neg (by simpa using hij)] at hx
      obtain ⟨g1,g2⟩ := hM3 i hij (by omega)
      have := h.hp i x (by rw [toAS_hp]; exact hx)
      rw [g2]
      cases x with
      | none => exact ⟨by rw [g1]; exact this.1,this.2⟩
      | some x =>
       obtain ⟨m2,L2,e1,e2,e3⟩ := this
       exact ⟨m2,L2,by rw [g1]; exact e1,e2.gr g (fun _ _ _ => rfl),e3⟩
    ·rw [List.getElem?_append_right (by rw [setAllH_len,toHP_len]; exact hi),setAllH_len,toHP_len] at hx
     have : i = n0 := by
      have := (List.getElem?_eq_some_iff.1 hx).1
      simp only [List.length_singleton] at this
      show i = t.hp.length
      omega
     subst this
     rw [show n0 - t.hp.length = 0 from Nat.sub_self _] at hx
     cases hx
     exact ⟨m',A,hM2,hBR,hl2⟩
   ·rw [hs1] at hi
    by_cases h1 : i = j
    ·rw [h1,hl1]; simp
    ·by_cases h2 : i = n0
     ·rw [h2,hl2]
      have hn := h.nd j (by rw [hlh]; exact hj)
      rw [q3,hoM] at hn
      rw [hoO]
      by_cases hvt : m.virt = true
      ·rw [if_pos hvt]; simp
      ·rw [if_neg hvt] at hn ⊢
       rw [hL1] at hn
       simp only [List.map_append,List.map_cons] at hn ⊢
       refine List.Nodup.sublist ?_ hn
       exact List.Sublist.cons_cons _ (List.sublist_append_left _ _)
     ·rw [(hM3 i h1 h2).2]; exact h.nd i (by rw [hlh]; omega)
   ·rw [hs1] at hi hi'
    have key : ∀ i,i < n0 + 1 → ∀ p ∈ ℓ' i,∃ z,z < n0 ∧ p ∈ ℓ z ∧ ((i = n0 ∧ z = j) ∨ (i = z ∧ i ≠ j)) := fun i hi p hp => by
     by_cases h1 : i = j
     ·rw [h1,hl1] at hp; cases hp
     ·by_cases h2 : i = n0
      ·rw [h2,hl2] at hp
       exact ⟨j,hj,hsub p hp,.inl ⟨h2,rfl⟩⟩
      ·rw [(hM3 i h1 h2).2] at hp
       exact ⟨i,by omega,hp,.inr ⟨rfl,h1⟩⟩
    obtain ⟨z,z1,z2,z3⟩ := key i hi p hp
    obtain ⟨z',y1,y2,y3⟩ := key i' hi' q hq
    exact h.dj z z' (by rw [hlh]; exact z1) (by rw [hlh]; exact y1) (by omega) p z2 q y2
   ·rw [hs1] at hi
    by_cases h1 : i = j
    ·rw [h1,hl1] at hp; cases hp
    ·by_cases h2 : i = n0
     ·rw [h2,hl2] at hp
      exact h.own j (by rw [hlh]; exact hj) p (hsub p hp)
     ·rw [(hM3 i h1 h2).2] at hp
      exact h.own i (by rw [hlh]; omega) p hp
   ·rw [hs1] at hk
    rw [(hM3 k (by omega) (by omega)).1]
    exact h.un k (by rw [hlh]; omega)
   ·by_cases h2 : k = j
    ·rw [h2,hM1] at h1; cases h1
    ·by_cases h3 : k = n0
     ·rw [h.mz k (by rw [hlh,h3]; exact Nat.le_refl _)] at h0; cases h0
     ·rw [(hM3 k h2 h3).1] at h1; exact h.mv k m1 m0 h1 h0
  have hrep2 : Rep w N M' (.ref n0 len 0 len) (a.eval (.tmp k)) [] := by
   rw [hv]
   refine .ref _ hM2 fun m2 e2 => ?_
   cases e2
   exact ⟨Nat.le_refl _,fun _ => ⟨by show 0 + len ≤ len; omega,hrf.2⟩⟩
  let u : TS := (t.kill [j]).new [.arr T true (L.take len)]
  have hkl : (t.kill [j]).hp.length = n0 := by show (setAll (fltH _ t.hp) [j]).length = _; simp [setAll,fltH_len,n0]
  have hle : StLe s1 (toAS n u) := by
   refine ((StLe.kill (n := n) (t := t) [j]).app [some kb]).trans ?_
   rw [toAS_hp]
   exact StLe.new (n := n) (t := t.kill [j]) (.arr T true (L.take len)) (RowLe.refl _)
  have hun : hpk u.hp n0 = some (some len) := by
   have : u.hp[n0]? = some (some (.arr T true (L.take len))) := by rw [← hkl]; exact new_len (t := t.kill [j]) _
   rw [hpk_arr this,htl]
  rw [toAS_put]
  have hput := main.d.put (some k) hrep2
  have hid : a.put (some k) (a.eval (.tmp k)) = a := by
   cases a with
   | mk tmps defers =>
    simp only [Act.put,Act.eval]
    congr 1
    apply Array.ext
    ·simp
    ·intro i h1 h2
     rw [Array.getElem_setIfInBounds]
     split
     ·rename_i e; subst e; simp [Array.getD,h2]
     ·rfl
  rw [hid] at hput
  refine (StLe.put hle (some k) ?_).conc ⟨_,_,_,hput⟩
  rw [av_own hun]
  exact Im.refl _
end
theorem ownzR_conc {C : Ctx} {n : Nat} {a : Act} {w : World} : (rs : List NR) → (t : TS) → Conc C (toAS n t) a w → Conc C (toAS n (ownzR n t rs)) a w
 | [],_,hc => hc
 | .t k :: rs,t,hc => ownzR_conc rs _ (ownz_conc (.tmp k) hc)
 | .c _ _ _ :: rs,t,hc => ownzR_conc rs t hc
end Go.Proofs.Ytkmhopbmpeiofaa.Nx
namespace Go.Proofs.Ytkmhopbmpeiofaa.Nx
open Go Go.RowKit
theorem ciL_append (a b : List AV) : ciL (a ++ b) = (ciL a && ciL b) := by simp [ciL_all]
theorem ciL_cls : ∀ (T : Ty) (x : Den T),ciL (cls false T x) = true := by
 intro T
 induction T with
 | i | bl | tx => intro x; rfl
 | ar n k =>
  intro x
  simp only [cls,arC]
  rw [ciL_all,List.all_eq_true]
  intro c hc
  obtain ⟨y,_,rfl⟩ := List.mem_map.1 hc
  rfl
 | sl t ih | sv t ih =>
  intro x
  simp only [cls,ciL,ci,Bool.not_false,Bool.true_and,Bool.and_true]
  rw [ciL_all,List.all_eq_true]
  intro c hc
  obtain ⟨y,_,rfl⟩ := List.mem_map.1 hc
  show ci (mkr t.ag (cls false t y)) = true
  have := ih y
  unfold mkr
  split
  ·exact this
  ·generalize cls false t y = l at this
   cases l with
   | nil => rfl
   | cons c l => simp only [ciL,Bool.and_eq_true] at this; exact this.1
 | pr a b iha ihb => intro x; simp only [cls,ciL_append,iha,ihb]; rfl
 | st t ih => intro x; exact ih x
theorem ci_mkr {ag : Bool} {l : List AV} (h : ciL l = true) : ci (mkr ag l) = true := by
 unfold mkr
 split
 ·exact h
 ·cases l with
  | nil => rfl
  | cons c l => simp only [ciL,Bool.and_eq_true] at h; exact h.1
theorem ci_enc (T : Ty) (x : Den T) : ci (enc false T x) = true := ci_mkr (ciL_cls T x)
theorem vmap_ci {hp : HP} {n : Nat} : ∀ {xs : List AV},ciL xs = true → xs.map (vw hp n) = xs
 | [],_ => rfl
 | x :: xs,h => by
  simp only [ciL,Bool.and_eq_true] at h
  rw [List.map_cons,vw_ci h.1,vmap_ci h.2]
theorem imm_mkr (ag : Bool) (l : List AV) : imm (mkr ag l) = mkr ag (immL l) := by
 unfold mkr
 split
 ·rfl
 ·cases l <;> rfl
mutual
theorem imm_ci : ∀ (x : AV),ci x = true → imm x = x
 | .any,_ => rfl
 | .val _,_ => rfl
 | .agg cs,h => by simp only [ci] at h; simp only [imm,immL_ci cs h]
 | .tup cs,h => by simp only [ci] at h; simp only [imm,immL_ci cs h]
 | .sl o _ rows,h => by
  simp only [ci,Bool.and_eq_true,Bool.not_eq_true'] at h
  simp only [imm,immL_ci rows h.2,h.1]
 | .ref ..,h => by cases h
 | .ptr ..,h => by cases h
 | .ipt cs,h => by simp only [ci] at h; simp only [imm,immL_ci cs h]
 | .fn _ cs,h => by simp only [ci] at h; simp only [imm,immL_ci cs h]
theorem immL_ci : ∀ (xs : List AV),ciL xs = true → immL xs = xs
 | [],_ => rfl
 | x :: xs,h => by
  simp only [ciL,Bool.and_eq_true] at h
  simp only [immL,imm_ci x h.1,immL_ci xs h.2]
end
theorem view_enc (H : HP) : ∀ (T : Ty) (x : Den T),immL (cls true T x) = cls false T x ∧ (∀ n,(cls true T x).map (vw H n) = cls false T x) ∧ (ciL (cls true T x) = true → cls true T x = cls false T x) := by
 intro T
 induction T with
 | i | bl | tx => intro x; exact ⟨rfl,fun n => vmap_ci rfl,fun _ => rfl⟩
 | ar m k => intro x; exact ⟨immL_ci _ (ciL_cls (.ar m k) x),fun n => vmap_ci (ciL_cls (.ar m k) x),fun _ => rfl⟩
 | sv t _ => intro x; exact ⟨immL_ci _ (ciL_cls (.sv t) x),fun n => vmap_ci (ciL_cls (.sv t) x),fun _ => rfl⟩
 | sl t ih =>
  intro x
  have him : ∀ y,imm (mkr t.ag (cls true t y)) = mkr t.ag (cls false t y) := fun y => by rw [imm_mkr,(ih y).1]
  have hvw : ∀ n y,vw H n (mkr t.ag (cls true t y)) = mkr t.ag (cls false t y) := fun n y => by
   cases hag : t.ag with
   | false =>
    have h1 : (cls true t y).length = 1 := by rw [cls_len]; exact sz_one hag
    have h2 : (cls false t y).length = 1 := by rw [cls_len]; exact sz_one hag
    have := (ih y).2.1 n
    match h3 : cls true t y,h4 : cls false t y,h1,h2 with
    | [c],[c'],_,_ =>
     rw [h3,h4] at this
     simpa [mkr] using this
   | true =>
    simp only [mkr,if_true]
    cases hc : ci (.agg (cls true t y)) with
    | true => rw [vw_ci hc,(ih y).2.2 hc]
    | false =>
     cases n with
     | zero => simp only [vw,hc,Bool.false_eq_true,if_false,imm,(ih y).1]
     | succ n => simp only [vw,hc,Bool.false_eq_true,if_false,(ih y).2.1 n]
  refine ⟨?_,fun n => ?_,fun h => ?_⟩
  ·simp only [cls,immL,imm]
   rw [immL_map,List.map_map]
   congr 2
   exact List.map_congr_left fun y _ => him y
  ·simp only [cls,List.map_cons,List.map_nil]
   have hc : ci (.sl true t.sz (x.map fun y => mkr t.ag (cls true t y))) = false := by simp [ci]
   congr 1
   cases n with
   | zero =>
    simp only [vw,hc,Bool.false_eq_true,if_false,imm,immL_map,List.map_map]
    congr 1
    exact List.map_congr_left fun y _ => him y
   | succ n =>
    simp only [vw,hc,Bool.false_eq_true,if_false,List.map_map]
    congr 1
    exact List.map_congr_left fun y _ => hvw n y
  ·simp [cls,ciL,ci] at h
 | pr a b iha ihb =>
  intro x
  refine ⟨?_,fun n => ?_,fun h => ?_⟩
  ·simp only [cls]
   rw [immL_map,List.map_append,← immL_map,← immL_map,(iha x.1).1,(ihb x.2).1]
  ·simp only [cls,List.map_append,(iha x.1).2.1 n,(ihb x.2).2.1 n]
  ·simp only [cls,ciL_append,Bool.and_eq_true] at h ⊢
   rw [(iha x.1).2.2 h.1,(ihb x.2).2.2 h.2]
 | st t ih => intro x; exact ih x
theorem vw_mkr (H : HP) (n : Nat) (T : Ty) (o : Bool) (x : Den T) : vw H n (enc o T x) = enc false T x := by
 cases o with
 | false => exact vw_ci (ci_enc T x)
 | true =>
  have := (view_enc H (.sl T) [x]).2.1 (n + 1)
  simp only [cls,List.map_cons,List.map_nil] at this
  have hc : ci (.sl true T.sz [mkr T.ag (cls true T x)]) = false := by simp [ci]
  simp only [vw,hc,Bool.false_eq_true,if_false,List.map_cons,List.map_nil,List.cons.injEq,AV.sl.injEq,and_true,true_and] at this
  exact this
end Go.Proofs.Ytkmhopbmpeiofaa.Nx
namespace Go.Proofs.Ytkmhopbmpeiofaa.Nx
open Go Go.RowKit
theorem imm_enc (o : Bool) (T : Ty) (x : Den T) : imm (enc o T x) = enc false T x := by
 cases o with
 | false => exact imm_ci _ (ci_enc T x)
 | true => unfold enc; rw [imm_mkr,(view_enc [] T x).1]
section
variable {C : Ctx} {s : AS} {a : Act} {w : World} {N N' : NT} {M : MT} {ℓ : Nat → List (Nat × Nat)}
theorem ConcF.moreN (h : ConcF C s a w N M ℓ) (hN : ∀ b o,N b o → N' b o) (hlt : ∀ b o,N' b o → b < w.heap.size) (hdn : ∀ b o,N' b o → C.N0 b o ∨ C.w0.heap.size ≤ b ∨ b ∈ C.X)
  (how : ∀ i,i < s.hp.length → ∀ p ∈ ℓ i,∀ o,N' p.1 o → o < p.2) : ConcF C s a w N' M ℓ := by
 have g : Gr w w N N' M M := ⟨fun _ c _ _ h => ⟨c,h,rfl⟩,fun _ _ _ => rfl,hN,fun i x hx => ⟨x,hx,fun m' hm' => ⟨m',hm',.inl rfl⟩⟩⟩
 refine ⟨h.df,h.sl.gr g (fun _ hb => by cases hb),fun i x hx => ?_,h.nd,h.dj,fun i hi p hp => ⟨(h.own i hi p hp).1,(h.own i hi p hp).2.1,how i hi p hp⟩,hlt,fun b o hn => hN b o (h.nup b o hn),hdn,h.fr,h.un,h.mv,h.mz⟩
 have := h.hp i x hx
 cases x with
 | none => exact this
 | some x =>
  obtain ⟨m,L1,e1,e2,e3⟩ := this
  exact ⟨m,L1,e1,e2.gr g (fun _ _ _ => rfl),e3⟩
end
section
variable {n : Nat} {t : TS} {C : Ctx} {a : Act} {w : World}
theorem put_self (a : Act) (k : Nat) : a.put (some k) (a.eval (.tmp k)) = a := by
 cases a with
 | mk tmps defers =>
  simp only [Act.put,Act.eval]
  congr 1
  apply Array.ext
  ·simp
  ·intro i h1 h2
   rw [Array.getElem_setIfInBounds]
   split
   ·rename_i e; subst e; simp [Array.getD,h2]
   ·rfl
theorem rep_seen {w : World} {N N' : NT} {M M' : MT} {T : Ty} {o : Bool} {L : List (Den T)} {b : Blk} {m : Cn} {L1 : List Nat} {j off len : Nat} {v : Value} (hb : b.rows = L.map (enc o T)) (hsz : b.sz = T.sz) (hM : M j = some (some m)) (q : BR w N M b m L1)
  (hN : ∀ b o,N b o → N' b o) (hL : ∀ x ∈ L1,∀ o,N' x o) (hm : m.virt = false → ∀ i,i < len * T.sz → N' m.b (m.o + off * T.sz + i)) (r : Rep w N M (.ref j L.length off len) v []) : Rep w N' M' (enc false (.sl T) ((L.drop off).take len)) v [] := by
 have hml : m.len = L.length := by rw [q.len,hb,List.length_map]
 have hms : m.sz = T.sz := by rw [q.sz,hsz]
 cases r with
 | ref mm h1 h2 =>
  rw [hM] at h1
  cases h1
  obtain ⟨h3,h4⟩ := (h2 m rfl).2 hml.symm
  have hen : enc false (.sl T) ((L.drop off).take len) = .sl false T.sz (((L.drop off).take len).map (enc false T)) := rfl
  rw [hen]
  have hlen : ((L.drop off).take len).length = len := by simp; omega
  rcases h4 with ⟨rfl,rfl⟩ | ⟨hv,rfl,h5,h6⟩
  ·rw [show (L.drop off).take 0 = [] from by simp]
   exact .slI0 _ _ _
  ·obtain ⟨K1,K2,K3,hK,r⟩ := q.rep.rows q.cl off len (by rw [hb,List.length_map]; omega)
   have r2 := r.imm (M' := M') hN (fun x hx => hL x (by rw [hK]; simp [hx]))
   rw [← immL_cells,hb] at r2
   have e : immL (((L.map (enc o T)).drop off).take len) = ((L.drop off).take len).map (enc false T) := by
    rw [immL_map,← List.map_drop,← List.map_take,List.map_map]
    exact List.map_congr_left fun y _ => imm_enc o T y
   rw [e] at r2
   have r3 : RepC w N' M' m.b (m.o + off * m.sz) ((((L.drop off).take len).map (enc false T)).flatMap AV.cells) [] := by
    rw [hms,← hsz]; exact r2
   rename_i cap
   have hlm : (((L.drop off).take len).map (enc false T)).length = len := by rw [List.length_map,hlen]
   have := Rep.slI (cap := cap) r3 (sz := T.sz) (fun y hy => by
    obtain ⟨z,_,rfl⟩ := List.mem_map.1 hy
    rw [enc_cells,cls_len]) (fun i hi => by
     rw [hlm] at hi
     rw [hms]
     exact hm hv i hi) (by rw [hlm]; exact h5)
   rw [hlm] at this
   exact this
theorem seeV_spec {hp : THP} {x : TV} {j : Nat} {T : Ty} {L' : List (Den T)} (h : seeV hp x = some (j,⟨T,L'⟩)) :
  ∃ (b : TB) (o : Bool) (L : List (Den T)) (off len : Nat),hp[j]? = some (some b) ∧ (tb hp b).rows = L.map (enc o T) ∧ (tb hp b).sz = T.sz ∧ av hp x = .ref j L.length off len ∧ L' = (L.drop off).take len := by
 unfold seeV at h
 split at h
 ·split at h
  ·rename_i A o L e
   cases h
   exact ⟨_,o,L',0,L'.length,e,rfl,rfl,by simp only [av,hpk_arr e],by simp⟩
  ·rename_i A L e
   cases h
   exact ⟨_,false,L',0,L'.length,e,rfl,rfl,by simp only [av,hpk_log e],by simp⟩
  ·cases h
 ·rename_i j' off len
  split at h
  ·rename_i A o L e
   cases h
   exact ⟨_,o,L,off,len,e,rfl,rfl,by simp only [av,hpk_arr e],rfl⟩
  ·cases h
 ·cases h
theorem see_core {k j : Nat} {T : Ty} {L' : List (Den T)} (hs : seeV t.hp (t.get n k) = some (j,⟨T,L'⟩)) (hc : Conc C (toAS n t) a w) :
  ∃ N' M1 ℓ1,ConcF C { toAS n t with hp := setAllH (toAS n t).hp [j] } a w N' M1 ℓ1 ∧ ∀ k' T' L2,seeV t.hp (t.get n k') = some (j,⟨T',L2⟩) → Rep w N' M1 (enc false (.sl T') L2) (a.eval (.tmp k')) [] := by
 obtain ⟨b,o,L,off,len,e,h1,h2,h3,rfl⟩ := seeV_spec hs
 have hj : j < t.hp.length := (List.getElem?_eq_some_iff.1 e).1
 have hlh : (toAS n t).hp.length = t.hp.length := by rw [toAS_hp,toHP_len]
 obtain ⟨N,M,ℓ,h⟩ := hc.fn
 obtain ⟨m,L1,q1,q2,q3⟩ := h.hp j (some (tb t.hp b)) (by rw [toAS_hp,toHP_get,e]; rfl)
 obtain ⟨M1,ℓ1,k1,k2,k3⟩ := h.kill2 (l := [j]) (fun m hm => by simp only [List.mem_singleton] at hm; omega)
 let N' : NT := fun b o => N b o ∨ ∃ p ∈ ℓ j,p.1 = b
 have hN : ∀ b o,N b o → N' b o := fun b o h => .inl h
 have hown : m.virt = false → (m.b,m.fr) ∈ ℓ j ∧ ∀ x ∈ L1,(x,0) ∈ ℓ j := fun hv => by
  rw [q3,ownOf,if_neg (by rw [hv]; simp)]
  exact ⟨by simp,fun x hx => by simp [hx]⟩
 have hL1 : ∀ x ∈ L1,∀ o,N' x o := fun x hx o => by
  cases hv : m.virt with
  | false => exact .inr ⟨_,(hown hv).2 x hx,rfl⟩
  | true =>
   have hr := q2.rep
   rw [q2.vt hv] at hr
   cases hr
   cases hx
 have main : ConcF C { toAS n t with hp := setAllH (toAS n t).hp [j] } a w N' M1 ℓ1 := by
  refine k1.moreN hN (fun b o hb => ?_) (fun b o hb => ?_) (fun i hi p hp o hb => ?_)
  ·rcases hb with hb | ⟨p,hp,rfl⟩
   ·exact h.nlt b o hb
   ·exact (h.own j (by rw [hlh]; exact hj) p hp).1
  ·rcases hb with hb | ⟨p,hp,rfl⟩
   ·exact h.ndn b o hb
   ·exact .inr (h.own j (by rw [hlh]; exact hj) p hp).2.1
  ·have hi' : i < (toAS n t).hp.length := by
    have : (setAllH (toAS n t).hp [j]).length = (toAS n t).hp.length := setAllH_len _ _
    replace hi : i < (setAllH (toAS n t).hp [j]).length := hi
    omega
   obtain ⟨g1,g2⟩ := k2 i p hp
   rcases hb with hb | ⟨q,hq,e⟩
   ·exact (h.own i hi' p g2).2.2 o hb
   ·exact absurd e (h.dj j i (by rw [hlh]; exact hj) hi' (fun e => g1 (by simp [e])) q hq p g2)
 refine ⟨N',M1,ℓ1,main,fun k' T' L2 hs' => ?_⟩
 obtain ⟨b',o',L',off',len',e',h1',h2',h3',rfl⟩ := seeV_spec hs'
 rw [e] at e'
 cases e'
 have r' := h.d.ev (.tmp k')
 have hev' : (toAS n t).ev (.tmp k') = .ref j L'.length off' len' := by
  rw [toAS_ev]
  show av t.hp (t.get n k') = _
  rw [h3']
 rw [hev'] at r'
 exact rep_seen h1' h2' q1 q2 hN hL1 (fun hv i _ => .inr ⟨_,(hown hv).1,rfl⟩) r'
theorem see_conc (k : Nat) (hc : Conc C (toAS n t) a w) : Conc C (toAS n (see n t k)) a w := by
 unfold see
 split
 case h_2 => exact hc
 rename_i j T L' hs
 obtain ⟨N',M1,ℓ1,main,hrep⟩ := see_core hs hc
 have hput := main.d.put (some k) (hrep k T L' hs)
 rw [put_self] at hput
 rw [toAS_put]
 refine (StLe.put (StLe.kill (n := n) (t := t) [j]) (some k) ?_).conc ⟨_,_,_,hput⟩
 exact Im.refl _
theorem seeU_conc {N' : NT} {M1 : MT} {Lx : List (Nat × Nat)} {j : Nat} (hrep : ∀ k' T' L2,seeV t.hp (t.get n k') = some (j,⟨T',L2⟩) → Rep w N' M1 (enc false (.sl T') L2) (a.eval (.tmp k')) []) :
  ∀ (ks : List Nat) (t' : TS),ConcD C (toAS n t') a w N' M1 Lx → ConcD C (toAS n (seeU n t j ks t')) a w N' M1 Lx
 | [],_,h => h
 | k :: ks,t',h => by
  rw [seeU]
  split
  ·rename_i j' T L2 hs
   cases hb : Nat.beq j j' with
   | false => exact seeU_conc hrep ks t' h
   | true =>
    have hj : j = j' := Nat.eq_of_beq_eq_true hb
    subst hj
    rw [cond_true]
    refine seeU_conc hrep ks _ ?_
    have hput := h.put (some k) (hrep k T L2 hs)
    rw [put_self] at hput
    rw [toAS_put]
    exact hput
  ·exact seeU_conc hrep ks t' h
theorem seeA_conc (k : Nat) (hc : Conc C (toAS n t) a w) : Conc C (toAS n (seeA n t k)) a w := by
 unfold seeA
 split
 case h_2 => exact hc
 rename_i j x hs
 obtain ⟨T,L'⟩ := x
 obtain ⟨N',M1,ℓ1,main,hrep⟩ := see_core hs hc
 have h1 := (StLe.kill (n := n) (t := t) [j]).concF main
 exact ⟨_,_,_,seeU_conc hrep _ _ h1.d⟩
theorem seeO_conc {Θ : TyO} (x : Operand) (hc : Conc C (toAS n t) a w) : Conc C (toAS n (seeO Θ n t x)) a w := by
 unfold seeO
 split
 ·rename_i k
  cases isSee (tyAt Θ k) with
  | true => exact see_conc k hc
  | false =>
   cases isSeeA (tyAt Θ k) with
   | true => exact seeA_conc k hc
   | false => exact hc
 ·exact hc
end
theorem seeP_conc {Θ : TyO} {n : Nat} {C : Ctx} {a : Act} {w : World} : (ps : List (Nat × Nat × Operand)) → (t : TS) → Conc C (toAS n t) a w → Conc C (toAS n (seeP Θ n t ps)) a w
 | [],_,hc => hc
 | (_,_,x) :: ps,t,hc => seeP_conc ps _ (seeO_conc x hc)
theorem seeQ_conc {Θ : TyO} {n : Nat} {C : Ctx} {a : Act} {w : World} : (ps : List (Nat × Operand)) → (t : TS) → Conc C (toAS n t) a w → Conc C (toAS n (seeQ Θ n t ps)) a w
 | [],_,hc => hc
 | (_,x) :: ps,t,hc => seeQ_conc ps _ (seeO_conc x hc)
theorem seeR_conc {n : Nat} {C : Ctx} {a : Act} {w : World} : (bs : List Bool) → (rs : List NR) → (t : TS) → Conc C (toAS n t) a w → Conc C (toAS n (seeR n t bs rs)) a w
 | true :: bs,.t k :: rs,t,hc => seeR_conc bs rs _ (see_conc k hc)
 | true :: bs,.c _ _ _ :: rs,t,hc => seeR_conc bs rs t hc
 | false :: bs,.t _ :: rs,t,hc => seeR_conc bs rs t hc
 | false :: bs,.c _ _ _ :: rs,t,hc => seeR_conc bs rs t hc
 | [],[],_,hc => hc
 | [],_ :: _,_,hc => hc
 | _ :: _,[],t,hc => by
  have : ∀ b bs,seeR n t (b :: bs) [] = t := fun b bs => by cases b <;> rfl
  rw [this]; exact hc
section
variable {n : Nat} {t : TS} {C : Ctx} {a : Act} {w : World}
theorem enc_false_ci (T : Ty) (L : List (Den T)) : ∀ c ∈ (L.map (enc false T)).flatMap AV.cells,c.bare1 = true := by
 intro c hc
 obtain ⟨y,hy,hc⟩ := List.mem_flatMap.1 hc
 obtain ⟨z,_,rfl⟩ := List.mem_map.1 hy
 rw [enc_cells] at hc
 exact cls_bare T z c hc
theorem Get.frz {s : AS} {j k : Nat} {b : Blk} (hj : s.hp[j]? = some (some b)) (hbare : ∀ c ∈ b.rows.flatMap AV.cells,c.bare1 = true) (hk : s.ev (.tmp k) = .ref j b.rows.length 0 b.rows.length) :
  Get s (AS.put { s with hp := setAllH s.hp [j] ++ [some { b with lo := b.rows.length,fz := b.rows.length }] } (some k) (.ref s.hp.length b.rows.length 0 b.rows.length)) := fun C a w hc => by
 have hjl : j < s.hp.length := (List.getElem?_eq_some_iff.1 hj).1
 obtain ⟨N,M,ℓ,h⟩ := hc.fn
 have r := h.d.ev (.tmp k)
 rw [hk] at r
 obtain ⟨m,L1,q1,q2,q3⟩ := h.hp j (some b) hj
 have hL1 : L1 = [] := q2.rep.bare hbare
 subst hL1
 let l := b.rows.length
 have hml : m.len = l := q2.len
 let f' : Nat := if l = 0 then m.fr else m.o + l * m.sz
 let m' : Cn := { m with fr := f' }
 have hfr : m.fr ≤ f' := by
  by_cases hl : l = 0
  ·simp only [f',if_pos hl]; exact Nat.le_refl _
  ·simp only [f',if_neg hl]
   refine Nat.le_trans q2.fr (Nat.add_le_add_left ?_ _)
   rw [q2.sz]
   exact Nat.mul_le_mul_right _ q2.lo
 let N' : NT := fun x o => N x o ∨ (x = m.b ∧ m.virt = false ∧ o < f' ∧ l ≠ 0 ∧ m.o ≤ o)
 let n0 := s.hp.length
 let M' : MT := fun i => if i = j then some none else if i = n0 then some (some m') else M i
 let ℓ' : Nat → List (Nat × Nat) := fun i => if i = j then [] else if i = n0 then ownOf m' [] else ℓ i
 have hjn : j ≠ n0 := by omega
 have hM1 : M' j = some none := by simp [M']
 have hM2 : M' n0 = some (some m') := by simp [M',Ne.symm hjn]
 have hM3 : ∀ i,i ≠ j → i ≠ n0 → M' i = M i ∧ ℓ' i = ℓ i := fun i h1 h2 => ⟨by simp [M',h1,h2],by simp [ℓ',h1,h2]⟩
 have hl1 : ℓ' j = [] := by simp [ℓ']
 have hl2 : ℓ' n0 = ownOf m' [] := by simp [ℓ',Ne.symm hjn]
 have hMn : M n0 = none := h.un n0 (Nat.le_refl _)
 have hN : ∀ x o,N x o → N' x o := fun x o h => .inl h
 have g : Gr w w N N' M M' := ⟨fun _ c _ _ h => ⟨c,h,rfl⟩,fun _ _ _ => rfl,hN,fun i x hx => by
  by_cases h1 : i = j
  ·exact ⟨none,by rw [h1]; exact hM1,fun m' hm' => by cases hm'⟩
  ·by_cases h2 : i = n0
   ·rw [h2,hMn] at hx; cases hx
   ·exact ⟨x,by rw [(hM3 i h1 h2).1]; exact hx,fun m' hm' => ⟨m',hm',.inl rfl⟩⟩⟩
 have hoO : ownOf m' [] = if m.virt = true then [] else [(m.b,f')] := rfl
 have hoM : ownOf m [] = if m.virt = true then [] else [(m.b,m.fr)] := rfl
 have hfst : ∀ p ∈ ownOf m' [],∃ q ∈ ℓ j,q.1 = p.1 ∧ m.virt = false ∧ p = (m.b,f') := fun p hp => by
  rw [hoO] at hp
  by_cases hvt : m.virt = true
  ·rw [if_pos hvt] at hp; cases hp
  ·rw [if_neg hvt] at hp
   simp only [List.mem_singleton] at hp
   subst hp
   refine ⟨(m.b,m.fr),?_,rfl,by simpa using hvt,rfl⟩
   rw [q3,hoM,if_neg hvt]; simp
 let kb : Blk := { b with lo := l,fz := l }
 have hBR : BR w N' M' kb m' [] := by
  refine ⟨hml,q2.sz,?_,q2.cl,q2.rep.gr g (fun _ _ => rfl) (fun _ hb => by cases hb),q2.vt,q2.rm,Nat.le_refl _,fun i hi => ?_,fun e => ?_⟩
  ·show f' ≤ m.o + l * b.sz
   by_cases hl : l = 0
   ·simp only [f',if_pos hl]
    have h1 := q2.fr
    have h2 := q2.lo
    have : b.lo = 0 := by have : b.lo ≤ l := h2; omega
    rw [this] at h1
    rw [hl]; exact h1
   ·simp only [f',if_neg hl]; rw [q2.sz]; exact Nat.le_refl _
  ·replace hi : i < l * b.sz := hi
   have hl : l ≠ 0 := fun e => by rw [e] at hi; simp at hi
   refine .inr ⟨rfl,?_,?_,hl,Nat.le_add_right _ _⟩
   ·cases hv : m.virt with
    | false => rfl
    | true => exact absurd (by show b.rows.length = 0; rw [q2.vt hv]; rfl) hl
   ·show m.o + i < f'
    simp only [f',if_neg hl]; rw [q2.sz]; omega
  ·show f' = 0
   have hl : l = 0 := e
   simp only [f',if_pos hl]
   refine q2.f0 ?_
   have : b.lo ≤ l := q2.lo
   omega
 have hs1 : (setAllH s.hp [j] ++ [some kb]).length = n0 + 1 := by rw [List.length_append,setAllH_len]; rfl
 have main : ConcF C { s with hp := setAllH s.hp [j] ++ [some kb] } a w N' M' ℓ' := by
  refine ⟨h.df,h.sl.gr g (fun _ hb => by cases hb),fun i x hx => ?_,fun i hi => ?_,fun i i' hi hi' hne p hp q hq => ?_,fun i hi p hp => ?_,fun x o hx => ?_,fun x o hx => hN x o (h.nup x o hx),fun x o hx => ?_,h.fr,fun k hk => ?_,fun k m1 m0 h1 h0 => ?_,fun k hk => h.mz k ?_⟩
  ·replace hx : (setAllH s.hp [j] ++ [some kb])[i]? = some x := hx
   rcases Nat.lt_or_ge i n0 with hi | hi
   ·rw [List.getElem?_append_left (by rw [setAllH_len]; exact hi),setAllH_get] at hx
    by_cases hij : i = j
    ·subst hij
     rw [if_pos (by simp),if_pos hi] at hx
     cases hx
     exact ⟨hM1,hl1⟩
    ·rw [if_neg (by simpa using hij)] at hx
     obtain ⟨g1,g2⟩ := hM3 i hij (by omega)
     have := h.hp i x hx
     rw [g2]
     cases x with
     | none => exact ⟨by rw [g1]; exact this.1,this.2⟩
     | some x =>
      obtain ⟨m2,L2,e1,e2,e3⟩ := this
      exact ⟨m2,L2,by rw [g1]; exact e1,e2.gr g (fun _ _ _ => rfl),e3⟩
   ·rw [List.getElem?_append_right (by rw [setAllH_len]; exact hi),setAllH_len] at hx
    have : i = n0 := by
     have := (List.getElem?_eq_some_iff.1 hx).1
     simp only [List.length_singleton] at this
     show i = s.hp.length
     omega
    subst this
    rw [show n0 - s.hp.length = 0 from Nat.sub_self _] at hx
    cases hx
    exact ⟨m',[],hM2,hBR,hl2⟩
  ·replace hi : i < (setAllH s.hp [j] ++ [some kb]).length := hi
   rw [hs1] at hi
   by_cases h1 : i = j
   ·rw [h1,hl1]; simp
   ·by_cases h2 : i = n0
    ·rw [h2,hl2,hoO]
     split <;> simp
    ·rw [(hM3 i h1 h2).2]; exact h.nd i (by omega)
  ·replace hi : i < (setAllH s.hp [j] ++ [some kb]).length := hi
   replace hi' : i' < (setAllH s.hp [j] ++ [some kb]).length := hi'
   rw [hs1] at hi hi'
   have key : ∀ i,i < n0 + 1 → ∀ p ∈ ℓ' i,∃ z,z < n0 ∧ (∃ q ∈ ℓ z,q.1 = p.1) ∧ ((i = n0 ∧ z = j) ∨ (i = z ∧ i ≠ j)) := fun i hi p hp => by
    by_cases h1 : i = j
    ·rw [h1,hl1] at hp; cases hp
    ·by_cases h2 : i = n0
     ·rw [h2,hl2] at hp
      obtain ⟨q,e1,e2,_⟩ := hfst p hp
      exact ⟨j,hjl,⟨q,e1,e2⟩,.inl ⟨h2,rfl⟩⟩
     ·rw [(hM3 i h1 h2).2] at hp
      exact ⟨i,by omega,⟨p,hp,rfl⟩,.inr ⟨rfl,h1⟩⟩
   obtain ⟨z,z1,⟨x,z2,z4⟩,z3⟩ := key i hi p hp
   obtain ⟨z',y1,⟨y,y2,y4⟩,y3⟩ := key i' hi' q hq
   rw [← z4,← y4]
   exact h.dj z z' z1 y1 (by omega) x z2 y y2
  ·replace hi : i < (setAllH s.hp [j] ++ [some kb]).length := hi
   rw [hs1] at hi
   by_cases h1 : i = j
   ·rw [h1,hl1] at hp; cases hp
   ·by_cases h2 : i = n0
    ·rw [h2,hl2] at hp
     obtain ⟨q,e1,e2,_,e4⟩ := hfst p hp
     obtain ⟨o1,o2,o3⟩ := h.own j hjl q e1
     subst e4
     refine ⟨by rw [← e2]; exact o1,by rw [← e2]; exact o2,fun o ho => ?_⟩
     rcases ho with ho | ⟨_,_,ho,_⟩
     ·have hq : q ∈ ownOf m [] := by rw [← q3]; exact e1
      rw [hoM] at hq
      split at hq
      ·cases hq
      ·simp only [List.mem_singleton] at hq
       subst hq
       exact Nat.lt_of_lt_of_le (o3 o ho) hfr
     ·exact ho
    ·rw [(hM3 i h1 h2).2] at hp
     obtain ⟨o1,o2,o3⟩ := h.own i (by omega) p hp
     refine ⟨o1,o2,fun o ho => ?_⟩
     rcases ho with ho | ⟨e,hv,_⟩
     ·exact o3 o ho
     ·exfalso
      have hq : (m.b,m.fr) ∈ ℓ j := by rw [q3,hoM,if_neg (by rw [hv]; simp)]; simp
      exact h.dj j i hjl (by omega) (fun e => h1 e.symm) _ hq p hp e.symm
  ·rcases hx with hx | ⟨rfl,hv,_⟩
   ·exact h.nlt x o hx
   ·have hq : (m.b,m.fr) ∈ ℓ j := by rw [q3,hoM,if_neg (by rw [hv]; simp)]; simp
    exact (h.own j hjl _ hq).1
  ·rcases hx with hx | ⟨rfl,hv,_⟩
   ·exact h.ndn x o hx
   ·have hq : (m.b,m.fr) ∈ ℓ j := by rw [q3,hoM,if_neg (by rw [hv]; simp)]; simp
    exact .inr (h.own j hjl _ hq).2.1
  ·replace hk : (setAllH s.hp [j] ++ [some kb]).length ≤ k := hk
   rw [hs1] at hk
   rw [(hM3 k (by omega) (by omega)).1]
   exact h.un k (by omega)
  ·by_cases h2 : k = j
   ·rw [h2,hM1] at h1; cases h1
   ·by_cases h3 : k = n0
    ·rw [h.mz k (by rw [h3]; exact Nat.le_refl _)] at h0; cases h0
    ·rw [(hM3 k h2 h3).1] at h1; exact h.mv k m1 m0 h1 h0
  ·replace hk : (setAllH s.hp [j] ++ [some kb]).length ≤ k := hk
   rw [hs1] at hk
   omega
 have hrep : Rep w N' M' (.ref n0 l 0 l) (a.eval (.tmp k)) [] := by
  generalize a.eval (.tmp k) = v at r
  cases r with
  | ref mm h1 h2 =>
   rw [q1] at h1
   cases h1
   obtain ⟨h3,h4⟩ := (h2 m rfl).2 hml.symm
   refine .ref _ hM2 fun m2 e2 => ?_
   cases e2
   exact ⟨by show l ≤ m.len; omega,fun _ => ⟨h3,h4⟩⟩
 have hput := main.d.put (some k) hrep
 rw [put_self] at hput
 exact ⟨_,_,_,hput⟩
theorem look1_rep {w : World} {N : NT} {M : MT} {ℓ : Nat → List (Nat × Nat)} (h : ConcF C (toAS n t) a w N M ℓ) (x : TV) {v : Value} (r : Rep w N M (av t.hp x) v []) : Rep w N M (av t.hp (look1 t.hp x)) v [] := by
 unfold look1
 split
 ·rename_i j
  split
  ·rename_i T L e
   obtain ⟨m,L1,q1,q2,q3⟩ := h.hp j (some (tb t.hp (.log T L))) (by rw [toAS_hp,toHP_get,e]; rfl)
   have hL1 : L1 = [] := q2.rep.bare (enc_false_ci T L)
   subst hL1
   rw [show av t.hp (.own j) = .ref j L.length 0 L.length from by simp only [av,hpk_log e]] at r
   have := rep_seen (N' := N) (M' := M) (o := false) (L := L) rfl rfl q1 q2 (fun _ _ h => h) (fun _ hx => by cases hx) (fun hv i hi => by
    have := q2.fz i hi
    rwa [Nat.zero_mul,Nat.add_zero]) r
   rw [List.drop_zero,List.take_length] at this
   exact this
  ·exact r
 ·exact r
theorem fnd_look (ks : List Nat) (hp : THP) : ∀ (u : List (Nat × TV)) (k : Nat),fnd (lookU ks hp u) k = bif memB ks k then fnd u k else look1 hp (fnd u k)
 | [],k => by
  show TV.any = _
  cases memB ks k <;> rfl
 | p :: u,k => by
  simp only [lookU,fnd]
  cases hb : Nat.beq p.1 k with
  | true =>
   simp only [cond_true]
   rw [Nat.beq_eq] at hb
   rw [hb]
  | false => simp only [cond_false]; exact fnd_look ks hp u k
theorem look_conc (s : SK) (hc : Conc C (toAS n t) a w) : Conc C (toAS n (look s t)) a w := by
 unfold look
 split
 ·exact hc
 ·skip
  obtain ⟨N,M,ℓ,h⟩ := hc.fn
  refine ConcF.c (N := N) (M := M) (ℓ := ℓ) ⟨h.df,?_,h.hp,h.nd,h.dj,h.own,h.nlt,h.nup,h.ndn,h.fr,h.un,h.mv,h.mz⟩
  have hl := h.sl.length
  rw [toAS_len] at hl
  have key : ∀ (ys : List AV) (vs : List Value),ys.length = vs.length → (∀ i,Rep w N M (ys.getD i .any) (vs.getD i undef) []) → RepL w N M ys vs [] := by
   intro ys
   induction ys with
   | nil => intro vs hl _; cases vs with | nil => exact .nil | cons => simp at hl
   | cons y ys ih =>
    intro vs hl h
    cases vs with
    | nil => simp at hl
    | cons v vs => exact .cons (L1 := []) (L2 := []) (by simpa using h 0) (ih vs (by simpa using hl) fun i => by simpa using h (i + 1))
  refine key _ _ (by rw [toAS_len,hl]) fun i => ?_
  have r := h.sl.get i
  rw [toAS_get] at r
  rw [toAS_get]
  unfold TS.get at r ⊢
  cases hb : Nat.blt i n with
  | false => exact .any _
  | true =>
   rw [hb,cond_true] at r
   simp only [cond_true]
   rw [fnd_look]
   cases memB _ i with
   | true => exact r
   | false => exact look1_rep h _ r
end
end Go.Proofs.Ytkmhopbmpeiofaa.Nx
