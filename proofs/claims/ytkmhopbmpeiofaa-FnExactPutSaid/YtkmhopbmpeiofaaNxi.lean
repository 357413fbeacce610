/- What the evaluator reads is what memory holds: sound, with no condition beyond those each lemma names. -/
import Derived.Test.YtkmhopbmpeiofaaNxh
set_option linter.unusedVariables false
set_option linter.unusedSimpArgs false
namespace Go.Proofs.Ytkmhopbmpeiofaa.Nx
open Go Go.RowKit
section
variable {C : Ctx} {n : Nat} {t : TS} {a : Act} {w : World} {N : NT} {M : MT} {L : List (Nat × Nat)}
theorem bd_some {d : Int} {o : Option Operand} {l : Int} (h : t.bd n d o = some l) : bd (toAS n t) d o = some l := by
 cases o with
 | none => exact h
 | some x =>
  simp only [TS.bd] at h
  simp only [bd,toAS_ev]
  generalize t.ev n x = tx at *
  split at h
  ·cases h; rfl
  ·cases h
theorem inB_spec {l h m : Int} (hh : inB l h m = true) : 0 ≤ l ∧ l ≤ h ∧ h ≤ m := by
 unfold inB at hh
 simp only [Bool.and_eq_true,decide_eq_true_eq] at hh
 exact hh
theorem enc_sl (o : Bool) (T : Ty) (Lx : List (Den T)) : enc o (.sl T) Lx = .sl o T.sz (Lx.map (enc o T)) := rfl
theorem rd_slc (sz : Nat) (x : Operand) (lo hi : Option Operand) : RdOk n t (.slc sz x lo hi) := by
 intro h
 simp only [rd] at h ⊢
 simp only [apc,apv,toAS_ev]
 generalize t.ev n x = tx at *
 unfold slcT at h ⊢
 split at h
 ·rename_i T Lx
  split at h
  ·rename_i l h' el eh
   obtain ⟨h1,h2⟩ := h.and2
   have h1 := h1.ok
   simp only [Nat.beq_eq] at h1
   obtain ⟨b1,b2,b3⟩ := inB_spec h2.sm
   simp only [av,hpk,TB.rlen,enc_sl,slcC,slcV,List.length_map,bd_some el,bd_some eh,el,eh]
   refine ⟨⟨.inl h1,b1,b2,b3⟩,?_⟩
   rw [sub_eq (by simp; omega)]
   simp only [List.map_take,List.map_drop]
  ·exact h.bad.elim
 ·rename_i j
  split at h
  ·rename_i T o Lx e
   split at h
   ·rename_i l h' el eh
    obtain ⟨h1,h2⟩ := h.and2
    have h1 := h1.ok
    simp only [Nat.beq_eq] at h1
    obtain ⟨b1,b2,b3⟩ := inB_spec h2.sm
    simp only [av,hpk,TB.rlen,e,slcC,slcV,bd_some el,bd_some eh,el,eh,toAS_hp,at_arr e]
    refine ⟨⟨h1,b1,b2,b3⟩,?_⟩
    simp
   ·exact h.bad.elim
  ·exact h.bad.elim
 ·rename_i j off len
  split at h
  ·rename_i T o Lx e
   split at h
   ·rename_i l h' el eh
    obtain ⟨h1,h2⟩ := h.and2
    have h1 := h1.ok
    simp only [Nat.beq_eq] at h1
    obtain ⟨b1,b2,b3⟩ := inB_spec h2.sm
    simp only [av,hpk,TB.rlen,e,slcC,slcV,bd_some el,bd_some eh,el,eh,toAS_hp,at_arr e]
    exact ⟨⟨h1,b1,b2,b3⟩,trivial⟩
   ·exact h.bad.elim
  ·exact h.bad.elim
 ·exact h.bad.elim
theorem rd_sls (x : Operand) (lo hi : Option Operand) : RdOk n t (.sls x lo hi) := by
 intro h
 simp only [rd] at h ⊢
 simp only [apc,apv,toAS_ev]
 generalize t.ev n x = tx at *
 split at h
 ·rename_i s
  split at h
  ·rename_i l h' el eh
   have hb := inB_spec h.sm
   have e1 := bd_some el
   have e2 := bd_some eh
   show (match bd (toAS n t) 0 lo,bd (toAS n t) (s.size : Nat) hi with | some l,some h => 0 ≤ l ∧ l ≤ h ∧ h ≤ (s.size : Int) | _,_ => False) ∧ (match bd (toAS n t) 0 lo,bd (toAS n t) (s.size : Nat) hi with | some l,some h => AV.val (.string (s.extract l.toNat h.toNat)) | _,_ => .any) = _
   rw [e1,e2]
   simp only [el,eh]
   exact ⟨hb,rfl⟩
  ·exact h.bad.elim
 ·exact h.bad.elim
theorem fits_spec {hp : THP} {m : Nat} {x : TV} (h : x.fits hp m = true) : (av hp x).fits m = true ∧ x.cs.map (av hp) = (av hp x).cells := by
 have c1 : ∀ y : TV,y.c1 hp = true → (av hp y).cell1 = true ∧ (av hp y).cells = [av hp y] := by
  intro y hy
  cases y with
  | v T x => cases T <;> first | exact ⟨rfl,rfl⟩ | cases hy
  | c v => cases v <;> first | exact ⟨rfl,rfl⟩ | cases hy
  | nil => exact ⟨rfl,rfl⟩
  | own j =>
   simp only [TV.c1,isArr] at hy
   split at hy
   ·rename_i e
    simp only [av,e]
    exact ⟨rfl,rfl⟩
   ·cases hy
  | sub j o l =>
   simp only [TV.c1,isArr] at hy
   split at hy
   ·rename_i e
    simp only [av,e]
    exact ⟨rfl,rfl⟩
   ·cases hy
  | ipv => exact ⟨rfl,rfl⟩
  | ipt => exact ⟨rfl,rfl⟩
  | _ => cases hy
 have one : (Nat.beq m 1 && x.c1 hp) = true → (∀ t y,x ≠ .v (.st t) y) → (∀ cs,x ≠ .ag cs) → (av hp x).fits m = true ∧ x.cs.map (av hp) = (av hp x).cells := by
  intro h n1 n2
  simp only [Bool.and_eq_true,Nat.beq_eq] at h
  obtain ⟨rfl,h0⟩ := h
  obtain ⟨k1,k2⟩ := c1 x h0
  refine ⟨?_,?_⟩
  ·cases hx : av hp x <;> rw [hx] at k1 <;> first | (simp only [AV.fits]; rw [k1]; rfl) | cases k1
  ·rcases cs_av hp x with e | e
   ·exact e
   ·rw [h0] at e; cases e
 unfold TV.fits at h
 split at h
 ·rename_i T y
  simp only [Nat.beq_eq] at h
  refine ⟨?_,av_tcls hp T y⟩
  show ((cls false T y).length == m && (cls false T y).all AV.cell1) = true
  rw [cls_len,h]
  simp only [beq_self_eq_true,Bool.true_and,List.all_eq_true]
  exact fun c hc => (cls_cell1 false T y c hc).1
 ·rename_i k1 k2 y
  simp only [Nat.beq_eq] at h
  subst h
  refine ⟨?_,av_tcls hp (.ar _ _) y⟩
  show ((cls false (.ar _ _) y).length == _ && (cls false (.ar _ _) y).all AV.cell1) = true
  rw [cls_len]
  simp only [Ty.sz,beq_self_eq_true,Bool.true_and,List.all_eq_true]
  exact fun c hc => (cls_cell1 false (.ar _ _) y c hc).1
 ·rename_i cs
  simp only [Bool.and_eq_true,Nat.beq_eq] at h
  obtain ⟨rfl,h0⟩ := h
  refine ⟨?_,by simp only [TV.cs,av,avL_map]; rfl⟩
  show ((avL hp cs).length == cs.length && (avL hp cs).all AV.cell1) = true
  rw [avL_len,avL_map,List.all_map,beq_self_eq_true,Bool.true_and]
  rw [List.all_eq_true] at h0 ⊢
  exact fun c hc => (c1 c (h0 c hc)).1
 ·rename_i n1 n0 n2
  exact one h (fun t y e => n1 t y e) (fun cs e => n2 cs e)
theorem cAVt_spec (hp : THP) {z : List AV} (h : z.all isVal = true) : (z.map cAVt).map (av hp) = z := by
 rw [List.map_map]
 rw [List.all_eq_true] at h
 refine (List.map_congr_left fun x hx => ?_).trans (List.map_id z)
 have := h x hx
 cases x <;> first | exact av_leaf hp _ | cases this
theorem lay_spec : ∀ {ps : List (Nat × Nat × Operand)} {z : List TV} {len : Nat},layTC n t len ps = true → layC (toAS n t) len ps ∧ lay (toAS n t) (z.map (av t.hp)) ps = (layT n t z ps).map (av t.hp)
 | [],_,_,_ => ⟨trivial,rfl⟩
 | (off,m,x) :: ps,z,len,h => by
  simp only [layTC,Bool.and_eq_true] at h
  obtain ⟨h1,h2,h3⟩ := h
  obtain ⟨k1,k2⟩ := fits_spec h1
  obtain ⟨i1,i2⟩ := lay_spec (z := z.take off ++ ((t.ev n x).cs ++ z.drop (off + m))) h3
  refine ⟨⟨by rw [toAS_ev]; exact k1,Nat.le_of_ble_eq_true h2,i1⟩,?_⟩
  simp only [lay,layT,toAS_ev]
  rw [← i2]
  simp only [List.map_append,List.map_take,List.map_drop,k2]
theorem rd_bld (z : List AV) (ps : List (Nat × Nat × Operand)) : RdOk n t (.bld z ps) := by
 intro h
 simp only [rd] at h ⊢
 simp only [apc,apv]
 have h := h.ok
 simp only [Bool.and_eq_true] at h
 obtain ⟨k1,k2⟩ := lay_spec (z := z.map cAVt) h.2
 refine ⟨k1,?_⟩
 rw [cAVt_spec t.hp h.1] at k2
 simp only [av,avL_map,k2]
theorem c1_bare {hp : THP} {x : TV} (h : x.c1 hp = true) : (av hp x).bare1 = true := by
 cases x with
 | v T x => cases T <;> first | rfl | cases h
 | c v => rfl
 | nil => rfl
 | own j => simp only [av]; split <;> rfl
 | sub j o l => simp only [av]; split <;> rfl
 | ipv => rfl
 | ipt => rfl
 | _ => cases h
theorem txt_spec (hp : THP) (Lx : List Int) (o : Bool) : bytesRow (Lx.map (enc o (.i .u8))) = some (Lx.map fun x => UInt8.ofNat x.toNat) := by
 induction Lx with
 | nil => rfl
 | cons x xs ih =>
  show (bytesRow (xs.map (enc o (.i .u8)))).map (UInt8.ofNat x.toNat :: ·) = _
  rw [ih]; rfl
theorem rd_cbs (x : Operand) : RdOk n t (.cbs x) := by
 intro h
 simp only [rd] at h ⊢
 simp only [apc,apv,toAS_ev]
 generalize t.ev n x = tx at *
 split at h
 ·rename_i Lx
  simp only [av,hpk,TB.rlen,enc_sl,rowsOf,txt_spec t.hp Lx false]
  exact ⟨rfl,rfl⟩
 ·rename_i j
  split at h
  ·rename_i o Lx e
   simp only [av,hpk,TB.rlen,e,rowsOf,toAS_hp,at_arr e,Option.map_some]
   have : sub (Lx.map (enc o (.i .u8))) 0 Lx.length = Lx.map (enc o (.i .u8)) := by simp [sub]
   rw [this,txt_spec t.hp Lx o]
   exact ⟨rfl,rfl⟩
  ·exact h.bad.elim
 ·exact h.bad.elim
theorem cav_cell7 (hp : THP) (x : TV) : (cav hp x).bare1 = true ∧ (cav hp x).cells = [cav hp x] := by
 unfold cav
 cases hc : TV.c1 hp x with
 | false => exact ⟨rfl,rfl⟩
 | true =>
  refine ⟨c1_bare hc,?_⟩
  simp only [cond_true]
  cases x with
  | v T y => cases T <;> first | rfl | cases hc
  | c v => rfl
  | nil => rfl
  | own j => simp only [av]; split <;> rfl
  | sub j o l => simp only [av]; split <;> rfl
  | ipv => rfl
  | ipt => rfl
  | _ => cases hc
theorem cls_flatG : ∀ (T : Ty) (x : Den T) (off m : Nat),flatG T off m = true → off + m ≤ T.sz → ((cls true T x).drop off).take m = ((cls false T x).drop off).take m := by
 intro T
 induction T with
 | i | bl | tx | sv | ar => intro x off m h hl; rfl
 | sl t _ => intro x off m h hl; cases h
 | st t ih => exact fun x off m h hl => ih x off m h hl
 | pr a b iha ihb =>
  intro x off m h hl
  simp only [Ty.sz] at hl
  have la := cls_len true a x.1
  have la' := cls_len false a x.1
  simp only [flatG,Bool.or_eq_true] at h
  rcases h with h | h
  ·rw [cls_o (o := true) (T := .pr a b) (by simpa [Ty.flat] using h)]
  ·simp only [cls]
   cases hc : Nat.ble (off + m) a.sz with
   | true =>
    have hle := Nat.le_of_ble_eq_true hc
    rw [hc,cond_true] at h
    rw [List.drop_append_of_le_length (by omega),List.drop_append_of_le_length (by omega),List.take_append_of_le_length (by simp; omega),List.take_append_of_le_length (by simp; omega)]
    exact iha x.1 off m h hle
   | false =>
    rw [hc,cond_false] at h
    cases hd : Nat.ble a.sz off with
    | false => rw [hd] at h; cases h
    | true =>
     have hle := Nat.le_of_ble_eq_true hd
     rw [hd,cond_true] at h
     rw [List.drop_append,List.drop_append,show (cls true a x.1).drop off = [] from List.drop_eq_nil_of_le (by omega),show (cls false a x.1).drop off = [] from List.drop_eq_nil_of_le (by omega),la,la',List.nil_append,List.nil_append]
     exact ihb x.2 (off - a.sz) m h (by omega)
theorem rd_ld (hC : ConcD C (toAS n t) a w N M L) (m : Nat) (ag : Bool) (x : Operand) : RdOk n t (.ld m ag x) := by
 intro h
 simp only [rd] at h ⊢
 simp only [apc,apv]
 cases hx : t.ev n x with
 | ipv T y o =>
  simp only [hx,toAS_ev,av] at h ⊢
  have h := h.ok
  simp only [Bool.and_eq_true] at h
  have h1 := Nat.le_of_ble_eq_true h.1
  have h2 : 0 < m := by have := h.2.1; rw [Nat.blt_eq] at this; exact this
  have h3 := ag1 h.2.2
  refine ⟨⟨trivial,?_,?_,?_⟩,?_⟩
  ·simp only [cellsOf,List.length_drop,cls_len]; omega
  ·intro e; rcases h3 with h | h
   ·rw [e] at h; cases h
   ·exact h
  ·rw [List.all_eq_true]
   intro c hc
   exact cls_bare T y c (List.mem_of_mem_drop (List.mem_of_mem_take hc))
  ·rw [subV_av t.hp T y o m ag h1 h2 h3]
   cases ag with
   | true => rfl
   | false => simp only [Bool.false_eq_true,if_false,cellsOf,List.getD_eq_getElem?_getD,List.getElem?_drop,Nat.add_zero]
 | ipt cs =>
  simp only [hx,toAS_ev,av] at h ⊢
  have h := h.ok
  simp only [Bool.and_eq_true] at h
  have h1 := Nat.le_of_ble_eq_true h.1
  have h2 : 0 < m := by have := h.2.1; rw [Nat.blt_eq] at this; exact this
  have h3 := ag1 h.2.2.1
  refine ⟨⟨trivial,?_,?_,?_⟩,?_⟩
  ·simp only [cellsOf,avL_len]; exact h1
  ·intro e; rcases h3 with h | h
   ·rw [e] at h; cases h
   ·exact h
  ·simp only [cellsOf,← avL_take]
   have h4 := h.2.2.2
   rw [avL_map,List.all_map]
   rw [List.all_eq_true] at h4 ⊢
   exact fun c hc => c1_bare (h4 c hc)
  ·simp only [cellsOf]
   cases ag with
   | true => simp only [if_true,cond_true,av,avL_take]
   | false => simp only [Bool.false_eq_true,if_false,cond_false]; exact avL_getD _ _ _
 | ptr j row o =>
  simp only [hx] at h ⊢
  have hb : isBlk t.hp j = true := by
   unfold isBlk
   cases hj : t.hp[j]? with
   | none => simp only [hj] at h; exact h.bad.elim
   | some b => cases b with
    | none => simp only [hj] at h; exact h.bad.elim
    | some b => rfl
  obtain ⟨ver,p1,p2⟩ := ptr_blk (n := n) hb row o
  have hev : (toAS n t).ev x = .ptr j ver row o := by rw [toAS_ev,hx,p1]
  obtain ⟨b,mm,L1,q1,q2,q3,q4,q5,q6,q7,q8⟩ := hC.ptr hev p2
  rw [hev]
  simp only [ptrOk,cellsOf,HP.row,q1,Option.isSome_some]
  rcases isBlk_spec hb with ⟨T,ow,Lx,e⟩ | ⟨cs,e⟩ | ⟨T,R,e⟩ | ⟨T,Lx,r',o',c,e⟩ | ⟨T,Lx,r',cs,e⟩ | ⟨T,Lx,e⟩ | ⟨n',k',Lx,e⟩
  ·simp only [e] at h ⊢
   have hb' : b = ⟨T.sz,0,Lx.map (enc ow T),0⟩ := by
    rw [toAS_hp,toHP_get,e] at q5
    simpa [tb] using q5.symm
   subst hb'
   have h := h.ok
   simp only [Bool.and_eq_true] at h
   have hfl := h.1
   have h1 := Nat.le_of_ble_eq_true h.2.1
   have h2 : 0 < m := by have := h.2.2.1; rw [Nat.blt_eq] at this; exact this
   have h3 := ag1 h.2.2.2
   have hr : row < Lx.length := by
    have : (Lx.map (enc ow T)).length = ver := q6
    rw [List.length_map] at this; omega
   show (True ∧ m ≤ ((((Lx.map (enc ow T)).getD row .any).cells).drop o).length ∧ _) ∧ _
   rw [getD_map (d := dft T) hr,enc_cells]
   have heq : ∀ y : Den T,((cls ow T y).drop o).take m = ((cls false T y).drop o).take m := fun y => by
    cases ow with
    | false => rfl
    | true => exact cls_flatG T y o m (by simpa using hfl) h1
   refine ⟨⟨trivial,?_,?_,?_⟩,?_⟩
   ·simp only [List.length_drop,cls_len]; omega
   ·intro e; rcases h3 with h | h
    ·rw [e] at h; cases h
    ·exact h
   ·rw [heq,List.all_eq_true]
    intro c hc
    exact cls_bare T _ c (List.mem_of_mem_drop (List.mem_of_mem_take hc))
   ·rw [subV_av t.hp T _ o m ag h1 h2 h3]
    cases ag with
    | true => simp only [if_true]; rw [heq]
    | false =>
     obtain rfl : m = 1 := by rcases h3 with h | h; cases h; exact h
     have e2 := congrArg (fun l : List AV => l.getD 0 .any) (heq (Lx.getD row (dft T)))
     simp only [List.getD_eq_getElem?_getD,List.getElem?_take,List.getElem?_drop,Nat.add_zero] at e2
     simp only [Bool.false_eq_true,if_false,List.getD_eq_getElem?_getD,List.getElem?_drop,Nat.add_zero]
     simpa using e2
  ·simp only [e] at h ⊢
   have hb' : b = ⟨cs.length,0,[.agg (cs.map (cav t.hp))],0⟩ := by
    rw [toAS_hp,toHP_get,e] at q5
    simpa [tb] using q5.symm
   subst hb'
   have h0 := h.ok
   simp only [Bool.and_eq_true,Nat.beq_eq] at h0
   obtain ⟨rfl,hh⟩ := h0
   have h1 := Nat.le_of_ble_eq_true hh.1
   have h2 : 0 < m := by have := hh.2.1; rw [Nat.blt_eq] at this; exact this
   have h3 := ag1 hh.2.2.1
   have h4 := hh.2.2.2
   rw [List.all_eq_true] at h4
   have hcv : ((cs.map (cav t.hp)).drop o).take m = (((cs.drop o).take m).map (av t.hp)) := by
    rw [← List.map_drop,← List.map_take]
    refine List.map_congr_left fun c hc => ?_
    unfold cav
    rw [h4 c hc]; rfl
   show (True ∧ m ≤ ((cs.map (cav t.hp)).drop o).length ∧ (ag = false → m = 1) ∧ (((cs.map (cav t.hp)).drop o).take m).all AV.bare1 = true) ∧ (if ag then AV.agg (((cs.map (cav t.hp)).drop o).take m) else ((cs.map (cav t.hp)).drop o).getD 0 .any) = _
   refine ⟨⟨trivial,?_,?_,?_⟩,?_⟩
   ·simp only [List.length_drop,List.length_map]; omega
   ·intro e; rcases h3 with h | h
    ·rw [e] at h; cases h
    ·exact h
   ·rw [hcv,List.all_map,List.all_eq_true]
    exact fun c hc => c1_bare (h4 c hc)
   ·cases ag with
    | true => simp only [if_true,cond_true,av,avL_map,hcv]
    | false =>
     obtain rfl : m = 1 := by rcases h3 with h | h; cases h; exact h
     simp only [Bool.false_eq_true,if_false,cond_false]
     have hlt : o < cs.length := by omega
     have e1 : ((cs.map (cav t.hp)).drop o).getD 0 .any = ((((cs.map (cav t.hp)).drop o).take 1)).getD 0 .any := by
      simp only [List.getD_eq_getElem?_getD,List.getElem?_take]; rfl
     rw [e1,hcv]
     simp [List.getD_eq_getElem?_getD,hlt]
  ·simp only [e] at h; exact h.bad.elim
  ·simp only [e] at h ⊢
   have hb' : b = tb t.hp (.hol T Lx r' o' c) := by
    rw [toAS_hp,toHP_get,e] at q5
    simpa using q5.symm
   subst hb'
   obtain ⟨hh,hrow⟩ := h.and2
   have h := hh.ok
   have hrow := hrow.sm
   simp only [Bool.and_eq_true,Nat.beq_eq,Bool.not_eq_true'] at h hrow
   obtain ⟨rfl,rfl,rfl,h5,h6⟩ := h
   subst hrow
   rw [Nat.blt_eq] at h5
   have hr : row < Lx.length := by
    have : ((Lx.map (enc true T)).set row (.agg ((cls true T (Lx.getD row (dft T))).set o (cav t.hp c)))).length = ver := q6
    rw [List.length_set,List.length_map] at this; omega
   have hcell : (((tb t.hp (.hol T Lx row o c)).rows).getD row .any).cells = (cls true T (Lx.getD row (dft T))).set o (cav t.hp c) := by
    show (((Lx.map (enc true T)).set row (.agg ((cls true T (Lx.getD row (dft T))).set o (cav t.hp c)))).getD row .any).cells = _
    rw [List.getD_eq_getElem?_getD,List.getElem?_set,if_pos rfl,if_pos (by simpa using hr)]; rfl
   show (True ∧ 1 ≤ (((((tb t.hp (.hol T Lx row o c)).rows).getD row .any).cells).drop o).length ∧ _) ∧ _
   rw [hcell]
   have hl := cls_len true T (Lx.getD row (dft T))
   have hcv : cav t.hp c = av t.hp c := by unfold cav; rw [h6]; rfl
   have hd : (((cls true T (Lx.getD row (dft T))).set o (cav t.hp c)).drop o).take 1 = [cav t.hp c] := by
    rw [List.drop_eq_getElem_cons (by rw [List.length_set]; omega)]
    simp
   refine ⟨⟨trivial,?_,fun _ => rfl,?_⟩,?_⟩
   ·simp only [List.length_drop,List.length_set]; omega
   ·rw [hd]
    simp only [List.all_cons,List.all_nil,Bool.and_true]
    exact (cav_cell7 t.hp c).1
   ·simp only [Bool.false_eq_true,if_false]
    rw [List.drop_eq_getElem_cons (by rw [List.length_set]; omega)]
    simpa using hcv
  ·simp only [e] at h ⊢
   have hb' : b = tb t.hp (.tld T Lx r' cs) := by
    rw [toAS_hp,toHP_get,e] at q5
    simpa using q5.symm
   subst hb'
   obtain ⟨hh,hrow⟩ := h.and2
   have h := hh.ok
   have hrow := hrow.sm
   simp only [Bool.and_eq_true,Bool.or_eq_true,Nat.beq_eq,List.all_eq_true] at h hrow
   obtain ⟨h1,h2,h3,h4⟩ := h
   subst hrow
   have h1 := Nat.le_of_ble_eq_true h1
   rw [Nat.blt_eq] at h2
   have hr : row < Lx.length := by
    have : ((Lx.map (enc true T)).set row (.agg (cs.map (cav t.hp)))).length = ver := q6
    rw [List.length_set,List.length_map] at this; omega
   have hcell : (((tb t.hp (.tld T Lx row cs)).rows).getD row .any).cells = cs.map (cav t.hp) := by
    show (((Lx.map (enc true T)).set row (.agg (cs.map (cav t.hp)))).getD row .any).cells = _
    rw [List.getD_eq_getElem?_getD,List.getElem?_set,if_pos rfl,if_pos (by simpa using hr)]; rfl
   have hcv : ((cs.map (cav t.hp)).drop o).take m = ((cs.drop o).take m).map (av t.hp) := by
    rw [← List.map_drop,← List.map_take]
    exact List.map_congr_left fun c hc => by unfold cav; rw [h4 c hc]; rfl
   show (True ∧ m ≤ (((((tb t.hp (.tld T Lx row cs)).rows).getD row .any).cells).drop o).length ∧ _) ∧ _
   rw [hcell]
   refine ⟨⟨trivial,?_,?_,?_⟩,?_⟩
   ·simp only [List.length_drop,List.length_map]; omega
   ·intro e; rcases h3 with h | h
    ·rw [e] at h; cases h
    ·exact h
   ·rw [hcv,List.all_map,List.all_eq_true]
    exact fun c hc => c1_bare (h4 c hc)
   ·cases ag with
    | true => simp only [if_true,cond_true,av,avL_map,hcv]
    | false =>
     obtain rfl : m = 1 := by rcases h3 with h | h; cases h; exact h
     simp only [Bool.false_eq_true,if_false,cond_false]
     have hlt : o < cs.length := by omega
     have e1 : ((cs.map (cav t.hp)).drop o).getD 0 .any = ((((cs.map (cav t.hp)).drop o).take 1)).getD 0 .any := by
      simp only [List.getD_eq_getElem?_getD,List.getElem?_take]; rfl
     rw [e1,hcv]
     simp [List.getD_eq_getElem?_getD,hlt]
  ·simp only [e] at h; exact h.bad.elim
  ·simp only [e] at h ⊢
   have hb' : b = ⟨n',0,[.agg (arC n' k' Lx)],0⟩ := by
    rw [toAS_hp,toHP_get,e] at q5
    simpa [tb] using q5.symm
   subst hb'
   cases ag with
   | true =>
    simp only [cond_true] at h ⊢
    have h := h.ok
    simp only [Bool.and_eq_true,Nat.beq_eq] at h
    obtain ⟨rfl,rfl,rfl,h2⟩ := h
    show (True ∧ m ≤ ((arC m k' Lx).drop 0).length ∧ (true = false → m = 1) ∧ (((arC m k' Lx).drop 0).take m).all AV.bare1 = true) ∧ (if true = true then AV.agg (((arC m k' Lx).drop 0).take m) else ((arC m k' Lx).drop 0).getD 0 .any) = _
    have e9 : ((arC m k' Lx).drop 0).take m = arC m k' Lx := by
     rw [List.drop_zero,List.take_of_length_le (by rw [arC_len]; exact Nat.le_refl _)]
    refine ⟨⟨trivial,by rw [List.drop_zero,arC_len]; exact Nat.le_refl _,fun e => (by cases e),?_⟩,?_⟩
    ·rw [e9,List.all_eq_true]
     exact fun c hc => cls_bare (.ar m k') Lx c hc
    ·rw [if_pos rfl,e9]; rfl
   | false =>
    simp only [cond_false] at h ⊢
    obtain ⟨hh,ho⟩ := h.and2
    have h := hh.ok
    have ho := ho.sm
    simp only [Bool.and_eq_true,Nat.beq_eq,decide_eq_true_eq] at h ho
    obtain ⟨rfl,rfl⟩ := h
    show (True ∧ 1 ≤ ((arC n' k' Lx).drop o).length ∧ (True → 1 = 1) ∧ (((arC n' k' Lx).drop o).take 1).all AV.bare1 = true) ∧ (if false = true then AV.agg (((arC n' k' Lx).drop o).take 1) else ((arC n' k' Lx).drop o).getD 0 .any) = _
    refine ⟨⟨trivial,by rw [List.length_drop,arC_len]; omega,fun _ => rfl,?_⟩,?_⟩
    ·rw [List.all_eq_true]
     exact fun c hc => cls_bare (.ar n' k') Lx c (List.mem_of_mem_drop (List.mem_of_mem_take hc))
    ·simp only [Bool.false_eq_true,if_false]
     have e1 : ((arC n' k' Lx).drop o).getD 0 .any = (arC n' k' Lx).getD o .any := by
      simp [List.getD_eq_getElem?_getD]
     rw [e1,arC_getD ho]; rfl
 | _ => simp only [hx] at h; exact h.bad.elim
theorem rd_sound (hC : ConcD C (toAS n t) a w N M L) (no : NO) (h : Hc (rd n t no).1) : apc (toAS n t) no ∧ apv (toAS n t) no = av t.hp (rd n t no).2 := by
 cases no with
 | mv x => exact rd_mv x h
 | pick c x y => exact rd_pick c x y h
 | bin b x y => exact rd_bin b x y h
 | eqb g x y => exact rd_eqb g x y h
 | eqs ks g x y => exact rd_eqs ks g x y h
 | un u x => exact rd_un u x h
 | cvi k x => exact rd_cvi k x h
 | fad o x => exact rd_fad o x h
 | fld o m g x => exact rd_fld o m g x h
 | iad s x i => exact rd_iad s x i h
 | idx x i => exact rd_idx x i h
 | aad s l x i => exact rd_aad s l x i h
 | ixa s l g x i => exact rd_ixa s l g x i h
 | ext x i => exact rd_ext x i h
 | slc s x l u => exact rd_slc s x l u h
 | slz x l u m => exact rd_slz x l u m h
 | sls x l u => exact rd_sls x l u h
 | len x => exact rd_len x h
 | lns x => exact rd_lns x h
 | mnx m x y => exact rd_mnx m x y h
 | nck x => exact rd_nck x h
 | mkf f c => exact rd_mkf f c h
 | bld z p => exact rd_bld z p h
 | ld m g x => exact rd_ld hC m g x h
 | cbs x => exact rd_cbs x h
 | _ => exact h.bad.elim
end
end Go.Proofs.Ytkmhopbmpeiofaa.Nx
namespace Go.Proofs.Ytkmhopbmpeiofaa.Nx
open Go Go.RowKit
def HB (w : World) (N : NT) (M : MT) (i : Nat) : Option Blk → List (Nat × Nat) → Prop
 | none,l => M i = some none ∧ l = []
 | some x,l => ∃ m L1,M i = some (some m) ∧ BR w N M x m L1 ∧ l = ownOf m L1
structure ConcF (C : Ctx) (s : AS) (a : Act) (w : World) (N : NT) (M : MT) (ℓ : Nat → List (Nat × Nat)) : Prop where
 df : a.defers = []
 sl : RepL w N M s.sl a.tmps.toList []
 hp : ∀ (i : Nat) (x : Option Blk),s.hp[i]? = some x → HB w N M i x (ℓ i)
 nd : ∀ i,i < s.hp.length → ((ℓ i).map Prod.fst).Nodup
 dj : ∀ i j,i < s.hp.length → j < s.hp.length → i ≠ j → ∀ p ∈ ℓ i,∀ q ∈ ℓ j,p.1 ≠ q.1
 own : ∀ i,i < s.hp.length → ∀ p ∈ ℓ i,p.1 < w.heap.size ∧ (C.w0.heap.size ≤ p.1 ∨ p.1 ∈ C.X) ∧ ∀ o,N p.1 o → o < p.2
 nlt : ∀ b o,N b o → b < w.heap.size
 nup : ∀ b o,C.N0 b o → N b o
 ndn : ∀ b o,N b o → C.N0 b o ∨ C.w0.heap.size ≤ b ∨ b ∈ C.X
 fr : FrN C.N0 C.X C.w0 w
 un : ∀ k,s.hp.length ≤ k → M k = none
 mv : ∀ k m m0,M k = some (some m) → C.M0 k = some (some m0) → m0.len ≤ m.len ∧ (m.len = m0.len → m = m0)
 mz : ∀ k,s.hp.length ≤ k → C.M0 k = none
section
variable {C : Ctx} {s : AS} {a : Act} {w : World} {N : NT} {M : MT} {L : List (Nat × Nat)} {ℓ : Nat → List (Nat × Nat)}
theorem HR.fn : ∀ {hp : HP} {k : Nat} {L : List (Nat × Nat)},HR w N M k hp L → ∃ ℓ : Nat → List (Nat × Nat),L = (List.range hp.length).flatMap ℓ ∧ ∀ i x,hp[i]? = some x → HB w N M (k + i) x (ℓ i)
 | [],k,L,h => by
  cases h
  exact ⟨fun _ => [],rfl,fun i x e => by simp at e⟩
 | x :: hs,k,L,h => by
  have step : ∀ (l : List (Nat × Nat)) (L2 : List (Nat × Nat)),HR w N M (k + 1) hs L2 → HB w N M k x l → ∃ ℓ : Nat → List (Nat × Nat),l ++ L2 = (List.range (x :: hs).length).flatMap ℓ ∧ ∀ i y,(x :: hs)[i]? = some y → HB w N M (k + i) y (ℓ i) := by
   intro l L2 h2 hb
   obtain ⟨ℓ,e,hl⟩ := HR.fn h2
   refine ⟨fun i => match i with | 0 => l | i + 1 => ℓ i,?_,?_⟩
   ·rw [List.length_cons,List.range_succ_eq_map,List.flatMap_cons,List.flatMap_map,e]
   ·intro i y hy
    cases i with
    | zero => simp only [List.getElem?_cons_zero,Option.some.injEq] at hy; subst hy; exact hb
    | succ i =>
     have := hl i y (by simpa using hy)
     rw [show k + 1 + i = k + (i + 1) from by omega] at this; exact this
  cases h with
  | dead h1 h2 => exact step [] _ h2 ⟨h1,rfl⟩
  | live h1 h2 h3 => exact step _ _ h3 ⟨_,_,h1,h2,rfl⟩
theorem HR.of_fn : ∀ {hp : HP} {k : Nat} {ℓ : Nat → List (Nat × Nat)},(∀ i x,hp[i]? = some x → HB w N M (k + i) x (ℓ i)) → HR w N M k hp ((List.range hp.length).flatMap ℓ)
 | [],k,ℓ,_ => .nil k
 | x :: hs,k,ℓ,h => by
  have h2 := HR.of_fn (hp := hs) (k := k + 1) (ℓ := fun i => ℓ (i + 1)) fun i y hy => by
   have := h (i + 1) y (by simpa using hy)
   rw [show k + (i + 1) = k + 1 + i from by omega] at this; exact this
  have h0 := h 0 x rfl
  rw [List.length_cons,List.range_succ_eq_map,List.flatMap_cons,List.flatMap_map]
  cases x with
  | none => obtain ⟨h1,e⟩ := h0; simp only [e,List.nil_append]; exact .dead h1 h2
  | some x => obtain ⟨m,L1,h1,hb,e⟩ := h0; simp only [e]; exact .live h1 hb h2
theorem ConcD.fn (h : ConcD C s a w N M L) : ∃ ℓ,ConcF C s a w N M ℓ := by
 obtain ⟨ℓ,e,hl⟩ := h.hp.fn
 have hmem : ∀ i,i < s.hp.length → ∀ p ∈ ℓ i,p ∈ L := fun i hi p hp => by
  rw [e]; exact List.mem_flatMap.2 ⟨i,List.mem_range.2 hi,hp⟩
 have hnd := h.nd
 rw [e,List.map_flatMap] at hnd
 obtain ⟨n1,n2⟩ := List.pairwise_flatMap.1 hnd
 refine ⟨ℓ,h.df,h.sl,fun i x hx => by have := hl i x hx; rwa [Nat.zero_add] at this,fun i hi => n1 i (List.mem_range.2 hi),?_,fun i hi p hp => h.own p (hmem i hi p hp),h.nlt,h.nup,h.ndn,h.fr,h.un,h.mv,h.mz⟩
 have key : ∀ i j,i < j → j < s.hp.length → ∀ p ∈ ℓ i,∀ q ∈ ℓ j,p.1 ≠ q.1 := by
  intro i j hij hj p hp q hq e
  have n2 := List.pairwise_iff_getElem.1 n2 i j (by simp; omega) (by simp; omega) hij
  simp only [List.getElem_range] at n2
  exact n2 p.1 (List.mem_map_of_mem hp) q.1 (List.mem_map_of_mem hq) e
 intro i j hi hj hne p hp q hq
 rcases Nat.lt_or_gt_of_ne hne with h | h
 ·exact key i j h hj p hp q hq
 ·exact fun e => key j i h hi q hq p hp e.symm
theorem ConcF.d (h : ConcF C s a w N M ℓ) : ConcD C s a w N M ((List.range s.hp.length).flatMap ℓ) := by
 refine ⟨h.df,h.sl,HR.of_fn fun i x hx => by rw [Nat.zero_add]; exact h.hp i x hx,?_,?_,h.nlt,h.nup,h.ndn,h.fr,h.un,h.mv,h.mz⟩
 ·rw [List.map_flatMap]
  refine List.pairwise_flatMap.2 ⟨fun i hi => h.nd i (List.mem_range.1 hi),?_⟩
  rw [List.pairwise_iff_getElem]
  intro i j hi hj hij x hx y hy e
  simp only [List.getElem_range] at hx hy
  obtain ⟨p,hp,rfl⟩ := List.mem_map.1 hx
  obtain ⟨q,hq,e'⟩ := List.mem_map.1 hy
  simp only [List.length_range] at hi hj
  exact h.dj i j hi hj (by omega) p hp q hq (e.trans e'.symm)
 ·intro p hp
  obtain ⟨i,hi,hp⟩ := List.mem_flatMap.1 hp
  exact h.own i (List.mem_range.1 hi) p hp
theorem Conc.fn (h : Conc C s a w) : ∃ N M ℓ,ConcF C s a w N M ℓ := by
 obtain ⟨N,M,L,h⟩ := h
 obtain ⟨ℓ,h⟩ := h.fn
 exact ⟨N,M,ℓ,h⟩
theorem ConcF.c (h : ConcF C s a w N M ℓ) : Conc C s a w := ⟨N,M,_,h.d⟩
end
def Im (x y : AV) : Prop := ∀ w N M v,Rep w N M x v [] → Rep w N M y v []
theorem Im.refl (x : AV) : Im x x := fun _ _ _ _ h => h
theorem Im.any (x : AV) : Im x .any := fun _ _ _ v _ => .any v
theorem Im.trans {x y z : AV} (h : Im x y) (k : Im y z) : Im x z := fun w N M v r => k w N M v (h w N M v r)
theorem Im.list {xs ys : List AV} (hl : ys.length = xs.length) (h : ∀ i,i < xs.length → Im (xs.getD i .any) (ys.getD i .any)) {w : World} {N : NT} {M : MT} {vs : List Value} (r : RepL w N M xs vs []) : RepL w N M ys vs [] := by
 induction xs generalizing ys vs with
 | nil =>
  cases r
  cases ys with
  | nil => exact .nil
  | cons => simp at hl
 | cons x xs ih =>
  cases ys with
  | nil => simp at hl
  | cons y ys =>
   generalize hK : ([] : List Nat) = K at r
   cases r with
   | cons hx ht =>
    obtain ⟨rfl,rfl⟩ := List.append_eq_nil_iff.1 hK.symm
    refine .cons (L1 := []) (L2 := []) (by simpa using h 0 (by simp) _ _ _ _ hx) (ih (by simpa using hl) (fun i hi => ?_) ht)
    have := h (i + 1) (by simpa using hi)
    simpa using this
theorem Im.all2 {xs ys : List AV} (h : All2 Im xs ys) {w : World} {N : NT} {M : MT} {vs : List Value} (r : RepL w N M xs vs []) : RepL w N M ys vs [] := by
 induction h generalizing vs with
 | nil => exact r
 | cons hx _ ih =>
  generalize hK : ([] : List Nat) = K at r
  cases r with
  | cons h1 h2 =>
   obtain ⟨rfl,rfl⟩ := List.append_eq_nil_iff.1 hK.symm
   exact .cons (L1 := []) (L2 := []) (hx _ _ _ _ h1) (ih h2)
theorem All2.mem_left {α β : Type} {R : α → β → Prop} {a : List α} {b : List β} (h : All2 R a b) {x : α} (hx : x ∈ a) : ∃ y,R x y := by
 induction h with
 | nil => cases hx
 | cons h1 _ ih =>
  rcases List.mem_cons.1 hx with rfl | hx
  ·exact ⟨_,h1⟩
  ·exact ih hx
theorem All2.mem_right {α β : Type} {R : α → β → Prop} {a : List α} {b : List β} (h : All2 R a b) {y : β} (hy : y ∈ b) : ∃ x,R x y := by
 induction h with
 | nil => cases hy
 | cons h1 _ ih =>
  rcases List.mem_cons.1 hy with rfl | hy
  ·exact ⟨_,h1⟩
  ·exact ih hy
theorem Im.agg {xs ys : List AV} (h : All2 Im xs ys) : Im (.agg xs) (.agg ys) := fun _ _ _ _ r => by
 cases r with
 | agg r => exact .agg (Im.all2 h r)
theorem Im.tup {xs ys : List AV} (h : All2 Im xs ys) : Im (.tup xs) (.tup ys) := fun _ _ _ _ r => by
 cases r with
 | tup r => exact .tup (Im.all2 h r)
theorem Im.fn {f : FuncId} {xs ys : List AV} (h : All2 Im xs ys) : Im (.fn f xs) (.fn f ys) := fun _ _ _ _ r => by
 cases r with
 | fn r => exact .fn (Im.all2 h r)
theorem RepC.len {w : World} {N : NT} {M : MT} {b o : Nat} {xs : List AV} {K : List Nat} (r : RepC w N M b o xs K) : True := trivial
theorem Im.cells {xs ys : List AV} (h : All2 Im xs ys) {w : World} {N : NT} {M : MT} {b o : Nat} (r : RepC w N M b o xs []) : RepC w N M b o ys [] := by
 induction h generalizing o with
 | nil => cases r; exact .nil _ _
 | cons hx _ ih =>
  generalize hK : ([] : List Nat) = K at r
  cases r with
  | cons hc h1 h2 =>
   obtain ⟨rfl,rfl⟩ := List.append_eq_nil_iff.1 hK.symm
   exact .cons (L1 := []) (L2 := []) hc (hx _ _ _ _ h1) (ih h2)
theorem Im.ipt {xs ys : List AV} (h : All2 Im xs ys) : Im (.ipt xs) (.ipt ys) := fun _ _ _ _ r => by
 cases r with
 | ipt r hN => exact .ipt (Im.cells h r) (fun i hi => hN i (by rw [h.length_eq]; exact hi))
def RowLe (b b' : Blk) : Prop := b'.sz = b.sz ∧ b'.lo = b.lo ∧ b'.fz = b.fz ∧ b'.rows.length = b.rows.length ∧ ((∀ y ∈ b.rows,y.cells.length = b.sz) → ∀ y ∈ b'.rows,y.cells.length = b.sz) ∧
 ∀ w N M p o K,RepC w N M p o (b.rows.flatMap AV.cells) K → RepC w N M p o (b'.rows.flatMap AV.cells) K
theorem RowLe.refl (b : Blk) : RowLe b b := ⟨rfl,rfl,rfl,rfl,fun h => h,fun _ _ _ _ _ _ h => h⟩
def OpLe : Option Blk → Option Blk → Prop
 | none,none => True
 | some b,some b' => RowLe b b'
 | _,_ => False
theorem BR.rowLe {w : World} {N : NT} {M : MT} {b b' : Blk} (h : RowLe b b') {m : Cn} {L1 : List Nat} (r : BR w N M b m L1) : BR w N M b' m L1 := by
 obtain ⟨h1,h2,h3,h4,h5,h6⟩ := h
 refine ⟨by rw [r.len,h4],by rw [r.sz,h1],by rw [h1,h2]; exact r.fr,by rw [h1]; exact h5 r.cl,h6 _ _ _ _ _ _ r.rep,fun e => ?_,r.rm,by rw [h2,h4]; exact r.lo,by rw [h1,h3]; exact r.fz,by rw [h2]; exact r.f0⟩
 exact List.eq_nil_of_length_eq_zero (by rw [h4,r.vt e]; rfl)
structure StLe (s s' : AS) : Prop where
 len : s'.sl.length = s.sl.length
 sl : ∀ i,Im (s.sl.getD i .any) (s'.sl.getD i .any)
 hl : s'.hp.length = s.hp.length
 hp : ∀ (i : Nat) (x : Option Blk),s.hp[i]? = some x → ∃ y,s'.hp[i]? = some y ∧ OpLe x y
theorem StLe.refl (s : AS) : StLe s s := ⟨rfl,fun _ => .refl _,rfl,fun i x h => ⟨x,h,by cases x; trivial; exact RowLe.refl _⟩⟩
theorem StLe.concF {C : Ctx} {s s' : AS} {a : Act} {w : World} {N : NT} {M : MT} {ℓ : Nat → List (Nat × Nat)} (h : StLe s s') (hc : ConcF C s a w N M ℓ) : ConcF C s' a w N M ℓ := by
 refine ⟨hc.df,Im.list h.len (fun i _ => h.sl i) hc.sl,fun i y hy => ?_,fun i hi => hc.nd i (by rw [← h.hl]; exact hi),fun i j hi hj => hc.dj i j (by rw [← h.hl]; exact hi) (by rw [← h.hl]; exact hj),fun i hi => hc.own i (by rw [← h.hl]; exact hi),hc.nlt,hc.nup,hc.ndn,hc.fr,fun k hk => hc.un k (by rw [← h.hl]; exact hk),hc.mv,fun k hk => hc.mz k (by rw [← h.hl]; exact hk)⟩
 have hi : i < s.hp.length := by rw [← h.hl]; exact (List.getElem?_eq_some_iff.1 hy).1
 obtain ⟨y',e1,e2⟩ := h.hp i _ (List.getElem?_eq_getElem hi)
 rw [hy] at e1
 cases e1
 have := hc.hp i _ (List.getElem?_eq_getElem hi)
 revert e2 this
 generalize s.hp[i] = x
 intro e2 this
 cases x <;> cases y <;> first | exact e2.elim | skip
 ·exact this
 ·obtain ⟨m,L1,h1,h2,h3⟩ := this
  exact ⟨m,L1,h1,h2.rowLe e2,h3⟩
theorem StLe.conc {C : Ctx} {s s' : AS} {a : Act} {w : World} (h : StLe s s') (hc : Conc C s a w) : Conc C s' a w := by
 obtain ⟨N,M,ℓ,hc⟩ := hc.fn
 exact (h.concF hc).c
theorem StLe.put {s s' : AS} (h : StLe s s') (d : Option Nat) {x y : AV} (hx : Im x y) : StLe (s.put d x) (s'.put d y) := by
 cases d with
 | none => exact h
 | some d =>
  refine ⟨by simp [AS.put,h.len],fun i => ?_,h.hl,h.hp⟩
  have := h.sl i
  simp only [AS.put,List.getD_eq_getElem?_getD,List.getElem?_set,h.len] at this ⊢
  split
  ·split
   ·exact hx
   ·exact .refl _
  ·exact this
theorem StLe.trans {s s' s'' : AS} (h : StLe s s') (k : StLe s' s'') : StLe s s'' := by
 refine ⟨k.len.trans h.len,fun i => (h.sl i).trans (k.sl i),k.hl.trans h.hl,fun i x hx => ?_⟩
 obtain ⟨y,h1,h2⟩ := h.hp i x hx
 obtain ⟨z,k1,k2⟩ := k.hp i y h1
 refine ⟨z,k1,?_⟩
 cases x <;> cases y <;> cases z <;> first | exact h2.elim | exact k2.elim | trivial | skip
 obtain ⟨a1,a2,a3,a4,a5,a6⟩ := h2
 obtain ⟨b1,b2,b3,b4,b5,b6⟩ := k2
 refine ⟨b1.trans a1,b2.trans a2,b3.trans a3,b4.trans a4,fun q => ?_,fun w N M p o K r => b6 _ _ _ _ _ _ (a6 _ _ _ _ _ _ r)⟩
 have := b5 (by rw [a1]; exact a5 q)
 rw [a1] at this; exact this
end Go.Proofs.Ytkmhopbmpeiofaa.Nx
namespace Go.Proofs.Ytkmhopbmpeiofaa.Nx
open Go Go.RowKit
theorem fltL_map (p : Nat → Bool) : ∀ xs,fltL p xs = xs.map (flt p)
 | [] => rfl
 | x :: xs => by rw [fltL,fltL_map p xs]; rfl
theorem fltH_map (p : Nat → Bool) : ∀ hp,fltH p hp = hp.map (Option.map (TB.flt p))
 | [] => rfl
 | x :: xs => by rw [fltH,fltH_map p xs]; rfl
mutual
theorem av_congr {hp hp' : THP} (h : ∀ j,hpk hp' j = hpk hp j) : ∀ x : TV,av hp' x = av hp x
 | .any => rfl
 | .v _ _ => rfl
 | .c _ => rfl
 | .nil => rfl
 | .emp => rfl
 | .ag cs => by rw [av,av,avL_congr h cs]
 | .tp cs => by rw [av,av,avL_congr h cs]
 | .own j => by simp only [av,h j]
 | .sub j o l => by simp only [av,h j]
 | .ptr j r o => by simp only [av,h j]
 | .ipv _ _ _ => rfl
 | .ipt cs => by rw [av,av,avL_congr h cs]
 | .fn f cs => by rw [av,av,avL_congr h cs]
theorem avL_congr {hp hp' : THP} (h : ∀ j,hpk hp' j = hpk hp j) : ∀ xs : List TV,avL hp' xs = avL hp xs
 | [] => rfl
 | x :: xs => by rw [avL,avL,av_congr h x,avL_congr h xs]
end
theorem c1_congr {hp hp' : THP} (h : ∀ j,hpk hp' j = hpk hp j) (x : TV) : x.c1 hp' = x.c1 hp := by
 cases x <;> simp only [TV.c1,isArr,h]
theorem cav_congr {hp hp' : THP} (h : ∀ j,hpk hp' j = hpk hp j) (x : TV) : cav hp' x = cav hp x := by
 unfold cav
 rw [c1_congr h,av_congr h]
theorem tb_congr {hp hp' : THP} (h : ∀ j,hpk hp' j = hpk hp j) (b : TB) : tb hp' b = tb hp b := by
 cases b with
 | box cs => simp only [tb,List.map_congr_left fun x _ => cav_congr h x]
 | arr T o L => rfl
 | log T L => rfl
 | ara n k L => rfl
 | rws T R =>
  simp only [tb]
  congr 1
  refine List.map_congr_left fun cs _ => ?_
  rw [List.map_congr_left fun x _ => cav_congr h x]
 | hol T L row off c => simp only [tb,cav_congr h c]
 | tld T L row cs => simp only [tb,List.map_congr_left fun x _ => cav_congr h x]
mutual
theorem av_flt {hp hp' : THP} {p : Nat → Bool} (h : ∀ j,p j = true → hpk hp' j = hpk hp j) : ∀ x : TV,Im (av hp x) (av hp' (flt p x))
 | .any => .refl _
 | .v _ _ => .refl _
 | .c _ => .refl _
 | .nil => .refl _
 | .emp => .refl _
 | .ag cs => Im.agg (avL_flt h cs)
 | .tp cs => Im.tup (avL_flt h cs)
 | .own j => by
  simp only [flt]
  cases hj : p j with
  | true => simp only [cond_true,av,h j hj]; exact .refl _
  | false => exact .any _
 | .sub j o l => by
  simp only [flt]
  cases hj : p j with
  | true => simp only [cond_true,av,h j hj]; exact .refl _
  | false => exact .any _
 | .ptr j r o => by
  simp only [flt]
  cases hj : p j with
  | true => simp only [cond_true,av,h j hj]; exact .refl _
  | false => exact .any _
 | .ipv _ _ _ => .refl _
 | .ipt cs => Im.ipt (avL_flt h cs)
 | .fn f cs => Im.fn (avL_flt h cs)
theorem avL_flt {hp hp' : THP} {p : Nat → Bool} (h : ∀ j,p j = true → hpk hp' j = hpk hp j) : ∀ xs : List TV,All2 Im (avL hp xs) (avL hp' (fltL p xs))
 | [] => .nil
 | x :: xs => .cons (av_flt h x) (avL_flt h xs)
end
theorem cav_flt {hp hp' : THP} {p : Nat → Bool} (h : ∀ j,p j = true → hpk hp' j = hpk hp j) (x : TV) : Im (cav hp x) (cav hp' (flt p x)) := by
 unfold cav
 cases hc : TV.c1 hp' (flt p x) with
 | false => exact .any _
 | true =>
  have : x.c1 hp = true := by
   cases x with
   | own j =>
    simp only [flt] at hc
    cases hj : p j with
    | true => simp only [hj,cond_true,TV.c1,isArr,h j hj] at hc; simpa only [TV.c1,isArr] using hc
    | false => simp only [hj,cond_false,TV.c1] at hc; cases hc
   | sub j =>
    simp only [flt] at hc
    cases hj : p j with
    | true => simp only [hj,cond_true,TV.c1,isArr,h j hj] at hc; simpa only [TV.c1,isArr] using hc
    | false => simp only [hj,cond_false,TV.c1] at hc; cases hc
   | ptr j =>
    simp only [flt] at hc
    cases hj : p j <;> simp only [hj,cond_true,cond_false,TV.c1] at hc <;> cases hc
   | v T y => cases T <;> first | rfl | exact hc
   | c v => cases v <;> first | rfl | exact hc
   | _ => first | rfl | exact hc
  rw [this]
  exact av_flt h x
theorem fnd_flt (p : Nat → Bool) (k : Nat) : ∀ u,fnd (fltU p u) k = flt p (fnd u k)
 | [] => rfl
 | x :: u => by
  simp only [fltU,fnd]
  cases Nat.beq x.1 k with
  | true => rfl
  | false => simp only [cond_false]; exact fnd_flt p k u
theorem get_flt (n : Nat) (t : TS) (u' : List (Nat × TV)) (hp' : THP) (p : Nat → Bool) (hu : u' = fltU p t.u) (k : Nat) : TS.get n ⟨u',hp'⟩ k = flt p (t.get n k) := by
 subst hu
 simp only [TS.get,fnd_flt]
 cases Nat.blt k n <;> rfl
theorem rlen_flt (p : Nat → Bool) (b : TB) : (b.flt p).rlen = b.rlen := by
 cases b <;> simp [TB.flt,TB.rlen]
theorem fltH_get (p : Nat → Bool) (hp : THP) (j : Nat) : (fltH p hp)[j]? = (hp[j]?).map (Option.map (TB.flt p)) := by
 rw [fltH_map,List.getElem?_map]
theorem fltH_len (p : Nat → Bool) (hp : THP) : (fltH p hp).length = hp.length := by rw [fltH_map,List.length_map]
theorem hpk_flt (p : Nat → Bool) (hp : THP) (j : Nat) : hpk (fltH p hp) j = hpk hp j := by
 unfold hpk
 rw [fltH_get]
 cases hp[j]? with
 | none => rfl
 | some b => cases b with
  | none => rfl
  | some b => simp [rlen_flt]
theorem cav_cell (hp : THP) (x : TV) : (cav hp x).bare1 = true ∧ (cav hp x).cells = [cav hp x] := by
 unfold cav
 cases hc : TV.c1 hp x with
 | false => exact ⟨rfl,rfl⟩
 | true =>
  refine ⟨c1_bare hc,?_⟩
  simp only [cond_true]
  cases x with
  | v T y => cases T <;> first | rfl | cases hc
  | c v => rfl
  | nil => rfl
  | own j => simp only [av]; split <;> rfl
  | sub j o l => simp only [av]; split <;> rfl
  | ipv => rfl
  | ipt => rfl
  | _ => cases hc
theorem RepC.bare {w : World} {N : NT} {M : MT} {b o : Nat} {xs : List AV} {K : List Nat} (r : RepC w N M b o xs K) (h : ∀ x ∈ xs,x.bare1 = true) : K = [] := by
 induction xs generalizing o K with
 | nil => cases r; rfl
 | cons x xs ih =>
  cases r with
  | cons hc hx ht =>
   rw [hx.bare1 (h x (by simp)),ih ht fun y hy => h y (by simp [hy])]; rfl
theorem map_cav_cells (hp : THP) (cs : List TV) : ∀ ag,(mkr ag (cs.map (cav hp))).cells = if ag then cs.map (cav hp) else [(cs.map (cav hp)).headD .any] := by
 intro ag
 cases ag with
 | true => rfl
 | false =>
  cases cs with
  | nil => rfl
  | cons c cs => exact (cav_cell hp c).2
theorem all2_map {α : Type} {f g : α → AV} (h : ∀ x,Im (f x) (g x)) : ∀ xs : List α,All2 Im (xs.map f) (xs.map g)
 | [] => .nil
 | x :: xs => .cons (h x) (all2_map h xs)
theorem All2.append {α β : Type} {R : α → β → Prop} {a b : List α} {c d : List β} (h : All2 R a c) (k : All2 R b d) : All2 R (a ++ b) (c ++ d) := by
 induction h with
 | nil => exact k
 | cons h _ ih => exact .cons h ih
theorem RowLe.of {b b' : Blk} (h1 : b'.sz = b.sz) (h2 : b'.lo = b.lo) (h3 : b'.fz = b.fz) (h4 : b'.rows.length = b.rows.length) (hb : ∀ c ∈ b.rows.flatMap AV.cells,c.bare1 = true)
  (h5 : (∀ y ∈ b.rows,y.cells.length = b.sz) → ∀ y ∈ b'.rows,y.cells.length = b.sz) (h6 : All2 Im (b.rows.flatMap AV.cells) (b'.rows.flatMap AV.cells)) : RowLe b b' :=
 ⟨h1,h2,h3,h4,h5,fun w N M p o K r => by
  have := r.bare hb
  subst this
  exact Im.cells h6 r⟩
theorem flat_set {l : List AV} {i : Nat} (h : i < l.length) (x : AV) : (l.set i x).flatMap AV.cells = (l.take i).flatMap AV.cells ++ (x.cells ++ (l.drop (i + 1)).flatMap AV.cells) := by
 rw [List.set_eq_take_append_cons_drop,if_pos h,List.flatMap_append,List.flatMap_cons]
theorem holLe {T : Ty} {L : List (Den T)} {row off : Nat} {x y : AV} (hx : x.bare1 = true) (him : Im x y) :
  RowLe ⟨T.sz,0,(L.map (enc true T)).set row (.agg ((cls true T (L.getD row (dft T))).set off x)),0⟩ ⟨T.sz,0,(L.map (enc true T)).set row (.agg ((cls true T (L.getD row (dft T))).set off y)),0⟩ := by
 rcases Nat.lt_or_ge row (L.map (enc true T)).length with hr | hr
 ·refine ⟨rfl,rfl,rfl,by simp,fun _ z hz => ?_,fun w N M p o K r => ?_⟩
  ·rcases List.mem_or_eq_of_mem_set hz with hz | rfl
   ·obtain ⟨q,_,rfl⟩ := List.mem_map.1 hz
    rw [enc_cells,cls_len]
   ·simp [AV.cells,cls_len]
  ·simp only at r ⊢
   rw [flat_set hr] at r ⊢
   obtain ⟨K1,K2,rfl,r1,r2⟩ := r.append
   obtain ⟨K3,K4,rfl,r3,r4⟩ := r2.append
   refine r1.join (RepC.join ?_ (by
    have : (AV.agg ((cls true T (L.getD row (dft T))).set off y)).cells.length = (AV.agg ((cls true T (L.getD row (dft T))).set off x)).cells.length := by simp [AV.cells]
    rw [this]; exact r4))
   simp only [AV.cells] at r3 ⊢
   rcases Nat.lt_or_ge off (cls true T (L.getD row (dft T))).length with ho | ho
   ·rw [List.set_eq_take_append_cons_drop,if_pos ho] at r3 ⊢
    obtain ⟨J1,J2,rfl,s1,s2⟩ := r3.append
    refine s1.join ?_
    cases s2 with
    | cons hc hx' ht =>
     have := hx'.bare1 hx
     subst this
     exact .cons (L1 := []) hc (him _ _ _ _ hx') ht
   ·rw [List.set_eq_of_length_le ho] at r3 ⊢
    exact r3
 ·rw [List.set_eq_of_length_le hr,List.set_eq_of_length_le hr]; exact .refl _
theorem tldLe {T : Ty} {L : List (Den T)} {row : Nat} {xs ys : List AV} (hx : ∀ x ∈ xs,x.bare1 = true) (him : All2 Im xs ys) :
  RowLe ⟨T.sz,0,(L.map (enc true T)).set row (.agg xs),0⟩ ⟨T.sz,0,(L.map (enc true T)).set row (.agg ys),0⟩ := by
 have hl := him.length_eq
 rcases Nat.lt_or_ge row (L.map (enc true T)).length with hr | hr
 ·refine ⟨rfl,rfl,rfl,by simp,fun hc z hz => ?_,fun w N M p o K r => ?_⟩
  ·rcases List.mem_or_eq_of_mem_set hz with hz | rfl
   ·obtain ⟨q,_,rfl⟩ := List.mem_map.1 hz
    rw [enc_cells,cls_len]
   ·have := hc (.agg xs) (List.mem_set hr _)
    simp only [AV.cells] at this ⊢
    rw [← hl]; exact this
  ·simp only at r ⊢
   rw [flat_set hr] at r ⊢
   obtain ⟨K1,K2,rfl,r1,r2⟩ := r.append
   obtain ⟨K3,K4,rfl,r3,r4⟩ := r2.append
   have : K3 = [] := RepC.bare r3 hx
   subst this
   refine r1.join (RepC.join (Im.cells him r3) (by
    have : (AV.agg ys).cells.length = (AV.agg xs).cells.length := by simp only [AV.cells]; exact hl.symm
    simp only [AV.cells] at this r4 ⊢
    rw [this]; exact r4))
 ·rw [List.set_eq_of_length_le hr,List.set_eq_of_length_le hr]; exact .refl _
theorem tb_flt {hp hp' : THP} {p : Nat → Bool} (h : ∀ j,p j = true → hpk hp' j = hpk hp j) (b : TB) : RowLe (tb hp b) (tb hp' (b.flt p)) := by
 cases b with
 | box cs =>
  refine RowLe.of (by simp [tb,TB.flt,fltL_map]) rfl rfl rfl ?_ ?_ ?_
  ·intro c hc
   simp only [tb,List.flatMap_cons,List.flatMap_nil,List.append_nil,AV.cells,List.mem_map] at hc
   obtain ⟨x,_,rfl⟩ := hc
   exact (cav_cell hp x).1
  ·intro _ y hy
   simp only [tb,TB.flt,List.mem_singleton] at hy
   subst hy
   simp [tb,AV.cells,fltL_map]
  ·simp only [tb,TB.flt,List.flatMap_cons,List.flatMap_nil,List.append_nil,AV.cells,fltL_map,List.map_map]
   exact all2_map (fun x => cav_flt h x) cs
 | arr T o L => exact .refl _
 | log T L => exact .refl _
 | ara n k L => exact .refl _
 | rws T R =>
  refine RowLe.of rfl rfl rfl (by simp [tb,TB.flt]) ?_ ?_ ?_
  ·intro c hc
   simp only [tb,List.flatMap_map,List.mem_flatMap] at hc
   obtain ⟨cs,_,hc⟩ := hc
   rw [map_cav_cells] at hc
   split at hc
   ·obtain ⟨x,_,rfl⟩ := List.mem_map.1 hc
    exact (cav_cell hp x).1
   ·simp only [List.mem_singleton] at hc
    subst hc
    cases cs with
    | nil => rfl
    | cons c cs => exact (cav_cell hp c).1
  ·intro hcl y hy
   simp only [tb,TB.flt,List.map_map,List.mem_map] at hy
   obtain ⟨cs,hcs,rfl⟩ := hy
   have := hcl (mkr T.ag (cs.map (cav hp))) (by simp only [tb]; exact List.mem_map_of_mem hcs)
   simp only [Function.comp,fltL_map]
   rw [map_cav_cells] at this ⊢
   split
   ·rename_i hag
    rw [if_pos hag] at this
    simpa using this
   ·rename_i hag
    rw [if_neg hag] at this
    simpa using this
  ·simp only [tb,TB.flt,List.flatMap_map,List.map_map]
   induction R with
   | nil => exact .nil
   | cons cs R ih =>
    simp only [List.flatMap_cons]
    refine All2.append ?_ ih
    simp only [Function.comp,fltL_map]
    rw [map_cav_cells,map_cav_cells]
    split
    ·rw [List.map_map]; exact all2_map (fun x => cav_flt h x) cs
    ·cases cs with
     | nil => exact .cons (.refl _) .nil
     | cons c cs => exact .cons (cav_flt h c) .nil
 | hol T L row off c => exact holLe (cav_cell hp c).1 (cav_flt h c)
 | tld T L row cs =>
  simp only [tb,TB.flt,fltL_map,List.map_map]
  refine tldLe (fun c hc => ?_) (all2_map (fun x => cav_flt h x) cs)
  obtain ⟨x,_,rfl⟩ := List.mem_map.1 hc
  exact (cav_cell hp x).1
section
variable {n : Nat} {t : TS}
theorem StLe.flt (p : Nat → Bool) : StLe (toAS n t) (toAS n (t.flt p)) := by
 have hk : ∀ j,p j = true → hpk (fltH p t.hp) j = hpk t.hp j := fun j _ => hpk_flt p t.hp j
 refine ⟨by rw [toAS_len,toAS_len],fun i => ?_,by rw [toAS_hp,toAS_hp,toHP_len,toHP_len]; exact fltH_len p t.hp,fun i x hx => ?_⟩
 ·rw [toAS_get,toAS_get,TS.flt,get_flt n t _ _ p rfl]
  exact av_flt hk _
 ·rw [toAS_hp,toHP_get] at hx
  rw [toAS_hp,toHP_get]
  show ∃ y,((fltH p t.hp)[i]?).map _ = some y ∧ _
  rw [fltH_get]
  cases hb : t.hp[i]? with
  | none => rw [hb] at hx; cases hx
  | some b =>
   rw [hb] at hx
   simp only [Option.map_some,Option.some.injEq] at hx
   subst hx
   refine ⟨_,rfl,?_⟩
   cases b with
   | none => trivial
   | some b => exact tb_flt hk b
theorem StLe.new (b : TB) {k : Blk} (hk : RowLe k (tb (t.new [b]).hp b)) : StLe { toAS n t with hp := toHP t.hp ++ [some k] } (toAS n (t.new [b])) := by
 have hl : ∀ j,Nat.blt j t.hp.length = true → hpk (t.new [b]).hp j = hpk t.hp j := fun j hj => by
  rw [Nat.blt_eq] at hj
  rw [← hpk_flt (fun i => Nat.blt i t.hp.length) t.hp j]
  unfold hpk TS.new
  rw [List.getElem?_append_left (by rw [fltH_len]; exact hj)]
 refine ⟨by rw [toAS_len,toAS_len],fun i => ?_,?_,fun i x hx => ?_⟩
 ·show Im ((toAS n t).sl.getD i .any) _
  rw [toAS_get,toAS_get,TS.new,get_flt n t _ _ (fun i => Nat.blt i t.hp.length) rfl]
  exact av_flt hl _
 ·show (toHP (t.new [b]).hp).length = (toHP t.hp ++ [some k]).length
  simp [toHP_len,TS.new,fltH_len]
 ·show ∃ y,(toHP (t.new [b]).hp)[i]? = some y ∧ _
  replace hx : (toHP t.hp ++ [some k])[i]? = some x := hx
  rw [toHP_get]
  rcases Nat.lt_or_ge i t.hp.length with hi | hi
  ·rw [List.getElem?_append_left (by rw [toHP_len]; exact hi),toHP_get] at hx
   have e : (t.new [b]).hp[i]? = (t.hp[i]?).map (Option.map (TB.flt fun i => Nat.blt i t.hp.length)) := by
    unfold TS.new
    rw [List.getElem?_append_left (by rw [fltH_len]; exact hi),fltH_get]
   rw [e]
   cases hb : t.hp[i]? with
   | none => rw [hb] at hx; cases hx
   | some c =>
    rw [hb] at hx
    simp only [Option.map_some,Option.some.injEq] at hx
    subst hx
    refine ⟨_,rfl,?_⟩
    cases c with
    | none => trivial
    | some c => exact tb_flt hl c
  ·rw [List.getElem?_append_right (by rw [toHP_len]; exact hi),toHP_len] at hx
   have hi0 : i = t.hp.length := by
    have := (List.getElem?_eq_some_iff.1 hx).1
    simp at this; omega
   subst hi0
   simp only [Nat.sub_self,List.getElem?_cons_zero,Option.some.injEq] at hx
   subst hx
   have e : (t.new [b]).hp[t.hp.length]? = some (some b) := by
    unfold TS.new
    rw [List.getElem?_append_right (by rw [fltH_len]; exact Nat.le_refl _),fltH_len,Nat.sub_self]; rfl
   rw [e]
   exact ⟨_,rfl,hk⟩
end
end Go.Proofs.Ytkmhopbmpeiofaa.Nx
