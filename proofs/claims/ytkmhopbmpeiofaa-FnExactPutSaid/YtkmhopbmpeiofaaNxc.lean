/- Operations on abstract values: sound, with no condition beyond those each lemma names. -/
import Derived.Laws.Append
import Derived.Laws.IdiomCopy
import Derived.Test.YtkmhopbmpeiofaaNxb
set_option linter.unusedVariables false
set_option linter.unusedSimpArgs false
namespace Go.Proofs.Ytkmhopbmpeiofaa.Nx
open Go Go.RowKit
theorem RepC.dropN {w : World} {N : NT} {M : MT} {b o : Nat} {xs : List AV} {K : List Nat} (h : RepC w N M b o xs K) (n : Nat) : ∃ K',RepC w N M b (o + n) (xs.drop n) K' ∧ (K = [] → K' = []) := by
 rcases Nat.lt_or_ge xs.length n with hn | hn
 ·rw [List.drop_eq_nil_of_le (by omega)]
  exact ⟨[],.nil _ _,fun _ => rfl⟩
 ·have e := List.take_append_drop n xs
  rw [← e] at h
  obtain ⟨A,B,rfl,h1,h2⟩ := h.append
  rw [List.length_take,Nat.min_eq_left hn] at h2
  exact ⟨B,h2,fun hk => (List.append_eq_nil_iff.1 hk).2⟩
theorem RepC.takeN {w : World} {N : NT} {M : MT} {b o : Nat} {xs : List AV} {K : List Nat} (h : RepC w N M b o xs K) (n : Nat) : ∃ K',RepC w N M b o (xs.take n) K' ∧ (K = [] → K' = []) := by
 have e := List.take_append_drop n xs
 rw [← e] at h
 obtain ⟨A,B,rfl,h1,h2⟩ := h.append
 exact ⟨A,h1,fun hk => (List.append_eq_nil_iff.1 hk).1⟩
theorem flat_take {sz : Nat} {rows : List AV} (h : ∀ y ∈ rows,y.cells.length = sz) (n : Nat) (hn : n ≤ rows.length) : ((rows.take n).flatMap AV.cells).length = n * sz := by
 rw [flat_len (sz := sz) (fun y hy => h y (List.mem_of_mem_take hy)),List.length_take,Nat.min_eq_left hn]
theorem RepC.row {w : World} {N : NT} {M : MT} {b o sz : Nat} {rows : List AV} {K : List Nat} (h : RepC w N M b o (rows.flatMap AV.cells) K) (hl : ∀ y ∈ rows,y.cells.length = sz) {i : Nat} (hi : i < rows.length) :
  ∃ K',RepC w N M b (o + i * sz) (rows.getD i .any).cells K' ∧ (K = [] → K' = []) := by
 have e : rows = rows.take i ++ rows[i] :: rows.drop (i + 1) := by rw [List.getElem_cons_drop hi,List.take_append_drop]
 have eg : rows.getD i .any = rows[i] := by simp [List.getD_eq_getElem?_getD,hi]
 rw [eg]
 have h' := h
 rw [e,List.flatMap_append,List.flatMap_cons] at h'
 obtain ⟨A,B,rfl,h1,h2⟩ := h'.append
 rw [flat_take hl i (by omega)] at h2
 obtain ⟨B1,B2,rfl,h3,h4⟩ := h2.append
 exact ⟨B1,h3,fun hk => (List.append_eq_nil_iff.1 (List.append_eq_nil_iff.1 hk).2).1⟩
theorem RepC.rows {w : World} {N : NT} {M : MT} {b o sz : Nat} {rows : List AV} {K : List Nat} (h : RepC w N M b o (rows.flatMap AV.cells) K) (hl : ∀ y ∈ rows,y.cells.length = sz) (l n : Nat) (hln : l + n ≤ rows.length) :
  ∃ K1 K2 K3,K = K1 ++ (K2 ++ K3) ∧ RepC w N M b (o + l * sz) (((rows.drop l).take n).flatMap AV.cells) K2 := by
 have e : rows = rows.take l ++ ((rows.drop l).take n ++ (rows.drop l).drop n) := by rw [List.take_append_drop,List.take_append_drop]
 have h' := h
 rw [e,List.flatMap_append,List.flatMap_append] at h'
 obtain ⟨A,B,rfl,h1,h2⟩ := h'.append
 rw [flat_take hl l (by omega)] at h2
 obtain ⟨B1,B2,rfl,h3,h4⟩ := h2.append
 exact ⟨A,B1,B2,rfl,h3⟩
theorem add_none (b o n : Nat) : (⟨b,o,none⟩ : Addr).add n = ⟨b,o + n,none⟩ := by
 unfold Addr.add
 split
 ·subst_vars; rfl
 ·rfl
theorem run_loadCellsFrom {P : Program} {w : World} {b o : Nat} : ∀ (vs : List Value) (i : Nat) (acc : Array Value),(∀ j,j < vs.length → w.cell? ⟨b,o + i + j,none⟩ = vs[j]?) →
  (loadCellsFrom ⟨b,o,none⟩ i vs.length acc).run P w = .ok (acc ++ ⟨vs⟩) w
 | [],i,acc,_ => by simp [loadCellsFrom]
 | v :: vs,i,acc,h => by
  have h0 := h 0 (by simp)
  simp only [Nat.add_zero,List.getElem?_cons_zero] at h0
  rw [List.length_cons,loadCellsFrom]
  simp only [Sem.run_bind,run_load,add_none,h0,Result.andThen_ok]
  rw [run_loadCellsFrom vs (i + 1) (acc.push v) fun j hj => by
   have := h (j + 1) (by simp; omega)
   rw [show o + (i + 1) + j = o + i + (j + 1) from by omega,this]; simp]
  simp
theorem run_loadCells {P : Program} {w : World} {b o : Nat} (vs : List Value) (h : ∀ j,j < vs.length → w.cell? ⟨b,o + j,none⟩ = vs[j]?) :
  (loadCells ⟨b,o,none⟩ vs.length).run P w = .ok ⟨vs⟩ w := by
 unfold loadCells
 rw [run_loadCellsFrom vs 0 #[] (by simpa using h)]; simp
section
variable {P : Program} {C : Ctx} {s : AS} {a : Act} {w : World} {N : NT} {M : MT} {L : List (Nat × Nat)}
theorem ConcD.ptr (h : ConcD C s a w N M L) {x : Operand} {j ver row off : Nat} (hx : s.ev x = .ptr j ver row off) (hk : (s.hp.at j ver).isSome) :
  ∃ b m L1,s.hp.at j ver = some b ∧ M j = some (some m) ∧ BR w N M b m L1 ∧ (∀ p ∈ ownOf m L1,p ∈ L) ∧ s.hp[j]? = some (some b) ∧ b.rows.length = ver ∧ row < ver ∧ m.virt = false ∧ a.eval x = .pointer (some ⟨m.b,m.o + row * m.sz + off,none⟩) := by
 obtain ⟨b,hb⟩ := Option.isSome_iff_exists.1 hk
 obtain ⟨hl,m,L1,h1,h2,h3,h4⟩ := h.blk hb
 have r := h.ev x
 rw [hx] at r
 generalize hu : a.eval x = u at r
 cases r with
 | ptr mm hM hm =>
  rw [h1] at hM
  cases hM
  obtain ⟨h5,h6⟩ := hm m rfl
  obtain ⟨h7,h8,h9⟩ := h6 (by rw [h2.len,hl])
  exact ⟨b,m,L1,hb,h1,h2,h3,h4,hl,by rw [← hl,← h2.len]; exact h7,h8,by rw [h9]⟩
theorem snd_fad (h : ConcD C s a w N M L) {t : TypeId} {x : Operand} {i : Nat} {fs : Array Field} {f : Field} (hu : P.underlying t = some (.struct fs)) (hf : fs[i]? = some f) (hn : P.cellsOf f.type ≠ 0) (hc : ptrOk s (s.ev x)) :
  ∃ v,Tells P a (.fieldAddr t x i) v ∧ Rep w N M (apv s (.fad f.offset x)) v [] := by
 obtain ⟨info,hi,hs⟩ := cellsOf_info (P := P) (t := f.type) rfl hn
 have key : ∀ b o,a.eval x = .pointer (some ⟨b,o,none⟩) → Tells P a (.fieldAddr t x i) (.pointer (some ⟨b,o + f.offset,none⟩)) := fun b o e w' o' ho => by
  have e1 : execOp a.eval o' = (do pure (.value (← Instr.fieldAt t (a.eval x) i))) := by unfold execOp; rw [ho]
  rw [e1,e]
  have hz : ¬ info.size = 0 := by rw [hs]; exact hn
  simp [Instr.fieldAt,run_underlying hu,hf,Instr.sureAddr,fieldPlace,sizeOf,typeInfo,hi,hz,add_none]
 generalize hv : s.ev x = av at hc
 cases av with
 | ptr j ver row off =>
  obtain ⟨b,m,L1,h0,h1,h2,h3,h4,h5,h6,h7,h8⟩ := h.ptr hv hc
  refine ⟨_,key _ _ h8,?_⟩
  simp only [apv,hv]
  refine .ptr (some m) h1 fun m' hm' => ?_
  cases hm'
  rw [h2.len]
  refine ⟨by omega,fun _ => ⟨by omega,h7,?_⟩⟩
  rw [Nat.add_assoc]
 | ipt cs =>
  have r := h.ev x
  rw [hv] at r
  generalize hu' : a.eval x = u at r
  cases r with
  | ipt r hN =>
   refine ⟨_,key _ _ hu',?_⟩
   simp only [apv,hv]
   obtain ⟨K',r',hk'⟩ := r.dropN f.offset
   rw [hk' rfl] at r'
   refine .ipt r' fun i' hi' => ?_
   rw [List.length_drop] at hi'
   have := hN (f.offset + i') (by omega)
   rw [← Nat.add_assoc] at this; exact this
 | _ => exact hc.elim
theorem snd_aad (h : ConcD C s a w N M L) {t e : TypeId} {len : Nat} {x i : Operand} (hu : P.underlying t = some (.array len e)) (hn : P.cellsOf e ≠ 0) (hc : apc s (.aad (P.cellsOf e) len x i)) :
  ∃ v,Tells P a (.indexAddr t x i) v ∧ Rep w N M (apv s (.aad (P.cellsOf e) len x i)) v [] := by
 obtain ⟨info,hi,hs⟩ := cellsOf_info (P := P) (t := e) rfl hn
 obtain ⟨c1,c2⟩ := hc
 split at c2
 ·rename_i k n hi'
  obtain ⟨g0,g1⟩ := c2
  have key : ∀ b o,a.eval x = .pointer (some ⟨b,o,none⟩) → Tells P a (.indexAddr t x i) (.pointer (some ⟨b,o + n.toNat * P.cellsOf e,none⟩)) := fun b o e1 w' o' ho => by
   have e3 : execOp a.eval o' = (do pure (.value (← Instr.indexAt t (a.eval x) (a.eval i)))) := by unfold execOp; rw [ho]
   rw [e3,e1,h.evv hi']
   simp [Instr.indexAt,Instr.sureAddr,asIntOf,run_underlying hu,g0,g1,sizeOf,typeInfo,hi,hs,add_none]
  generalize hv : s.ev x = av at c1
  cases av with
  | ptr j ver row off =>
   obtain ⟨b,m,L1,h0,h1,h2,h3,h4,h5,h6,h7,h8⟩ := h.ptr hv c1
   refine ⟨_,key _ _ h8,?_⟩
   simp only [apv,hv,hi']
   refine .ptr (some m) h1 fun m' hm' => ?_
   cases hm'
   rw [h2.len]
   refine ⟨by omega,fun _ => ⟨by omega,h7,?_⟩⟩
   rw [Nat.add_assoc]
  | ipt cs =>
   have r := h.ev x
   rw [hv] at r
   generalize hu' : a.eval x = u at r
   cases r with
   | ipt r hN =>
    refine ⟨_,key _ _ hu',?_⟩
    simp only [apv,hv,hi']
    obtain ⟨K',r',hk'⟩ := r.dropN (n.toNat * P.cellsOf e)
    rw [hk' rfl] at r'
    refine .ipt r' fun i' hi' => ?_
    rw [List.length_drop] at hi'
    have := hN (n.toNat * P.cellsOf e + i') (by omega)
    rw [← Nat.add_assoc] at this; exact this
  | _ => exact c1.elim
 ·exact c2.elim
theorem snd_nck (h : ConcD C s a w N M L) {x : Operand} (hc : ptrOk s (s.ev x)) : ∃ v,Tells P a (.nilCheck x) v ∧ Rep w N M (s.ev x) v [] := by
 refine ⟨a.eval x,fun w' o ho => ?_,h.ev x⟩
 have key : ∀ b,a.eval x = .pointer (some b) → (execOp a.eval o).run P w' = .ok (.value (a.eval x)) w' := fun b e => by
  unfold execOp; rw [ho]; simp only [e]; rfl
 generalize hv : s.ev x = av at hc
 cases av with
 | ptr j ver row off =>
  obtain ⟨b,m,L1,h0,h1,h2,h3,h4,h5,h6,h7,h8⟩ := h.ptr hv hc
  exact key _ h8
 | ipt cs =>
  have r := h.ev x
  rw [hv] at r
  generalize hu' : a.eval x = u at r
  cases r with
  | ipt r hN => have := key _ hu'; rw [hu'] at this; exact this
 | _ => exact hc.elim
theorem snd_iad (h : ConcD C s a w N M L) {t e : TypeId} {x i : Operand} (hu : P.underlying t = some (.slice e)) (hn : P.cellsOf e ≠ 0) (hc : apc s (.iad (P.cellsOf e) x i)) :
  ∃ v,Tells P a (.indexAddr t x i) v ∧ Rep w N M (apv s (.iad (P.cellsOf e) x i)) v [] := by
 obtain ⟨info,hi,hs⟩ := cellsOf_info (P := P) (t := e) rfl hn
 have key : ∀ b o len cap k n,a.eval x = .slice (some ⟨b,o,none⟩) len cap → a.eval i = .int k n → 0 ≤ n → n < len → Tells P a (.indexAddr t x i) (.pointer (some ⟨b,o + n.toNat * P.cellsOf e,none⟩)) := fun b o len cap k n e1 e2 g0 g1 w' o' ho => by
  have e3 : execOp a.eval o' = (do pure (.value (← Instr.indexAt t (a.eval x) (a.eval i)))) := by unfold execOp; rw [ho]
  rw [e3,e1,e2]
  simp [Instr.indexAt,asIntOf,run_underlying hu,g0,g1,sizeOf,typeInfo,hi,hs,add_none]
 simp only [apc] at hc
 split at hc
 ·rename_i sz' rows k n hx hi'
  obtain ⟨hsz,g0,g1⟩ := hc
  have r := h.ev x
  rw [hx] at r
  generalize hu' : a.eval x = u at r
  cases r with
  | slI0 => simp at g1; omega
  | slI r hl hN _ =>
   have hsz' : sz' = P.cellsOf e := by
    rcases hsz with rfl | rfl
    ·rfl
    ·simp at g1; omega
   subst hsz'
   refine ⟨_,key _ _ _ _ _ _ hu' (h.evv hi') g0 g1,?_⟩
   simp only [apv,hx,hi']
   have hlt : n.toNat < rows.length := by omega
   obtain ⟨K',r',hk'⟩ := r.row hl hlt
   rw [hk' rfl] at r'
   refine .ipt r' fun i' hi' => ?_
   have hrow : (rows.getD n.toNat AV.any).cells.length = P.cellsOf e := by
    rw [List.getD_eq_getElem?_getD,List.getElem?_eq_getElem hlt]; exact hl _ (List.getElem_mem hlt)
   rw [hrow] at hi'
   rw [Nat.add_assoc]
   refine hN _ ?_
   calc n.toNat * P.cellsOf e + i' < n.toNat * P.cellsOf e + P.cellsOf e := by omega
    _ = (n.toNat + 1) * P.cellsOf e := by rw [Nat.succ_mul]
    _ ≤ rows.length * P.cellsOf e := Nat.mul_le_mul_right _ hlt
 ·rename_i j ver off len k n hx hi'
  obtain ⟨hsz,g0,g1⟩ := hc
  split at hsz
  ·rename_i b hb
   obtain ⟨hl,m,L1,h1,h2,h3,h4⟩ := h.blk hb
   have r := h.ev x
   rw [hx] at r
   generalize hu' : a.eval x = u at r
   cases r with
   | ref mm hM hm =>
    rw [h1] at hM
    cases hM
    obtain ⟨h5,h6⟩ := hm m rfl
    obtain ⟨h7,h8⟩ := h6 (by rw [h2.len,hl])
    rcases h8 with ⟨rfl,_⟩ | ⟨h8,rfl,h9,h10⟩
    ·simp at g1; omega
    ·refine ⟨_,key _ _ _ _ _ _ hu' (h.evv hi') g0 g1,?_⟩
     simp only [apv,hx,hi']
     refine .ptr (some m) h1 fun m' hm' => ?_
     cases hm'
     refine ⟨h5,fun _ => ⟨by omega,h8,?_⟩⟩
     rw [Nat.add_mul,h2.sz,hsz,Nat.add_zero,Nat.add_assoc]
  ·exact hsz.elim
 ·exact hc.elim
theorem snd_ld (h : ConcD C s a w N M L) {t : TypeId} {x : Operand} (hn : P.cellsOf t ≠ 0) {d : TypeDesc} (hd : P.underlying t = some d) (hc : apc s (.ld (if isAggB P t then P.cellsOf t else 1) (isAggB P t) x)) :
  ∃ v,TellsK P a w (.load t x) v ∧ Rep w N M (apv s (.ld (if isAggB P t then P.cellsOf t else 1) (isAggB P t) x)) v [] := by
 obtain ⟨info,hi,hs⟩ := cellsOf_info (P := P) (t := t) rfl hn
 have hag : ∀ w',(isAgg t).run P w' = .ok (isAggB P t) w' := fun w' => by
  unfold isAgg isAggB
  rw [Sem.run_bind,run_underlying hd,Result.andThen_ok,hd]
  cases d <;> rfl
 have key : ∀ b o vs,a.eval x = .pointer (some ⟨b,o,none⟩) → vs.length = (if isAggB P t then P.cellsOf t else 1) → (∀ j,j < vs.length → w.cell? ⟨b,o + j,none⟩ = vs[j]?) →
   TellsK P a w (.load t x) (if isAggB P t then .agg ⟨vs⟩ else vs.getD 0 undef) := fun b o vs e1 e2 e3' w' hk o' ho => by
  have e3 : ∀ j,j < vs.length → w'.cell? ⟨b,o + j,none⟩ = vs[j]? := fun j hj => by
   have := e3' j hj
   rw [List.getElem?_eq_getElem hj] at this ⊢
   exact hk _ _ this
  have e4 : execOp a.eval o' = (do pure (.value (← Instr.loadAt t (a.eval x)))) := by unfold execOp; rw [ho]
  rw [e4,e1]
  simp only [Instr.loadAt,Instr.sureAddr,loadVar,Sem.run_bind,Sem.run_pure,Result.andThen_ok,hag]
  cases hb : isAggB P t with
  | true =>
   rw [hb] at e2
   simp only [if_true] at e2
   have := run_loadCells (P := P) vs e3
   rw [e2] at this
   simp [sizeOf,typeInfo,hi,hs,this]
  | false =>
   rw [hb] at e2
   simp only [Bool.false_eq_true,if_false] at e2
   have h0 := e3 0 (by omega)
   rw [Nat.add_zero] at h0
   cases vs with
   | nil => simp at e2
   | cons v vs =>
    simp only [List.getElem?_cons_zero] at h0
    simp [h0]
 obtain ⟨c1,c2,c3,c4⟩ := hc
 have fin : ∀ b o K cs,cellsOf s (s.ev x) = cs → a.eval x = .pointer (some ⟨b,o,none⟩) → RepC w N M b o cs K →
   ∃ v,TellsK P a w (.load t x) v ∧ Rep w N M (apv s (.ld (if isAggB P t then P.cellsOf t else 1) (isAggB P t) x)) v [] := fun b o K cs e1 e2 r => by
  rw [e1] at c2 c4
  obtain ⟨K',r',_⟩ := r.takeN (if isAggB P t then P.cellsOf t else 1)
  obtain ⟨vs,r1,r2,r3⟩ := r'.values
  have hK : K' = [] := r1.bare c4
  subst hK
  have hl : vs.length = (if isAggB P t then P.cellsOf t else 1) := by rw [r2,List.length_take,Nat.min_eq_left c2]
  refine ⟨_,key _ _ vs e2 hl (fun j hj => r3 j (by rw [← r2]; exact hj)),?_⟩
  simp only [apv,e1]
  cases hb : isAggB P t with
  | true => rw [hb] at r1; exact .agg r1
  | false =>
   simp only [Bool.false_eq_true,if_false]
   have := r1.get 0
   rw [hb] at this c2
   simp only [Bool.false_eq_true,if_false] at this c2
   cases cs with
   | nil => simp at c2
   | cons c cs => simpa using this
 generalize hv : s.ev x = av at c1
 cases av with
 | ptr j ver row off =>
  obtain ⟨b,m,L1,h0,h1,h2,h3,h4,h5,h6,h7,h8⟩ := h.ptr hv c1
  obtain ⟨K1,r1,_⟩ := h2.rep.row h2.cl (i := row) (by omega)
  obtain ⟨K2,r2,_⟩ := r1.dropN off
  refine fin m.b (m.o + row * m.sz + off) K2 ((b.rows.getD row .any).cells.drop off) ?_ h8 (by rw [h2.sz]; exact r2)
  rw [hv]; simp [cellsOf,HP.row,h0]
 | ipt cs =>
  have r := h.ev x
  rw [hv] at r
  generalize hu' : a.eval x = u at r
  cases r with
  | ipt r hN => exact fin _ _ _ cs (by rw [hv]; rfl) hu' r
 | _ => exact c1.elim
end
end Go.Proofs.Ytkmhopbmpeiofaa.Nx
namespace Go.Proofs.Ytkmhopbmpeiofaa.Nx
open Go Go.RowKit
theorem sub_len {rows : List AV} {off len : Nat} (h : off + len ≤ rows.length) : (sub rows off len).length = len := by
 unfold sub
 split
 ·rename_i e; exact e.2
 ·simp; omega
theorem sub_eq {rows : List AV} {off len : Nat} (h : off + len ≤ rows.length) : sub rows off len = (rows.drop off).take len := by
 unfold sub
 split
 ·rename_i e; obtain ⟨rfl,e⟩ := e; rw [List.drop_zero,List.take_of_length_le (by omega)]
 ·rfl
section
variable {P : Program} {C : Ctx} {s : AS} {a : Act} {w : World} {N : NT} {M : MT} {L : List (Nat × Nat)}
theorem snd_fld (h : ConcD C s a w N M L) {t : TypeId} {x : Operand} {i : Nat} {fs : Array Field} {f : Field} (hu : P.underlying t = some (.struct fs)) (hf : fs[i]? = some f) (hn : P.cellsOf f.type ≠ 0) {d : TypeDesc} (hd : P.underlying f.type = some d)
  (hc : apc s (.fld f.offset (P.cellsOf f.type) (isAggB P f.type) x)) :
  ∃ v,Tells P a (.field t x i) v ∧ Rep w N M (apv s (.fld f.offset (P.cellsOf f.type) (isAggB P f.type) x)) v [] := by
 obtain ⟨info,hi,hs⟩ := cellsOf_info (P := P) (t := f.type) rfl hn
 have hag : ∀ w',(isAgg f.type).run P w' = .ok (isAggB P f.type) w' := fun w' => by
  unfold isAgg isAggB
  rw [Sem.run_bind,run_underlying hd,Result.andThen_ok,hd]
  cases d <;> rfl
 simp only [apc] at hc
 split at hc
 ·rename_i cs hx
  obtain ⟨c1,c2⟩ := hc
  have r := h.ev x
  rw [hx] at r
  generalize hu' : a.eval x = u at r
  cases r with
  | agg r =>
   rename_i vs
   have hl := r.length
   have run : ∀ v,(∀ w',(part f.type ⟨vs⟩ f.offset).run P w' = .ok v w') → Tells P a (.field t x i) v := fun v hv w' o' ho => by
    have e4 : execOp a.eval o' = (do pure (.value (← Instr.field t (a.eval x) i))) := by unfold execOp; rw [ho]
    rw [e4,hu']
    simp [Instr.field,run_underlying hu,hf,asAgg,hv]
   simp only [apv,hx]
   cases hb : isAggB P f.type with
   | true =>
    have e := List.take_append_drop f.offset cs
    rw [← e] at r
    generalize hK : ([] : List Nat) = K at r
    obtain ⟨v1,v2,K1,K2,rfl,rfl,r1,r2⟩ := r.append
    obtain ⟨rfl,rfl⟩ := List.append_eq_nil_iff.1 hK.symm
    have e := List.take_append_drop (P.cellsOf f.type) (cs.drop f.offset)
    rw [← e] at r2
    generalize hK : ([] : List Nat) = K at r2
    obtain ⟨v3,v4,K1,K2,rfl,rfl,r3,r4⟩ := r2.append
    obtain ⟨rfl,rfl⟩ := List.append_eq_nil_iff.1 hK.symm
    have l1 : v1.length = f.offset := by rw [r1.length,List.length_take]; omega
    have l3 : v3.length = P.cellsOf f.type := by rw [r3.length,List.length_take,List.length_drop]; omega
    refine ⟨.agg ⟨v3⟩,run _ fun w' => ?_,.agg r3⟩
    unfold part
    simp only [Sem.run_bind,hag,hb,Result.andThen_ok,if_true,sizeOf,typeInfo,run_program,hi,Sem.run_pure,hs]
    congr 2
    simp only [List.extract_toArray,List.extract_eq_take_drop]
    congr 1
    rw [List.drop_left' l1,show f.offset + P.cellsOf f.type - f.offset = v3.length from by omega,List.take_left' rfl]
   | false =>
    refine ⟨vs.getD f.offset undef,run _ fun w' => ?_,r.get f.offset⟩
    have hlt : f.offset < vs.length := by omega
    have e2 : (⟨vs⟩ : Array Value)[f.offset]? = some vs[f.offset] := by simp [hlt]
    unfold part
    simp only [Sem.run_bind,hag,hb,Result.andThen_ok,Bool.false_eq_true,if_false,e2,Sem.run_pure]
    simp [List.getD_eq_getElem?_getD,hlt]
 ·exact hc.elim
theorem snd_ixa (h : ConcD C s a w N M L) {t e : TypeId} {len : Nat} {x i : Operand} (hu : P.underlying t = some (.array len e)) (hn : P.cellsOf e ≠ 0) {d : TypeDesc} (hd : P.underlying e = some d)
  (hc : apc s (.ixa (P.cellsOf e) len (isAggB P e) x i)) :
  ∃ v,Tells P a (.index t x i) v ∧ Rep w N M (apv s (.ixa (P.cellsOf e) len (isAggB P e) x i)) v [] := by
 obtain ⟨info,hi,hs⟩ := cellsOf_info (P := P) (t := e) rfl hn
 have hag : ∀ w',(isAgg e).run P w' = .ok (isAggB P e) w' := fun w' => by
  unfold isAgg isAggB
  rw [Sem.run_bind,run_underlying hd,Result.andThen_ok,hd]
  cases d <;> rfl
 simp only [apc] at hc
 split at hc
 ·rename_i cs k n hx hi'
  obtain ⟨c1,c2,g0,g1⟩ := hc
  have hle : n.toNat * P.cellsOf e + P.cellsOf e ≤ cs.length := by
   calc n.toNat * P.cellsOf e + P.cellsOf e = (n.toNat + 1) * P.cellsOf e := by rw [Nat.succ_mul]
    _ ≤ len * P.cellsOf e := Nat.mul_le_mul_right _ (by omega)
    _ ≤ cs.length := c1
  generalize hoff : n.toNat * P.cellsOf e = off at hle
  have r := h.ev x
  rw [hx] at r
  generalize hu' : a.eval x = u at r
  cases r with
  | agg r =>
   rename_i vs
   have hl := r.length
   have run : ∀ v,(∀ w',(part e ⟨vs⟩ off).run P w' = .ok v w') → Tells P a (.index t x i) v := fun v hv w' o' ho => by
    have e4 : execOp a.eval o' = (do pure (.value (← Instr.index t (a.eval x) (a.eval i)))) := by unfold execOp; rw [ho]
    rw [e4,hu',h.evv hi']
    simp [Instr.index,asIntOf,run_underlying hu,g0,g1,sizeOf,typeInfo,hi,hs,hoff,hv]
   simp only [apv,hx,hi',hoff]
   cases hb : isAggB P e with
   | true =>
    have q0 := List.take_append_drop off cs
    rw [← q0] at r
    generalize hK : ([] : List Nat) = K at r
    obtain ⟨v1,v2,K1,K2,rfl,rfl,r1,r2⟩ := r.append
    obtain ⟨rfl,rfl⟩ := List.append_eq_nil_iff.1 hK.symm
    have q1 := List.take_append_drop (P.cellsOf e) (cs.drop off)
    rw [← q1] at r2
    generalize hK : ([] : List Nat) = K at r2
    obtain ⟨v3,v4,K1,K2,rfl,rfl,r3,r4⟩ := r2.append
    obtain ⟨rfl,rfl⟩ := List.append_eq_nil_iff.1 hK.symm
    have l1 : v1.length = off := by rw [r1.length,List.length_take]; omega
    have l3 : v3.length = P.cellsOf e := by rw [r3.length,List.length_take,List.length_drop]; omega
    refine ⟨.agg ⟨v3⟩,run _ fun w' => ?_,.agg r3⟩
    unfold part
    simp only [Sem.run_bind,hag,hb,Result.andThen_ok,if_true,sizeOf,typeInfo,run_program,hi,Sem.run_pure,hs]
    congr 2
    simp only [List.extract_toArray,List.extract_eq_take_drop]
    congr 1
    rw [List.drop_left' l1,show off + P.cellsOf e - off = v3.length from by omega,List.take_left' rfl]
   | false =>
    refine ⟨vs.getD off undef,run _ fun w' => ?_,r.get off⟩
    have hlt : off < vs.length := by omega
    have e2 : (⟨vs⟩ : Array Value)[off]? = some vs[off] := by simp [hlt]
    unfold part
    simp only [Sem.run_bind,hag,hb,Result.andThen_ok,Bool.false_eq_true,if_false,e2,Sem.run_pure]
    simp [List.getD_eq_getElem?_getD,hlt]
 ·exact hc.elim
theorem snd_mkf (h : ConcD C s a w N M L) {f : FuncId} {cap : Array Operand} : ∃ v,Tells P a (.makeFunc (.func f) #[] cap) v ∧ Rep w N M (.fn f (cap.toList.map s.ev)) v [] := by
 refine ⟨.func (.func f) #[] (cap.map a.eval),fun w' o ho => ?_,?_⟩
 ·have e4 : execOp a.eval o = (do pure (.value (← Instr.makeFunc (.func f) ((#[] : Array Operand).map a.eval) (cap.map a.eval)))) := by unfold execOp; rw [ho]
  rw [e4]
  simp [Instr.makeFunc]
 ·have : ∀ l : List Operand,RepL w N M (l.map s.ev) (l.map a.eval) [] := by
   intro l
   induction l with
   | nil => exact .nil
   | cons x l ih => exact .cons (L1 := []) (L2 := []) (h.ev x) ih
  have r := this cap.toList
  have e : cap.map a.eval = ⟨cap.toList.map a.eval⟩ := by simp [← Array.toList_map]
  rw [e]
  exact .fn r
theorem bd_sound (h : ConcD C s a w N M L) {d : Nat} {x : Option Operand} {n : Int} (e : bd s d x = some n) : (x = none ∧ n = d) ∨ ∃ y k,x = some y ∧ a.eval y = .int k n := by
 cases x with
 | none => simp only [bd,Option.some.injEq] at e; exact .inl ⟨rfl,e.symm⟩
 | some y =>
  simp only [bd] at e
  split at e
  ·rename_i k m hy
   cases e
   exact .inr ⟨y,k,rfl,h.evv hy⟩
  ·cases e
theorem bounds_run (h : ConcD C s a w N M L) (w' : World) {isS : Bool} {len cap : Nat} {lo hi : Option Operand} {l e : Int} (hl : bd s (0 : Nat) lo = some l) (he : bd s len hi = some e) (h0 : 0 ≤ l) (h1 : l ≤ e) (h2 : e ≤ len) (hcap : len ≤ cap) :
  (Instr.sliceBounds isS len cap (lo.map a.eval) (hi.map a.eval) none).run P w' = .ok (l.toNat,e.toNat,cap) w' := by
 have sb : ∀ (k : IntKind) (n : Int) (y : Nat) c,0 ≤ n → n ≤ y → (Instr.sliceBound (.int k n) y c).run P w' = .ok n.toNat w' := fun k n y c a b => by simp [Instr.sliceBound,asIntOf,a,b]
 unfold Instr.sliceBounds
 rcases bd_sound h hl with ⟨rfl,rfl⟩ | ⟨y,k,rfl,ey⟩ <;> rcases bd_sound h he with ⟨rfl,rfl⟩ | ⟨y',k',rfl,ey'⟩
 ·simp
 ·simp [ey',sb _ _ cap _ (Int.le_trans h0 h1) (by omega)]
 ·simp [ey,sb _ _ len _ h0 h1]
 ·simp [ey,ey',sb _ _ cap _ (Int.le_trans h0 h1) (by omega),sb _ _ e.toNat _ h0 (by omega)]
theorem zero_sound (h : ConcD C s a w N M L) {y : Operand} (e : zeroB s y) : ∃ k,a.eval y = .int k 0 := by
 simp only [zeroB] at e
 split at e
 ·rename_i k n hy; subst e; exact ⟨k,h.evv hy⟩
 ·exact e.elim
theorem zeroO_sound (h : ConcD C s a w N M L) {x : Option Operand} (e : zeroO s x) : x = none ∨ ∃ y k,x = some y ∧ a.eval y = .int k 0 := by
 cases x with
 | none => exact .inl rfl
 | some y => obtain ⟨k,hk⟩ := zero_sound h (y := y) e; exact .inr ⟨y,k,rfl,hk⟩
theorem exec_slc {t e : TypeId} {x : Operand} {lo hi mx : Option Operand} (hu : P.underlying t = some (.slice e)) (hn : P.cellsOf e ≠ 0) {ad : Option Addr} {len cap l h' m : Nat} (e1 : a.eval x = .slice ad len cap)
  (e2 : ∀ w',(Instr.sliceBounds true len cap (lo.map a.eval) (hi.map a.eval) (mx.map a.eval)).run P w' = .ok (l,h',m) w') :
  Tells P a (.slice t x lo hi mx) (.slice (if m = l then ad else ad.map (·.add (l * P.cellsOf e))) (h' - l) (m - l)) := fun w' o ho => by
 obtain ⟨info,hi',hs⟩ := cellsOf_info (P := P) (t := e) rfl hn
 have e4 : execOp a.eval o = (do pure (.value (← Instr.sliceAt t (a.eval x) (lo.map a.eval) (hi.map a.eval) (mx.map a.eval)))) := by unfold execOp; rw [ho]
 rw [e4,e1]
 simp [Instr.sliceAt,Instr.slice,run_underlying hu,e2,sizeOf,typeInfo,hi',hs]
theorem nil_slc (h : ConcD C s a w N M L) {t e : TypeId} {x : Operand} {lo hi : Option Operand} (hu : P.underlying t = some (.slice e)) (hn : P.cellsOf e ≠ 0) {ad : Option Addr} (e1 : a.eval x = .slice ad 0 0) (z1 : zeroO s lo) (z2 : zeroO s hi) :
  Tells P a (.slice t x lo hi none) (.slice ad 0 0) := by
 have sb : ∀ (w' : World) (k : IntKind) (y : Nat) c,(Instr.sliceBound (.int k 0) y c).run P w' = .ok 0 w' := fun w' k y c => by simp [Instr.sliceBound,asIntOf]
 have hb : ∀ w',(Instr.sliceBounds true 0 0 (lo.map a.eval) (hi.map a.eval) ((none : Option Operand).map a.eval)).run P w' = .ok (0,0,0) w' := by
  intro w'
  unfold Instr.sliceBounds
  rcases zeroO_sound h z1 with rfl | ⟨y,k,rfl,ey⟩ <;> rcases zeroO_sound h z2 with rfl | ⟨y',k',rfl,ey'⟩ <;> simp [*]
 exact exec_slc hu hn e1 hb
theorem snd_slc (h : ConcD C s a w N M L) {t e : TypeId} {x : Operand} {lo hi : Option Operand} (hu : P.underlying t = some (.slice e)) (hn : P.cellsOf e ≠ 0) (hc : slcC s (P.cellsOf e) (s.ev x) lo hi) :
  ∃ v,Tells P a (.slice t x lo hi none) v ∧ Rep w N M (slcV s (s.ev x) lo hi) v [] := by
 have r := h.ev x
 generalize hv : s.ev x = av at *
 generalize hu' : a.eval x = u at r
 unfold slcC at hc
 split at hc
 ·rename_i sz rows
  split at hc
  ·rename_i l e' hl he
   obtain ⟨hsz,h0,h1,h2⟩ := hc
   simp only [slcV,hl,he]
   cases r with
   | slI0 _ ad cap =>
    have hl0 : l = 0 := by simp at h2; omega
    have he0 : e' = 0 := by simp at h2; omega
    subst hl0; subst he0
    refine ⟨_,exec_slc hu hn hu' (fun w' => bounds_run h w' hl he h0 h1 h2 (by simp)),?_⟩
    simp only [Int.toNat_zero,Nat.sub_self,Nat.sub_zero]
    exact .slI0 _ _ _
   | slI r hcl hN hcap =>
    rename_i b o cap
    refine ⟨_,exec_slc hu hn hu' (fun w' => bounds_run h w' hl he h0 h1 h2 hcap),?_⟩
    by_cases hemp : e'.toNat - l.toNat = 0
    ·rw [hemp]
     have : sub rows l.toNat 0 = [] := by
      rw [sub_eq (by omega)]; simp
     rw [this]; exact .slI0 _ _ _
    ·have hsz' : sz = P.cellsOf e := by
      rcases hsz with rfl | rfl
      ·rfl
      ·simp at h2; omega
     have hln : l.toNat + (e'.toNat - l.toNat) ≤ rows.length := by omega
     obtain ⟨K1,K2,K3,hK,r'⟩ := r.rows hcl l.toNat (e'.toNat - l.toNat) hln
     have hK2 : K2 = [] := by
      have := congrArg List.length hK
      simp only [List.length_nil,List.length_append] at this
      exact List.length_eq_zero_iff.1 (by omega)
     subst hK2
     rw [← sub_eq hln] at r'
     have e5 : (if cap = l.toNat then some (⟨b,o,none⟩ : Addr) else (some (⟨b,o,none⟩ : Addr)).map (·.add (l.toNat * P.cellsOf e))) = some ⟨b,o + l.toNat * sz,none⟩ := by
      rw [if_neg (by omega)]
      simp [add_none,hsz']
     rw [e5]
     have hlen := sub_len hln
     have := Rep.slI (M := M) (cap := cap - l.toNat) r' (fun y hy => hcl y (by rw [sub_eq hln] at hy; exact List.mem_of_mem_drop (List.mem_of_mem_take hy))) (fun i hi => by
      rw [hlen] at hi
      rw [Nat.add_assoc]
      refine hN _ ?_
      calc l.toNat * sz + i < l.toNat * sz + (e'.toNat - l.toNat) * sz := by omega
       _ = (l.toNat + (e'.toNat - l.toNat)) * sz := by rw [Nat.add_mul]
       _ ≤ rows.length * sz := Nat.mul_le_mul_right _ hln) (by omega)
     rw [hlen] at this
     exact this
  ·exact hc.elim
 ·rename_i j ver off len
  split at hc
  ·rename_i l e' hl he
   obtain ⟨hsz,h0,h1,h2⟩ := hc
   simp only [slcV,hl,he]
   split at hsz
   ·rename_i b hb
    obtain ⟨hlb,m,L1,g1,g2,g3,g4⟩ := h.blk hb
    cases r with
    | ref mm hM hm =>
     rename_i ad cap
     rw [g1] at hM
     cases hM
     obtain ⟨h5,h6⟩ := hm m rfl
     obtain ⟨h7,h8⟩ := h6 (by rw [g2.len,hlb])
     have hcap : len ≤ cap := by
      rcases h8 with ⟨rfl,_⟩ | ⟨_,_,h9,_⟩
      ·omega
      ·exact h9
     refine ⟨_,exec_slc hu hn hu' (fun w' => bounds_run h w' hl he h0 h1 h2 hcap),?_⟩
     refine .ref (some m) g1 fun m' hm' => ?_
     cases hm'
     refine ⟨h5,fun _ => ⟨by omega,?_⟩⟩
     rcases h8 with ⟨rfl,rfl⟩ | ⟨h8,rfl,h9,h10⟩
     ·exact .inl ⟨by omega,by omega⟩
     ·by_cases hcl : cap = l.toNat
      ·exact .inl ⟨by omega,by omega⟩
      ·refine .inr ⟨h8,?_,by omega,?_⟩
       ·rw [if_neg hcl,g2.sz,hsz]
        simp [add_none,Nat.add_mul,Nat.add_assoc]
       ·have : off + l.toNat + (cap - l.toNat) = off + cap := by omega
        rw [this]; exact h10
   ·exact hsz.elim
  ·exact hc.elim
 ·obtain ⟨z1,z2⟩ := hc
  cases r with
  | slO0 _ ad => exact ⟨_,nil_slc h hu hn hu' z1 z2,.slO0 _ _⟩
 ·obtain ⟨z1,z2⟩ := hc
  cases r with
  | val => exact ⟨_,nil_slc h hu hn hu' z1 z2,.val _⟩
 ·exact hc.elim
theorem snd_slz (h : ConcD C s a w N M L) {t e : TypeId} {x lo hi mx : Operand} (hu : P.underlying t = some (.slice e)) (hn : P.cellsOf e ≠ 0) (hc : lenC (s.ev x)) (z1 : zeroB s lo) (z2 : zeroB s hi) (z3 : zeroB s mx) :
  ∃ v,Tells P a (.slice t x (some lo) (some hi) (some mx)) v ∧ Rep w N M emp v [] := by
 have sb : ∀ (w' : World) (k : IntKind) (y : Nat) c,(Instr.sliceBound (.int k 0) y c).run P w' = .ok 0 w' := fun w' k y c => by simp [Instr.sliceBound,asIntOf]
 obtain ⟨k1,e1⟩ := zero_sound h z1
 obtain ⟨k2,e2⟩ := zero_sound h z2
 obtain ⟨k3,e3⟩ := zero_sound h z3
 have hx : ∃ ad len cap,a.eval x = .slice ad len cap := by
  have r := h.ev x
  generalize hv : s.ev x = av at *
  generalize a.eval x = u at *
  cases av with
  | sl own sz rows => obtain ⟨ad,cap,rfl⟩ := r.sl_inv; exact ⟨_,_,_,rfl⟩
  | ref j ver off len => cases r with | ref => exact ⟨_,_,_,rfl⟩
  | val v =>
   unfold lenC at hc
   split at hc
   ·rename_i heq; cases heq
   ·rename_i heq; cases heq
   ·rename_i heq; cases heq; cases r; exact ⟨_,_,_,rfl⟩
   ·exact hc.elim
  | _ => exact hc.elim
 obtain ⟨ad,len,cap,hx⟩ := hx
 have hb : ∀ w',(Instr.sliceBounds true len cap ((some lo).map a.eval) ((some hi).map a.eval) ((some mx).map a.eval)).run P w' = .ok (0,0,0) w' := by
  intro w'
  unfold Instr.sliceBounds
  simp [*]
 exact ⟨_,exec_slc hu hn hx hb,.slO0 _ _⟩
theorem RepL.append0 {xs ys : List AV} {vs : List Value} (h : RepL w N M (xs ++ ys) vs []) : ∃ v1 v2,vs = v1 ++ v2 ∧ RepL w N M xs v1 [] ∧ RepL w N M ys v2 [] := by
 obtain ⟨v1,v2,K1,K2,e1,e2,r1,r2⟩ := h.append
 obtain ⟨rfl,rfl⟩ := List.append_eq_nil_iff.1 e2.symm
 exact ⟨v1,v2,e1,r1,r2⟩
theorem run_info {t : TypeId} {i : TypeInfo} (h : P.info? t = some i) : (typeInfo t).run P w = .ok i w := by simp [typeInfo,h]
theorem one_value {x : AV} {v : Value} (r : Rep w N M x v []) (h1 : x.cell1 = true) : v.oneCell' = true ∧ v.cells = #[v] ∧ x.cells = [x] := by
 cases x with
 | val u =>
  obtain rfl : v = u := by cases r; rfl
  clear r
  cases v <;> first | exact ⟨rfl,rfl,rfl⟩ | cases h1
 | sl own sz rows => obtain ⟨a',cap,rfl⟩ := r.sl_inv; exact ⟨rfl,rfl,rfl⟩
 | ref => cases r; exact ⟨rfl,rfl,rfl⟩
 | ptr => cases r; exact ⟨rfl,rfl,rfl⟩
 | ipt => cases r; exact ⟨rfl,rfl,rfl⟩
 | fn => cases r; exact ⟨rfl,rfl,rfl⟩
 | any => cases h1
 | agg => cases h1
 | tup => cases h1
theorem fits_values {x : AV} {v : Value} {n : Nat} (r : Rep w N M x v []) (hf : x.fits n = true) : ∃ vs,v.cells = ⟨vs⟩ ∧ RepL w N M x.cells vs [] ∧ vs.length = n ∧ x.cells.length = n ∧ ∀ u ∈ vs,u.oneCell' = true := by
 have one : ∀ {x : AV} {v : Value},Rep w N M x v [] → x.cell1 = true → v.oneCell' = true ∧ v.cells = #[v] ∧ x.cells = [x] := fun r h => one_value r h
 by_cases hag : ∃ cs,x = .agg cs
 ·obtain ⟨cs,rfl⟩ := hag
  cases r with
  | agg r =>
   rename_i vs
   simp only [AV.fits,Bool.and_eq_true,beq_iff_eq] at hf
   refine ⟨vs,rfl,r,by rw [r.length,hf.1],hf.1,?_⟩
   have : ∀ (cs : List AV) (vs : List Value),RepL w N M cs vs [] → cs.all AV.cell1 = true → ∀ u ∈ vs,u.oneCell' = true := by
    intro cs
    induction cs with
    | nil => intro vs r _ u hu; cases r; cases hu
    | cons c cs ih =>
     intro vs r hc u hu
     generalize hK : ([] : List Nat) = K at r
     cases r with
     | cons hx ht =>
      obtain ⟨rfl,rfl⟩ := List.append_eq_nil_iff.1 hK.symm
      simp only [List.all_cons,Bool.and_eq_true] at hc
      rcases List.mem_cons.1 hu with rfl | hu
      ·exact (one hx hc.1).1
      ·exact ih _ ht hc.2 u hu
   exact this cs vs r hf.2
 ·have hf' : n = 1 ∧ x.cell1 = true := by
   cases x <;> first | (exact absurd ⟨_,rfl⟩ hag) | (simpa [AV.fits] using hf)
  obtain ⟨rfl,hf'⟩ := hf'
  obtain ⟨h1,h2,h3⟩ := one r hf'
  refine ⟨[v],by rw [h2],?_,rfl,by rw [h3]; rfl,by simpa using h1⟩
  rw [h3]
  exact .cons (L1 := []) (L2 := []) r .nil
theorem setSeq : ∀ (ns : List Value) (vs : List Value) (off : Nat),off + ns.length ≤ vs.length →
  (ns.zipIdx.foldl (fun (cs : Array Value) (p : Value × Nat) => cs.setIfInBounds (off + p.2) p.1) ⟨vs⟩) = ⟨vs.take off ++ (ns ++ vs.drop (off + ns.length))⟩ := by
 have gen : ∀ (ns : List Value) (vs : List Value) (off k : Nat),off + k + ns.length ≤ vs.length →
   ((ns.zipIdx k).foldl (fun (cs : Array Value) (p : Value × Nat) => cs.setIfInBounds (off + p.2) p.1) ⟨vs⟩) = ⟨vs.take (off + k) ++ (ns ++ vs.drop (off + k + ns.length))⟩ := by
  intro ns
  induction ns with
  | nil => intro vs off k h; simp
  | cons n ns ih =>
   intro vs off k h
   simp only [List.length_cons] at h
   rw [List.zipIdx_cons,List.foldl_cons]
   simp only [List.setIfInBounds_toArray]
   rw [ih (vs.set (off + k) n) off (k + 1) (by simp; omega)]
   congr 1
   rw [show off + (k + 1) = off + k + 1 from by omega]
   rw [List.take_succ_eq_append_getElem (by simp; omega),List.getElem_set_self,List.take_set_of_le (by omega),List.drop_set_of_lt (by omega)]
   simp only [List.append_assoc,List.length_cons,List.cons_append,List.nil_append]
   rw [show off + k + 1 + ns.length = off + k + (ns.length + 1) from by omega]
 intro ns vs off h
 exact gen ns vs off 0 (by simpa using h)
theorem lay_sound (h : ConcD C s a w N M L) {fs : Array Field} (places : Nat → Option (Nat × Nat)) :
  ∀ (ps : List (Nat × Operand)) (ls : List (Nat × Nat × Operand)) (z : List AV) (zs : List Value),noneList (ps.map (partAt' P fs)) = some ls → (∀ i f,fs[i]? = some f → places i = some (f.offset,P.cellsOf f.type)) →
   RepL w N M z zs [] → layC s z.length ls → ∃ us,Instr.fill places ⟨zs⟩ (ps.map fun (p : Nat × Operand) => (p.1,a.eval p.2)) = some ⟨us⟩ ∧ RepL w N M (lay s z ls) us []
 | [],ls,z,zs,hl,_,hz,_ => by
  simp only [List.map_nil,noneList,Option.some.injEq] at hl
  subst hl
  exact ⟨zs,rfl,hz⟩
 | (i,x) :: ps,ls,z,zs,hl,hp,hz,hc => by
  simp only [List.map_cons,partAt'] at hl
  cases hf : fs[i]? with
  | none => simp [hf,noneList] at hl
  | some f =>
   simp only [hf,noneList] at hl
   cases hl2 : noneList (ps.map (partAt' P fs)) with
   | none => rw [hl2] at hl; cases hl
   | some l2 =>
    rw [hl2] at hl
    simp only [Option.map_some,Option.some.injEq] at hl
    subst hl
    obtain ⟨c1,c2,c3⟩ := hc
    obtain ⟨vs,f1,f2,f3,f4,f5⟩ := fits_values (h.ev x) c1
    have hzl := hz.length
    simp only [List.map_cons,Instr.fill,hp i f hf,f1,List.size_toArray,f3]
    have e : (decide (P.cellsOf f.type ≠ P.cellsOf f.type) || decide (f.offset + P.cellsOf f.type > zs.length)) = false := by simp; omega
    have e2 : vs.toArray.zipIdx.foldl (fun (cs : Array Value) (x : Value × Nat) => cs.setIfInBounds (f.offset + x.2) x.1) ⟨zs⟩ = ⟨zs.take f.offset ++ (vs ++ zs.drop (f.offset + vs.length))⟩ := by
     rw [← setSeq vs zs f.offset (by omega)]
     rw [← Array.foldl_toList]
     simp
    rw [if_neg (by simpa using e)]
    have hz2 : RepL w N M (z.take f.offset ++ ((s.ev x).cells ++ z.drop (f.offset + P.cellsOf f.type))) (zs.take f.offset ++ (vs ++ zs.drop (f.offset + vs.length))) [] := by
     have s1 : ∀ n,RepL w N M (z.take n) (zs.take n) [] ∧ RepL w N M (z.drop n) (zs.drop n) [] := by
      intro n
      have e3 := List.take_append_drop n z
      have hz' := hz
      rw [← e3] at hz'
      obtain ⟨v1,v2,e4,r1,r2⟩ := hz'.append0
      have l1 := r1.length
      rcases Nat.lt_or_ge z.length n with hn | hn
      ·have : z.take n = z := List.take_of_length_le (by omega)
       have hd : z.drop n = [] := List.drop_eq_nil_of_le (by omega)
       rw [this,hd,List.take_of_length_le (by omega),List.drop_eq_nil_of_le (by omega)]
       exact ⟨hz,.nil⟩
      ·rw [List.length_take,Nat.min_eq_left hn] at l1
       rw [e4,List.take_left' l1,List.drop_left' l1]
       exact ⟨r1,r2⟩
     rw [f3]
     exact RepL.join (L1 := []) (L2 := []) (s1 _).1 (RepL.join (L1 := []) (L2 := []) f2 (s1 _).2)
    have := lay_sound h places ps l2 _ _ hl2 hp hz2 (by
     have : (z.take f.offset ++ ((s.ev x).cells ++ z.drop (f.offset + P.cellsOf f.type))).length = z.length := by simp [f4]; omega
     rw [this]; exact c3)
    obtain ⟨us,u1,u2⟩ := this
    refine ⟨us,?_,u2⟩
    rw [← u1]
    congr 1
theorem snd_bld (h : ConcD C s a w N M L) {t : TypeId} {ps : Array (Nat × Operand)} {fs : Array Field} {i : TypeInfo} {z : Value} {ls : List (Nat × Nat × Operand)} (hu : P.underlying t = some (.struct fs)) (hi : P.info? t = some i) (hz : i.zero = some z)
  (hl : noneList (ps.toList.map (partAt' P fs)) = some ls) (hfs : ∀ f ∈ fs,(P.info? f.type).isSome = true) (hc : layC s (z.cells.toList.map AV.val).length ls) :
  ∃ v,Tells P a (.build t ps) v ∧ Rep w N M (.agg (lay s (z.cells.toList.map .val) ls)) v [] := by
 have places : ∀ w',(fs.mapM fun (f : Field) => (do pure (f.offset,← sizeOf f.type) : Sem (Nat × Nat))).run P w' = .ok (fs.map fun f => (f.offset,P.cellsOf f.type)) w' := by
  intro w'
  rw [← Array.toArray_toList (xs := fs)] at hfs ⊢
  generalize fs.toList = l at hfs
  rw [List.mapM_toArray]
  have : ∀ l : List Field,(∀ f ∈ l,(P.info? f.type).isSome = true) → (l.mapM fun (f : Field) => (do pure (f.offset,← sizeOf f.type) : Sem (Nat × Nat))).run P w' = .ok (l.map fun f => (f.offset,P.cellsOf f.type)) w' := by
   intro l
   induction l with
   | nil => intro _; simp
   | cons f l ih =>
    intro hf
    obtain ⟨info,hinfo⟩ := Option.isSome_iff_exists.1 (hf f (by simp))
    have h1 : (do pure (f.offset,← sizeOf f.type) : Sem (Nat × Nat)).run P w' = .ok (f.offset,P.cellsOf f.type) w' := by simp [sizeOf,typeInfo,hinfo,Program.cellsOf]
    rw [List.mapM_cons,Sem.run_bind,h1,Result.andThen_ok,Sem.run_bind,ih (fun g hg => hf g (by simp [hg]))]
    rfl
  rw [Sem.run_map,this l (fun f hf => hfs f (by simpa using hf))]
  simp
 have hr := RepL.vals w N M z.cells.toList
 obtain ⟨us,u1,u2⟩ := lay_sound h (P := P) (fs := fs) (fun i => (fs.map fun (f : Field) => (f.offset,P.cellsOf f.type))[i]?) ps.toList ls (z.cells.toList.map .val) z.cells.toList hl (fun i f hf => by simp [hf]) hr hc
 refine ⟨.agg ⟨us⟩,fun w' o ho => ?_,.agg u2⟩
 have e4 : execOp a.eval o = (do pure (.value (← Instr.build t (ps.map fun (p : Nat × Operand) => (p.1,a.eval p.2))))) := by unfold execOp; rw [ho]
 rw [e4]
 have e5 : (ps.map fun (p : Nat × Operand) => (p.1,a.eval p.2)).toList = ps.toList.map fun (p : Nat × Operand) => (p.1,a.eval p.2) := by simp
 simp only [Instr.build,Sem.run_bind,zeroValue,run_info hi,Result.andThen_ok,hz,Sem.run_pure,run_underlying hu,places,e5]
 have e6 : (⟨z.cells.toList⟩ : Array Value) = z.cells := rfl
 rw [e6] at u1
 rw [u1]
 rfl
theorem layA_sound (h : ConcD C s a w N M L) (sz : Nat) :
  ∀ (ps : List (Nat × Operand)) (z : List AV) (zs : List Value),
   RepL w N M z zs [] → layC s z.length (ps.map (partA sz)) → ∃ us,Instr.fill (fun i => some (i * sz,sz)) ⟨zs⟩ (ps.map fun (p : Nat × Operand) => (p.1,a.eval p.2)) = some ⟨us⟩ ∧ RepL w N M (lay s z (ps.map (partA sz))) us []
 | [],z,zs,hz,_ => ⟨zs,rfl,hz⟩
 | (i,x) :: ps,z,zs,hz,hc => by
  obtain ⟨c1,c2,c3⟩ := hc
  obtain ⟨vs,f1,f2,f3,f4,f5⟩ := fits_values (h.ev x) c1
  have hzl := hz.length
  simp only [List.map_cons,Instr.fill,f1,List.size_toArray,f3]
  have e : (decide (sz ≠ sz) || decide (i * sz + sz > zs.length)) = false := by simp; omega
  have e2 : vs.toArray.zipIdx.foldl (fun (cs : Array Value) (x : Value × Nat) => cs.setIfInBounds (i * sz + x.2) x.1) ⟨zs⟩ = ⟨zs.take (i * sz) ++ (vs ++ zs.drop (i * sz + vs.length))⟩ := by
   rw [← setSeq vs zs (i * sz) (by omega)]
   rw [← Array.foldl_toList]
   simp
  rw [if_neg (by simpa using e)]
  have hz2 : RepL w N M (z.take (i * sz) ++ ((s.ev x).cells ++ z.drop (i * sz + sz))) (zs.take (i * sz) ++ (vs ++ zs.drop (i * sz + vs.length))) [] := by
   have s1 : ∀ n,RepL w N M (z.take n) (zs.take n) [] ∧ RepL w N M (z.drop n) (zs.drop n) [] := by
    intro n
    have e3 := List.take_append_drop n z
    have hz' := hz
    rw [← e3] at hz'
    obtain ⟨v1,v2,e4,r1,r2⟩ := hz'.append0
    have l1 := r1.length
    rcases Nat.lt_or_ge z.length n with hn | hn
    ·have : z.take n = z := List.take_of_length_le (by omega)
     have hd : z.drop n = [] := List.drop_eq_nil_of_le (by omega)
     rw [this,hd,List.take_of_length_le (by omega),List.drop_eq_nil_of_le (by omega)]
     exact ⟨hz,.nil⟩
    ·rw [List.length_take,Nat.min_eq_left hn] at l1
     rw [e4,List.take_left' l1,List.drop_left' l1]
     exact ⟨r1,r2⟩
   rw [f3]
   exact RepL.join (L1 := []) (L2 := []) (s1 _).1 (RepL.join (L1 := []) (L2 := []) f2 (s1 _).2)
  obtain ⟨us,u1,u2⟩ := layA_sound h sz ps _ _ hz2 (by
   have : (z.take (i * sz) ++ ((s.ev x).cells ++ z.drop (i * sz + sz))).length = z.length := by simp [f4]; omega
   rw [this]; exact c3)
  refine ⟨us,?_,u2⟩
  rw [← u1]
  congr 1
theorem snd_blA (h : ConcD C s a w N M L) {t e : TypeId} {ps : Array (Nat × Operand)} {len : Nat} {i : TypeInfo} {z : Value} (hu : P.underlying t = some (.array len e)) (hi : P.info? t = some i) (hz : i.zero = some z) (hn : P.cellsOf e ≠ 0)
  (hc : layC s (z.cells.toList.map AV.val).length (ps.toList.map (partA (P.cellsOf e)))) :
  ∃ v,Tells P a (.build t ps) v ∧ Rep w N M (.agg (lay s (z.cells.toList.map .val) (ps.toList.map (partA (P.cellsOf e))))) v [] := by
 obtain ⟨info,hi',hs⟩ := cellsOf_info (P := P) (t := e) rfl hn
 have hr := RepL.vals w N M z.cells.toList
 obtain ⟨us,u1,u2⟩ := layA_sound h (P.cellsOf e) ps.toList (z.cells.toList.map .val) z.cells.toList hr hc
 refine ⟨.agg ⟨us⟩,fun w' o ho => ?_,.agg u2⟩
 have e4 : execOp a.eval o = (do pure (.value (← Instr.build t (ps.map fun (p : Nat × Operand) => (p.1,a.eval p.2))))) := by unfold execOp; rw [ho]
 rw [e4]
 have e5 : (ps.map fun (p : Nat × Operand) => (p.1,a.eval p.2)).toList = ps.toList.map fun (p : Nat × Operand) => (p.1,a.eval p.2) := by simp
 have hso : (sizeOf e).run P w' = .ok (P.cellsOf e) w' := by simp [sizeOf,typeInfo,hi',hs]
 simp only [Instr.build,Sem.run_bind,zeroValue,run_info hi,Result.andThen_ok,hz,Sem.run_pure,run_underlying hu,hso,e5]
 have e6 : (⟨z.cells.toList⟩ : Array Value) = z.cells := rfl
 rw [e6] at u1
 rw [u1]
 rfl
end
end Go.Proofs.Ytkmhopbmpeiofaa.Nx
namespace Go.Proofs.Ytkmhopbmpeiofaa.Nx
open Go Go.RowKit
theorem cell_in {w : World} {b o : Nat} {c : Array Value} {e : TypeId} {fz : Nat × Nat} (h : w.heap[b]? = some (.cells c e fz)) : w.cell? ⟨b,o,none⟩ = c[o]? := by
 simp [World.cell?,h]
theorem room.cell {w : World} {z b n : Nat} (h : room w z b n) {o : Nat} (ho : o < n) : (w.cell? ⟨b,o,none⟩).isSome = true ∧ w.frozen? ⟨b,o,none⟩ = false := by
 obtain ⟨c,e,fz,h1,h2,h3⟩ := h
 constructor
 ·rw [cell_in h1]; simp; omega
 ·obtain ⟨lo,hi⟩ := fz
  simp only [World.frozen?,h1]
  exact h3.1 o (by omega)
structure Pushed (w w' : World) (c : Array Value) (e : TypeId) (fz : Nat × Nat) : Prop where
 heap : w'.heap = w.heap.push (.cells c e fz)
 os : w'.os = w.os
 tape : w'.tape = w.tape
 output : w'.output = w.output
section
variable {w w' : World} {c : Array Value} {e : TypeId} {fz : Nat × Nat}
theorem Pushed.old (h : Pushed w w' c e fz) {b : Nat} (hb : b < w.heap.size) : w'.heap[b]? = w.heap[b]? := by
 rw [h.heap,Array.getElem?_push,if_neg (by omega)]
theorem Pushed.new (h : Pushed w w' c e fz) : w'.heap[w.heap.size]? = some (.cells c e fz) := by
 rw [h.heap,Array.getElem?_push,if_pos rfl]
theorem Pushed.size (h : Pushed w w' c e fz) : w'.heap.size = w.heap.size + 1 := by rw [h.heap]; simp
theorem some_lt {w : World} {b : Nat} {x : Obj} (h : w.heap[b]? = some x) : b < w.heap.size := by
 rcases Nat.lt_or_ge b w.heap.size with h' | h'
 ·exact h'
 ·rw [Array.getElem?_eq_none h'] at h; cases h
theorem Pushed.shp (h : Pushed w w' c e fz) : Shp w w' := fun b c' e' fz' hb => ⟨c',by rw [h.old (some_lt hb)]; exact hb,rfl⟩
theorem Pushed.fr (h : Pushed w w' c e fz) (X : List Nat) : Fr X w w' :=
 ⟨h.os,h.tape,h.output,by rw [h.size]; omega,fun k hk _ => h.old hk,h.shp⟩
theorem Pushed.same (h : Pushed w w' c e fz) {b : Nat} (hb : b < w.heap.size) : Same w w' b := fun _ => World.cell?_of_block (h.old hb)
end
section
variable {P : Program} {C : Ctx} {s : AS} {a : Act} {w w' : World} {N : NT} {M : MT} {L : List (Nat × Nat)}
theorem ConcD.alloc (h : ConcD C s a w N M L) {c : Array Value} {e : TypeId} {fz : Nat × Nat} (hp : Pushed w w' c e fz) {k : Blk} {vs : List Value}
  (hcl : ∀ y ∈ k.rows,y.cells.length = k.sz) (hr : RepL w N M (k.rows.flatMap AV.cells) vs []) (hv : ∀ i,i < vs.length → c[i]? = vs[i]?) (hsz : k.rows.length * k.sz ≤ c.size)
  (hfz : Mk k.sz c.size fz) (hlo : k.lo = 0 ∧ k.fz = 0) :
  ∃ M' m,ConcD C { s with hp := s.hp ++ [some k] } a w' N M' (L ++ [(w.heap.size,0)]) ∧ M' s.hp.length = some (some m) ∧ m.b = w.heap.size ∧ m.o = 0 ∧ m.len = k.rows.length ∧ m.sz = k.sz ∧ m.virt = false ∧
   (∀ x v,Rep w N M x v [] → Rep w' N M' x v []) := by
 let m : Cn := { b := w.heap.size,o := 0,sz := k.sz,len := k.rows.length,fr := 0,virt := false }
 let M' : MT := fun i => if i = s.hp.length then some (some m) else M i
 have hun := h.un s.hp.length (Nat.le_refl _)
 have g : Gr w w' N N M M' := ⟨hp.shp,fun b o hn => hp.same (h.nlt b o hn) o,fun _ _ hn => hn,fun j x hx => by
  have hne : j ≠ s.hp.length := fun e => by rw [e,hun] at hx; cases hx
  exact ⟨x,by simp [M',hne,hx],fun m' hm' => ⟨m',hm',.inl rfl⟩⟩⟩
 have hrr : ∀ x v,Rep w N M x v [] → Rep w' N M' x v [] := fun x v hx => hx.gr g (fun _ hb => by cases hb)
 have hL : ∀ p ∈ L,Same w w' p.1 := fun p hpL => hp.same (h.own p hpL).1
 have hp1 : HR w' N M' 0 s.hp L := h.hp.gr g hL fun i _ hi => by
  have hne : i ≠ s.hp.length := by omega
  simp [M',hne]
 have hbr : BR w' N M' k m [] := by
  refine ⟨rfl,rfl,Nat.zero_le _,hcl,?_,(fun e => (by cases e)),(fun _ => ⟨c,e,fz,hp.new,by simpa [m] using hsz,hfz⟩),by rw [hlo.1]; exact Nat.zero_le _,fun i hi => by rw [hlo.2] at hi; omega,fun _ => rfl⟩
  refine RepC.of_values (hr.gr g (fun _ hb => by cases hb)) fun i hi => ?_
  show w'.cell? ⟨w.heap.size,0 + i,none⟩ = _
  rw [cell_in hp.new,Nat.zero_add]; exact hv i hi
 refine ⟨M',m,?_,by simp [M'],rfl,rfl,rfl,rfl,rfl,hrr⟩
 refine ⟨h.df,h.sl.gr g (fun _ hb => by cases hb),?_,?_,?_,?_,h.nup,h.ndn,h.fr.trans (hp.fr []) (fun _ hy => by cases hy) (fun b o hn => g.cell b o (h.nup b o hn)),?_,?_,fun i hi => h.mz i (by simp only [List.length_append,List.length_singleton] at hi; omega)⟩
 ·have := HR.join hp1 (HR.live (k := 0 + s.hp.length) (by simp [M']) hbr (HR.nil _))
  simpa [ownOf,m] using this
 ·rw [List.map_append,List.nodup_append]
  refine ⟨h.nd,by simp,fun x hx y hy e => ?_⟩
  simp only [List.map_cons,List.map_nil,List.mem_singleton] at hy
  subst hy
  subst e
  obtain ⟨p,hp',e⟩ := List.mem_map.1 hx
  have := (h.own p hp').1
  omega
 ·intro p hpL
  rcases List.mem_append.1 hpL with hpL | hpL
  ·obtain ⟨h1,h2,h3⟩ := h.own p hpL
   exact ⟨by rw [hp.size]; omega,h2,h3⟩
  ·simp only [List.mem_singleton] at hpL
   subst hpL
   refine ⟨by rw [hp.size]; simp,.inl h.fr.size,fun o hn => ?_⟩
   have := h.nlt _ _ hn
   simp at this
 ·intro b o hn
  have := h.nlt b o hn
  rw [hp.size]; omega
 ·intro i hi
  simp only [List.length_append,List.length_singleton] at hi
  have hne : i ≠ s.hp.length := by omega
  simp only [M',hne,if_false]
  exact h.un i (by omega)
 ·intro i m1 m0 h1 h0
  by_cases hi : i = s.hp.length
  ·subst hi
   simp only [M',if_true,Option.some.injEq] at h1
   rw [h.mz s.hp.length (Nat.le_refl _)] at h0
   cases h0
  ·simp only [M',hi,if_false] at h1
   exact h.mv i m1 m0 h1 h0
theorem nodup_mid {A B K K' : List Nat} (h : (A ++ (K ++ B)).Nodup) (hk : K'.Nodup) (hs : ∀ x ∈ K',x ∈ K ∨ (x ∉ A ∧ x ∉ B)) : (A ++ (K' ++ B)).Nodup := by
 rw [List.nodup_append] at h ⊢
 obtain ⟨h1,h2,h3⟩ := h
 rw [List.nodup_append] at h2
 obtain ⟨h4,h5,h6⟩ := h2
 refine ⟨h1,?_,?_⟩
 ·rw [List.nodup_append]
  refine ⟨hk,h5,fun x hx y hy e => ?_⟩
  rcases hs x hx with h | h
  ·exact h6 x h y hy e
  ·subst e; exact h.2 hy
 ·intro x hx y hy e
  rcases List.mem_append.1 hy with hy | hy
  ·rcases hs y hy with h | h
   ·exact h3 x hx y (by simp [h]) e
   ·subst e; exact h.1 hx
  ·exact h3 x hx y (by simp [hy]) e
structure Upd (w w' : World) (m m' : Cn) (L1 L1' : List Nat) : Prop where
 os : w'.os = w.os
 tape : w'.tape = w.tape
 output : w'.output = w.output
 size : w.heap.size ≤ w'.heap.size
 shp : Shp w w'
 block : ∀ b,b < w.heap.size → (b ≠ m.b ∨ m.virt = true ∨ w.heap.size ≤ m'.b) → w'.heap[b]? = w.heap[b]?
 fz : ∀ o,o < m.fr → m.virt = false → w'.cell? ⟨m.b,o,none⟩ = w.cell? ⟨m.b,o,none⟩
 same : m' = m ∨ m.len < m'.len
 virt : m'.virt = false
 at_ : (m'.b = m.b ∧ m.virt = false ∧ m'.fr = m.fr) ∨ (w.heap.size ≤ m'.b ∧ m'.b < w'.heap.size)
 sub : ∀ x ∈ L1',x ∈ L1
 nd : L1.Nodup → L1'.Nodup
theorem ConcD.upd (h : ConcD C s a w N M L) {j : Nat} {k : Blk} (hj : s.hp[j]? = some (some k)) {m : Cn} {L1 : List Nat} {A B : List (Nat × Nat)} {p q : HP} (e1 : s.hp = p ++ some k :: q) (e2 : j = p.length) (e3 : L = A ++ (ownOf m L1 ++ B))
  (hp1 : HR w N M 0 p A) (hM : M j = some (some m)) (hbr : BR w N M k m L1) (hq : HR w N M (j + 1) q B)
  {k' : Blk} {m' : Cn} {L1' : List Nat} (u : Upd w w' m m' L1 L1')
  (hnew : ∀ M',(∀ x v K,Rep w N M x v K → (∀ b ∈ K,Same w w' b) → Rep w' N M' x v K) → M' j = some (some m') → BR w' N M' k' m' L1') :
  ∃ M',ConcD C { s with hp := s.hp.set j (some k') } a w' N M' (A ++ (ownOf m' L1' ++ B)) ∧ M' j = some (some m') ∧ (∀ x v,Rep w N M x v [] → Rep w' N M' x v []) := by
 let M' : MT := fun i => if i = j then some (some m') else M i
 have hnodup : ∀ x ∈ A.map Prod.fst,x ∉ (ownOf m L1).map Prod.fst ∧ x ∉ B.map Prod.fst := by
  intro x hx
  have := h.nd
  rw [e3,List.map_append,List.nodup_append] at this
  exact ⟨fun hy => this.2.2 x hx x (by simp only [List.map_append,List.mem_append]; exact .inl hy) rfl,fun hy => this.2.2 x hx x (by simp only [List.map_append,List.mem_append]; exact .inr hy) rfl⟩
 have hnodup2 : ((ownOf m L1).map Prod.fst).Nodup ∧ ∀ x ∈ B.map Prod.fst,x ∉ (ownOf m L1).map Prod.fst := by
  have := h.nd
  rw [e3,List.map_append,List.nodup_append] at this
  have h2 := this.2.1
  rw [List.map_append,List.nodup_append] at h2
  exact ⟨h2.1,fun x hx hy => h2.2.2 x hy x hx rfl⟩
 have hother : ∀ pr ∈ L,(m.virt = false → pr.1 ≠ m.b) → Same w w' pr.1 := by
  intro pr hpr hne o
  refine World.cell?_of_block (u.block _ (h.own pr hpr).1 ?_)
  cases hv : m.virt with
  | true => exact .inr (.inl rfl)
  | false => exact .inl (hne hv)
 have hA : ∀ pr ∈ A,Same w w' pr.1 := fun pr hpr => hother pr (by rw [e3]; simp [hpr]) fun hv e => by
  refine (hnodup pr.1 (List.mem_map.2 ⟨pr,hpr,rfl⟩)).1 ?_
  simp [ownOf,hv,e]
 have hB : ∀ pr ∈ B,Same w w' pr.1 := fun pr hpr => hother pr (by rw [e3]; simp [hpr]) fun hv e => by
  refine hnodup2.2 pr.1 (List.mem_map.2 ⟨pr,hpr,rfl⟩) ?_
  simp [ownOf,hv,e]
 have hcell : ∀ b o,N b o → w'.cell? ⟨b,o,none⟩ = w.cell? ⟨b,o,none⟩ := by
  intro b o hn
  by_cases hb : b = m.b ∧ m.virt = false
  ·obtain ⟨rfl,hv⟩ := hb
   have hown := (h.own (m.b,m.fr) (by rw [e3]; simp [ownOf,hv])).2.2 o hn
   exact u.fz o hown hv
  ·refine World.cell?_of_block (u.block b (h.nlt b o hn) ?_)
   by_cases e : b = m.b
   ·exact .inr (.inl (by cases hv : m.virt <;> simp_all))
   ·exact .inl e
 have g : Gr w w' N N M M' := ⟨u.shp,hcell,fun _ _ hn => hn,fun i x hx => by
  by_cases hi : i = j
  ·subst hi
   rw [hM] at hx
   cases hx
   exact ⟨some m',by simp [M'],fun m2 hm2 => by cases hm2; exact ⟨m,rfl,u.same.imp (fun e => by rw [e]) id⟩⟩
  ·exact ⟨x,by simp [M',hi,hx],fun m2 hm2 => ⟨m2,hm2,.inl rfl⟩⟩⟩
 have hrr : ∀ x v K,Rep w N M x v K → (∀ b ∈ K,Same w w' b) → Rep w' N M' x v K := fun x v K hx hK => hx.gr g hK
 have hown' : ∀ pr ∈ ownOf m' L1',pr ∈ ownOf m L1 ∨ (w.heap.size ≤ pr.1 ∧ pr.1 < w'.heap.size ∧ pr.1 = m'.b) := by
  intro pr hpr
  simp only [ownOf,u.virt,Bool.false_eq_true,if_false,List.mem_cons,List.mem_map] at hpr
  rcases hpr with rfl | ⟨b,hb,rfl⟩
  ·rcases u.at_ with ⟨h1,h2,h3⟩ | h1
   ·exact .inl (by simp [ownOf,h2,h1,h3])
   ·exact .inr ⟨h1.1,h1.2,rfl⟩
  ·have := u.sub b hb
   cases hv : m.virt with
   | false => exact .inl (by simp [ownOf,hv,this])
   | true =>
    have hr := hbr.vt hv
    have hrep := hbr.rep
    rw [hr] at hrep
    cases hrep
    cases this
 have hlt : ∀ pr ∈ L,pr.1 < w.heap.size := fun pr hpr => (h.own pr hpr).1
 have hj' : j < s.hp.length := by rw [e1,e2]; simp
 refine ⟨M',⟨h.df,h.sl.gr g (fun _ hb => by cases hb),?_,?_,?_,?_,h.nup,h.ndn,?_,?_,?_,?_⟩,by simp [M'],fun x v hx => hrr x v [] hx (fun _ hb => by cases hb)⟩
 ·show HR w' N M' 0 (s.hp.set j (some k')) _
  rw [e1,e2,List.set_append_right _ _ (Nat.le_refl _),Nat.sub_self,List.set_cons_zero]
  have hq' : HR w' N M' (j + 1) q B := hq.gr g hB fun i hi _ => by
   have : i ≠ j := by omega
   simp [M',this]
  refine HR.join (hp1.gr g hA fun i _ hi => ?_) ?_
  ·have : i ≠ j := by omega
   simp [M',this]
  ·rw [Nat.zero_add,← e2]
   exact HR.live (by simp [M']) (hnew M' hrr (by simp [M'])) hq'
 ·have := h.nd
  rw [e3] at this
  simp only [List.map_append] at this ⊢
  refine nodup_mid this ?_ ?_
  ·simp only [ownOf,u.virt,Bool.false_eq_true,if_false,List.map_cons,List.map_map,List.nodup_cons]
   have e4 : (L1'.map (Prod.fst ∘ fun b => (b,0))) = L1' := by
    have : (Prod.fst ∘ fun b : Nat => (b,0)) = id := rfl
    rw [this,List.map_id]
   rw [e4]
   constructor
   ·intro hm
    have h1 := u.sub _ hm
    cases hv : m.virt with
    | true =>
     have hr := hbr.vt hv
     have hrep := hbr.rep
     rw [hr] at hrep
     cases hrep
     cases h1
    | false =>
     rcases u.at_ with ⟨h2,_,_⟩ | ⟨h2,_⟩
     ·have h3 := hnodup2.1
      simp only [ownOf,hv,Bool.false_eq_true,if_false,List.map_cons,List.map_map,List.nodup_cons] at h3
      refine h3.1 ?_
      rw [← h2]
      exact List.mem_map.2 ⟨_,h1,rfl⟩
     ·have := hlt (m'.b,0) (by rw [e3]; simp [ownOf,hv,h1])
      omega
   ·cases hv : m.virt with
    | true =>
     have hr := hbr.vt hv
     have hrep := hbr.rep
     rw [hr] at hrep
     cases hrep
     exact u.nd (by simp)
    | false =>
     have h3 := hnodup2.1
     simp only [ownOf,hv,Bool.false_eq_true,if_false,List.map_cons,List.map_map,List.nodup_cons] at h3
     have e5 : (L1.map (Prod.fst ∘ fun b => (b,0))) = L1 := by
      have : (Prod.fst ∘ fun b : Nat => (b,0)) = id := rfl
      rw [this,List.map_id]
     rw [e5] at h3
     exact u.nd h3.2
  ·intro x hx
   obtain ⟨pr,hpr,rfl⟩ := List.mem_map.1 hx
   rcases hown' pr hpr with h1 | ⟨h1,h2,h3⟩
   ·exact .inl (List.mem_map.2 ⟨pr,h1,rfl⟩)
   ·refine .inr ⟨fun hm => ?_,fun hm => ?_⟩
    ·obtain ⟨p2,hp2,e⟩ := List.mem_map.1 hm
     have := hlt p2 (by rw [e3]; simp [hp2])
     omega
    ·obtain ⟨p2,hp2,e⟩ := List.mem_map.1 hm
     have := hlt p2 (by rw [e3]; simp [hp2])
     omega
 ·intro pr hpr
  have hold : ∀ pr ∈ L,pr.1 < w'.heap.size ∧ (C.w0.heap.size ≤ pr.1 ∨ pr.1 ∈ C.X) ∧ ∀ o,N pr.1 o → o < pr.2 := fun pr hpr => by
   obtain ⟨h1,h2,h3⟩ := h.own pr hpr
   exact ⟨Nat.lt_of_lt_of_le h1 u.size,h2,h3⟩
  rcases List.mem_append.1 hpr with h1 | h1
  ·exact hold pr (by rw [e3]; simp [h1])
  ·rcases List.mem_append.1 h1 with h1 | h1
   ·rcases hown' pr h1 with h2 | ⟨h2,h3,h4⟩
    ·exact hold pr (by rw [e3]; simp [h2])
    ·refine ⟨h3,.inl (Nat.le_trans h.fr.size h2),fun o hn => ?_⟩
     have := h.nlt _ _ hn
     omega
   ·exact hold pr (by rw [e3]; simp [h1])
 ·intro b o hn
  exact Nat.lt_of_lt_of_le (h.nlt b o hn) u.size
 ·refine h.fr.trans (Y := if m.virt then [] else [m.b]) ⟨u.os,u.tape,u.output,u.size,fun b hb hx => u.block b hb ?_,u.shp⟩ ?_ (fun b o hn => hcell b o (h.nup b o hn))
  ·cases hv : m.virt with
   | true => exact .inr (.inl rfl)
   | false => rw [hv] at hx; exact .inl (by simpa using hx)
  ·intro y hy
   cases hv : m.virt with
   | true => rw [hv] at hy; cases hy
   | false =>
    rw [hv] at hy
    simp only [Bool.false_eq_true,if_false,List.mem_singleton] at hy
    subst hy
    exact ((h.own (m.b,m.fr) (by rw [e3]; simp [ownOf,hv])).2.1).symm
 ·intro i hi
  simp only [List.length_set] at hi
  have : i ≠ j := by omega
  simp only [M',this,if_false]
  exact h.un i hi
 ·intro i m1 m0 h1 h0
  by_cases hi : i = j
  ·subst hi
   simp only [M',if_true,Option.some.injEq] at h1
   subst h1
   obtain ⟨h5,h6⟩ := h.mv i m m0 hM h0
   rcases u.same with e | e
   ·rw [e]; exact ⟨h5,h6⟩
   ·exact ⟨by omega,fun hl => by omega⟩
  ·simp only [M',hi,if_false] at h1
   exact h.mv i m1 m0 h1 h0
 ·intro i hi
  simp only [List.length_set] at hi
  exact h.mz i hi
end
end Go.Proofs.Ytkmhopbmpeiofaa.Nx
namespace Go.Proofs.Ytkmhopbmpeiofaa.Nx
open Go Go.RowKit
def zrow (ag : Bool) (z : List AV) : AV := if ag then .agg z else z.headD .any
def AS.new (s : AS) (d : Option Tmp) (k : Blk) (x : AV) : AS := AS.put { s with hp := s.hp ++ [some k] } d x
def mkRow (old : AV) (cs : List AV) : AV :=
 match old with
 | .agg _ => .agg cs
 | _ => match cs with
  | [c] => c
  | cs => .agg cs
def bslR (s : AS) : List (Nat × Operand) → List AV → List AV
 | [],rows => rows
 | (i,x) :: ps,rows => bslR s ps (rows.set i (s.ev x))
def bslC (s : AS) (sz n : Nat) : List (Nat × Operand) → Prop
 | [] => True
 | (i,x) :: ps => i < n ∧ (s.ev x).fits sz = true ∧ bslC s sz n ps
def bytesAV (t : ByteArray) : List AV := t.data.toList.map fun b => .val (.int .u8 b.toNat)
def srcRows (s : AS) (sz : Nat) : AV → Option (List AV)
 | .sl _ sz' rows => if sz' = sz ∨ rows = [] then some rows else none
 | .ref j ver off len => match s.hp.at j ver with
  | some b => if b.sz = sz then some (sub b.rows off len) else none
  | none => none
 | .val (.slice none 0 0) => some []
 | .val (.string t) => if sz = 1 then some (bytesAV t) else none
 | _ => none
def bareRows (rows : List AV) : Prop := ∀ r ∈ rows,r.cells.all (fun c => c.bare1 && c.cell1) = true
def isNil : AV → Bool
 | .sl true _ [] => true
 | .val (.slice none 0 0) => true
 | _ => false
def intRows (K : IntKind) (us : List Int) : List AV := us.map fun n => .val (.int K n)
def notStr : AV → Prop
 | .val (.string _) => False
 | _ => True
def ae (s : AS) (d : Option Tmp) (K : AS → Prop) : NO → Prop
 | .al z => K (s.new d ⟨z.length,0,[.agg z],0⟩ (.ptr s.hp.length 1 0 0))
 | .bx n x => (s.ev x).fits n = true ∧ K (s.new d ⟨n,0,[.agg (s.ev x).cells],0⟩ (.ptr s.hp.length 1 0 0))
 | .bsl sz n ag z ps => bslC s sz n ps ∧ K (s.new d ⟨sz,0,bslR s ps (List.replicate n (zrow ag z)),0⟩ (.ref s.hp.length n 0 n))
 | .mk sz by_ ag z l c => match s.ev l,s.ev c with
  | .val (.int _ n),.val (.int _ m) => n = m ∧ 0 ≤ n ∧ n * by_ ≤ 140737488355328 ∧ n ≤ 9223372036854775807 ∧ K (s.new d ⟨sz,0,List.replicate n.toNat (zrow ag z),0⟩ (.ref s.hp.length n.toNat 0 n.toNat))
  | _,_ => False
 | .st n x v => match s.ev x with
  | .ptr j ver row off => match s.hp.at j ver with
   | some b => b.lo ≤ row ∧ (s.ev v).fits n = true ∧ off + n ≤ (b.rows.getD row .any).cells.length ∧
     K (AS.put { s with hp := s.hp.set j (some { b with rows := b.rows.set row (mkRow (b.rows.getD row .any) ((b.rows.getD row .any).cells.take off ++ ((s.ev v).cells ++ (b.rows.getD row .any).cells.drop (off + n)))) }) } d .any)
   | none => False
  | _ => False
 | .app str sz by_ x y => (match s.ev y with | .val (.string _) => str = true | _ => str = false) ∧ match srcRows s sz (s.ev y) with
  | some rows => bareRows rows ∧ (match s.ev x with
   | .ref j ver off len => match s.hp.at j ver with
    | some b => off = 0 ∧ len = ver ∧ b.sz = sz ∧ (ver + rows.length) * by_ ≤ 140737488355328 ∧
      K (AS.put { s with hp := s.hp.set j (some { b with rows := b.rows ++ rows,fz := 0 }) } d (.ref j (ver + rows.length) 0 (ver + rows.length)))
    | none => False
   | x => isNil x = true ∧ rows.length * by_ ≤ 140737488355328 ∧ K (s.new d ⟨sz,0,rows,0⟩ (.ref s.hp.length rows.length 0 rows.length)))
  | none => False
 | .csb x => match s.ev x with
  | .val (.string t) => K (s.new d ⟨1,0,bytesAV t,0⟩ (.ref s.hp.length t.size 0 t.size))
  | _ => False
 | .cpy x y => match s.ev x with
  | .ref j ver off len => match s.hp.at j ver with
   | some b => ∃ k us0 us,b.rows = intRows k us0 ∧ b.sz = 1 ∧ b.lo ≤ off ∧ srcRows s 1 (s.ev y) = some (intRows k us) ∧ notStr (s.ev y) ∧
     K (AS.put { s with hp := s.hp.set j (some { b with rows := intRows k (us0.take off ++ (us.take (min us.length len) ++ us0.drop (off + min us.length len))) }) } d (.val (goInt ((min us.length len : Nat) : Int))))
   | none => False
  | _ => False
 | .isn neg x => (match s.ev x with | .sl _ _ _ => True | .val (.slice none 0 0) => True | _ => False) ∧ ∀ t : Bool,(t = true → lenV (s.ev x) = .val (.int .i64 0)) → K (s.put d (.val (.bool (neg != t))))
 | _ => False
def Does (P : Program) (C : Ctx) (a : Act) (w : World) (op : Op) (dst : Option Tmp) (q : Bool) (K : AS → Prop) : Prop :=
 ∀ o : Oper,o.op = op → o.dst = dst → ∃ s' v w',K s' ∧ Conc C s' (a.put dst v) w' ∧ (q = true → Keeps w w') ∧ ((execOp a.eval o).run P w = .ok (.value v) w' ∨ (v = undef ∧ (execOp a.eval o).run P w = .ok .skip w'))
section
variable {P : Program} {C : Ctx} {s : AS} {a : Act} {w w' : World} {N : NT} {M : MT} {L : List (Nat × Nat)}
theorem ConcD.newPut (h : ConcD C s a w N M L) {c : Array Value} {e : TypeId} {fz : Nat × Nat} (hp : Pushed w w' c e fz) {k : Blk} {vs : List Value}
  (hcl : ∀ y ∈ k.rows,y.cells.length = k.sz) (hr : RepL w N M (k.rows.flatMap AV.cells) vs []) (hv : ∀ i,i < vs.length → c[i]? = vs[i]?) (hsz : k.rows.length * k.sz ≤ c.size)
  (hfz : Mk k.sz c.size fz) (hlo : k.lo = 0 ∧ k.fz = 0) {d : Option Tmp} {x : AV} {v : Value}
  (hx : ∀ M' m,M' s.hp.length = some (some m) → m.b = w.heap.size → m.o = 0 → m.len = k.rows.length → m.sz = k.sz → m.virt = false → Rep w' N M' x v []) :
  Conc C (s.new d k x) (a.put d v) w' := by
 obtain ⟨M',m,h1,h2,h3,h4,h5,h6,h7,h8⟩ := h.alloc hp hcl hr hv hsz hfz hlo
 exact ⟨N,M',_,h1.put d (hx M' m h2 h3 h4 h5 h6 h7)⟩
theorem pushed_alloc (w : World) (c : Array Value) (e : TypeId) : Pushed w { w with heap := w.heap.push (.cells c e) } c e (0,0) := ⟨rfl,rfl,rfl,rfl⟩
theorem Pushed.keeps {c : Array Value} {e : TypeId} {fz : Nat × Nat} (h : Pushed w w' c e fz) : Keeps w w' := by
 rintro ⟨b,o,p⟩ v hv
 have hb : b < w.heap.size := by
  rcases Nat.lt_or_ge b w.heap.size with h | h
  ·exact h
  ·simp [World.cell?,Array.getElem?_eq_none h] at hv
 rw [← hv]
 exact World.cell?_of_block (h.old hb)
theorem nofz {z : Nat} (n : Nat) : Mk z n (0,0) := ⟨fun i _ => by simp,.inr (Nat.zero_le _)⟩
theorem ptr_new {k : Nat} {M' : MT} {m : Cn} (h2 : M' k = some (some m)) (h3 : m.b = w.heap.size) (h4 : m.o = 0) (h5 : m.len = 1) (h7 : m.virt = false) : Rep w' N M' (.ptr k 1 0 0) (.pointer (some ⟨w.heap.size,0,none⟩)) [] := by
 refine .ptr (some m) h2 fun m' hm => ?_
 cases hm
 exact ⟨by omega,fun _ => ⟨by omega,h7,by simp [h3,h4]⟩⟩
theorem ref_new {k n cap : Nat} {M' : MT} {m : Cn} (h2 : M' k = some (some m)) (h3 : m.b = w.heap.size) (h4 : m.o = 0) (h5 : m.len = n) (h7 : m.virt = false) (hc : n ≤ cap) (hr : room w' m.sz w.heap.size (cap * m.sz)) : Rep w' N M' (.ref k n 0 n) (.slice (some ⟨w.heap.size,0,none⟩) n cap) [] := by
 refine .ref (some m) h2 fun m' hm => ?_
 cases hm
 refine ⟨by omega,fun _ => ⟨by omega,.inr ⟨h7,by simp [h3,h4],hc,?_⟩⟩⟩
 rw [h3,h4]; simpa using hr
theorem snd_al (h : ConcD C s a w N M L) {t : TypeId} {i : TypeInfo} {z : Value} (hi : P.info? t = some i) (hz : i.zero = some z) {d : Option Tmp} {K : AS → Prop} (hc : ae s d K (.al (z.cells.toList.map .val))) : Does P C a w (.alloc t) d true K := by
 intro o ho hd
 have e4 : execOp a.eval o = (do pure (.value (← Instr.alloc t true (.tuple #[])))) := by unfold execOp; rw [ho]
 refine ⟨_,.pointer (some ⟨w.heap.size,0,none⟩),{ w with heap := w.heap.push (.cells z.cells t) },hc,?_,fun _ => (pushed_alloc w _ _).keeps,.inl ?_⟩
 ·refine h.newPut (pushed_alloc w z.cells t) (vs := z.cells.toList) ?_ ?_ ?_ ?_ (nofz _) ⟨rfl,rfl⟩ ?_
  ·intro y hy; simp at hy; subst hy; simp [AV.cells]
  ·simpa [AV.cells] using RepL.vals w N M z.cells.toList
  ·intro i _; simp
  ·simp
  ·intro M' m h2 h3 h4 h5 _ h7; exact ptr_new h2 h3 h4 (by simpa using h5) h7
 ·rw [e4]
  simp [Instr.alloc,zeroValue,run_info hi,hz,newVar,newRow]
theorem snd_bx (h : ConcD C s a w N M L) {t : TypeId} {n : Nat} {x : Operand} {d : Option Tmp} {K : AS → Prop} (hc : ae s d K (.bx n x)) : Does P C a w (.box t x) d true K := by
 intro o ho hd
 obtain ⟨c1,c2⟩ := hc
 obtain ⟨vs,f1,f2,f3,f4,f5⟩ := fits_values (h.ev x) c1
 have e4 : execOp a.eval o = (do pure (.value (← Instr.box t (a.eval x)))) := by unfold execOp; rw [ho]
 refine ⟨_,.pointer (some ⟨w.heap.size,0,none⟩),{ w with heap := w.heap.push (.cells ⟨vs⟩ t) },c2,?_,fun _ => (pushed_alloc w _ _).keeps,.inl ?_⟩
 ·refine h.newPut (pushed_alloc w ⟨vs⟩ t) (vs := vs) ?_ ?_ ?_ ?_ (nofz _) ⟨rfl,rfl⟩ ?_
  ·intro y hy; simp at hy; subst hy; simpa [AV.cells] using f4
  ·simpa [AV.cells] using f2
  ·intro i _; simp
  ·simp [f3]
  ·intro M' m h2 h3 h4 h5 _ h7; exact ptr_new h2 h3 h4 (by simpa using h5) h7
 ·rw [e4]
  simp [Instr.box,newVar,newRow,f1]
end
end Go.Proofs.Ytkmhopbmpeiofaa.Nx
namespace Go.Proofs.Ytkmhopbmpeiofaa.Nx
open Go Go.RowKit
theorem mkRow_cells {old : AV} {cs : List AV} (h : ∀ c,cs = [c] → c.cell1 = true ∨ ∃ d,old = .agg d) : (mkRow old cs).cells = cs := by
 unfold mkRow
 split
 ·rfl
 ·rename_i hn
  split
  ·rename_i c
   rcases h c rfl with h1 | ⟨d,h1⟩
   ·cases c <;> first | rfl | cases h1
   ·exact absurd h1 (hn d)
  ·rfl
theorem fits_cells {x : AV} {n : Nat} (h : x.fits n = true) : x.cells.length = n ∧ x.cells.all AV.cell1 = true := by
 cases x <;> simp [AV.fits] at h <;> simp [AV.cells,h]
 exact h.2
theorem zrow_cells {ag : Bool} {z : List AV} {sz : Nat} (h : z.length = sz) (h1 : ag = false → sz = 1 ∧ ∀ c ∈ z,c.cells = [c]) : (zrow ag z).cells = z := by
 cases ag with
 | true => rfl
 | false =>
  obtain ⟨h2,h3⟩ := h1 rfl
  cases z with
  | nil => simp at h; omega
  | cons c z =>
   cases z with
   | cons _ _ => simp at h; omega
   | nil => simp [zrow,h3]
section
variable {P : Program} {C : Ctx} {s : AS} {a : Act} {w w' : World} {N : NT} {M : MT} {L : List (Nat × Nat)}
theorem repL_replicate {z : List AV} {zs : List Value} (h : RepL w N M z zs []) : ∀ n,RepL w N M ((List.replicate n z).flatten) ((List.replicate n zs).flatten) []
 | 0 => by simpa using RepL.nil
 | n + 1 => by
  rw [List.replicate_succ,List.replicate_succ,List.flatten_cons,List.flatten_cons]
  exact RepL.join (L1 := []) (L2 := []) h (repL_replicate h n)
theorem flat_replicate {z : AV} (n : Nat) : (List.replicate n z).flatMap AV.cells = (List.replicate n z.cells).flatten := by
 induction n with
 | zero => rfl
 | succ n ih => rw [List.replicate_succ,List.flatMap_cons,ih,List.replicate_succ,List.flatten_cons]
theorem zeros_eq (zs : List Value) (n : Nat) : ((Array.range (n * zs.length)).map fun i => (⟨zs⟩ : Array Value)[i % zs.length]!) = ⟨(List.replicate n zs).flatten⟩ := by
 induction n with
 | zero => simp
 | succ n ih =>
  by_cases hz : zs.length = 0
  ·have : zs = [] := List.length_eq_zero_iff.1 hz
   subst this; simp
  apply Array.ext'
  have e2 := congrArg Array.toList ih
  simp only [Array.toList_map,Array.toList_range] at e2 ⊢
  rw [Nat.succ_mul,List.range_add,List.map_append,e2,List.replicate_succ',List.flatten_append]
  congr 1
  simp only [List.map_map,List.flatten_cons,List.flatten_nil,List.append_nil]
  apply List.ext_getElem
  ·simp
  ·intro i h1 h2
   simp at h1
   simp [Nat.add_mod,Nat.mod_eq_of_lt h1,h1]
theorem bsl_sound (h : ConcD C s a w N M L) {sz : Nat} (hsz : sz ≠ 0) {n : Nat} : ∀ (ps : List (Nat × Operand)) (rows : List AV) (zs : List Value),rows.length = n → (∀ y ∈ rows,y.cells.length = sz) → RepL w N M (rows.flatMap AV.cells) zs [] → bslC s sz n ps →
  ∃ us,Instr.fill (fun i => some (i * sz,sz)) ⟨zs⟩ (ps.map fun (p : Nat × Operand) => (p.1,a.eval p.2)) = some ⟨us⟩ ∧ RepL w N M ((bslR s ps rows).flatMap AV.cells) us [] ∧ (bslR s ps rows).length = n ∧ (∀ y ∈ bslR s ps rows,y.cells.length = sz)
 | [],rows,zs,hn,hcl,hr,_ => ⟨zs,rfl,hr,hn,hcl⟩
 | (i,x) :: ps,rows,zs,hn,hcl,hr,hc => by
  obtain ⟨c1,c2,c3⟩ := hc
  obtain ⟨vs,f1,f2,f3,f4,f5⟩ := fits_values (h.ev x) c2
  have hzl : zs.length = n * sz := by rw [hr.length,flat_len hcl,hn]
  have hi : i * sz + sz ≤ n * sz := by
   rw [← Nat.succ_mul]; exact Nat.mul_le_mul_right _ c1
  have hcl2 : ∀ y ∈ rows.set i (s.ev x),y.cells.length = sz := by
   intro y hy
   rcases List.mem_or_eq_of_mem_set hy with h1 | rfl
   ·exact hcl y h1
   ·exact f4
  have hr2 : RepL w N M ((rows.set i (s.ev x)).flatMap AV.cells) (zs.take (i * sz) ++ (vs ++ zs.drop (i * sz + vs.length))) [] := by
   have e : rows = rows.take i ++ rows[i] :: rows.drop (i + 1) := by rw [List.getElem_cons_drop (by omega),List.take_append_drop]
   have e2 : rows.set i (s.ev x) = rows.take i ++ s.ev x :: rows.drop (i + 1) := by rw [List.set_eq_take_append_cons_drop,if_pos (by omega)]
   rw [e,List.flatMap_append,List.flatMap_cons] at hr
   obtain ⟨v1,v2,e3,r1,r2⟩ := hr.append0
   obtain ⟨v3,v4,e4,r3,r4⟩ := r2.append0
   have l1 : v1.length = i * sz := by rw [r1.length,flat_take hcl i (by omega)]
   have l3 : v3.length = sz := by rw [r3.length]; exact hcl _ (List.getElem_mem _)
   rw [e2,List.flatMap_append,List.flatMap_cons,e3,e4,f3,List.take_left' l1]
   refine RepL.join (L1 := []) (L2 := []) r1 (RepL.join (L1 := []) (L2 := []) f2 ?_)
   have : (v1 ++ (v3 ++ v4)).drop (i * sz + sz) = v4 := by
    rw [← List.append_assoc]; exact List.drop_left' (by simp [l1,l3])
   rw [this]; exact r4
  obtain ⟨us,u1,u2,u3,u4⟩ := bsl_sound h hsz ps (rows.set i (s.ev x)) _ (by simpa using hn) hcl2 hr2 c3
  refine ⟨us,?_,u2,u3,u4⟩
  rw [← u1]
  simp only [List.map_cons,Instr.fill,f1,List.size_toArray,f3]
  have e : (decide (sz ≠ sz) || decide (i * sz + sz > zs.length)) = false := by simp; omega
  have e2 : vs.toArray.zipIdx.foldl (fun (cs : Array Value) (x : Value × Nat) => cs.setIfInBounds (i * sz + x.2) x.1) ⟨zs⟩ = ⟨zs.take (i * sz) ++ (vs ++ zs.drop (i * sz + vs.length))⟩ := by
   rw [← setSeq vs zs (i * sz) (by omega),← Array.foldl_toList]
   simp
  rw [if_neg (by simpa using e)]
  rw [← f3] at e2 ⊢
  exact congrArg (fun z => Instr.fill (fun i => some (i * vs.length,vs.length)) z (ps.map fun (p : Nat × Operand) => (p.1,a.eval p.2))) e2
theorem snd_bsl (h : ConcD C s a w N M L) {t e : TypeId} {n : Nat} {ps : Array (Nat × Operand)} {i : TypeInfo} {z : Value} (hu : P.underlying t = some (.slice e)) (hi : P.info? e = some i) (hz : i.zero = some z) (hs : z.cells.size = i.size) (h0 : i.size ≠ 0)
  (hag : ∀ c ∈ (z.cells.toList.map AV.val),isAggB P e = false → c.cells = [c]) (hsc : isAggB P e = false → i.size = 1) (hn : n * i.size ≤ 16777216)
  {d : Option Tmp} {K : AS → Prop} (hc : ae s d K (.bsl i.size n (isAggB P e) (z.cells.toList.map .val) ps.toList)) : Does P C a w (.buildSlice t n ps) d true K := by
 intro o ho hd
 obtain ⟨c1,c2⟩ := hc
 have hzc : (zrow (isAggB P e) (z.cells.toList.map .val)).cells = z.cells.toList.map .val := zrow_cells (by simpa using hs) fun h1 => ⟨hsc h1,fun c hc => hag c hc h1⟩
 have hcl : ∀ y ∈ List.replicate n (zrow (isAggB P e) (z.cells.toList.map .val)),y.cells.length = i.size := by
  intro y hy
  rw [List.eq_of_mem_replicate hy,hzc]; simpa using hs
 have hr : RepL w N M ((List.replicate n (zrow (isAggB P e) (z.cells.toList.map .val))).flatMap AV.cells) ((List.replicate n z.cells.toList).flatten) [] := by
  rw [flat_replicate,hzc]
  exact repL_replicate (RepL.vals w N M z.cells.toList) n
 obtain ⟨us,u1,u2,u3,u4⟩ := bsl_sound h h0 ps.toList _ _ (by simp) hcl hr c1
 have e4 : execOp a.eval o = (do pure (.value (← Instr.buildSlice t n (ps.map fun (p : Nat × Operand) => (p.1,a.eval p.2))))) := by unfold execOp; rw [ho]
 have hul : us.length = n * i.size := by rw [u2.length,flat_len u4,u3]
 refine ⟨_,.slice (some ⟨w.heap.size,0,none⟩) n n,{ w with heap := w.heap.push (.cells ⟨us⟩ e) },c2,?_,fun _ => (pushed_alloc w _ _).keeps,.inl ?_⟩
 ·refine h.newPut (pushed_alloc w ⟨us⟩ e) (vs := us) u4 u2 (fun i _ => by simp) (by rw [u3]; simp [hul]) (nofz _) ⟨rfl,rfl⟩ ?_
  intro M' m h2 h3 h4 h5 h6 h7
  refine ref_new h2 h3 h4 (by rw [h5]; exact u3) h7 (Nat.le_refl _) ⟨⟨us⟩,e,(0,0),(pushed_alloc w _ _).new,?_,nofz _⟩
  rw [h6]; simp [hul]
 ·rw [e4]
  have e5 : (ps.map fun (p : Nat × Operand) => (p.1,a.eval p.2)).toList = ps.toList.map fun (p : Nat × Operand) => (p.1,a.eval p.2) := by simp
  have e7 : n * i.size ≠ 0 → ((Array.range (n * i.size)).map fun j => z.cells[j % z.cells.size]!) = ⟨(List.replicate n z.cells.toList).flatten⟩ := by
   intro _
   have := zeros_eq z.cells.toList n
   rw [Array.length_toList,hs] at this
   rw [← this,hs]
  have e8 : n * i.size = 0 → ((Array.range (n * i.size)).map fun j => (#[] : Array Value)[j % (#[] : Array Value).size]!) = ⟨(List.replicate n z.cells.toList).flatten⟩ := by
   intro hz0
   have : n = 0 := by
    rcases Nat.mul_eq_zero.1 hz0 with h1 | h1
    ·exact h1
    ·exact absurd h1 h0
   subst this; simp
  simp only [Instr.buildSlice,Sem.run_bind,run_underlying hu,Result.andThen_ok,sizeOf,run_info hi,Sem.run_pure]
  rw [Sem.run_ite,if_neg (by omega)]
  by_cases hz0 : n * i.size = 0
  ·simp only [hz0,if_true,Sem.run_bind,Sem.run_pure,Result.andThen_ok]
   have := e8 hz0
   rw [hz0] at this
   rw [this,e5,u1]
   simp only [Sem.run_bind,newRow,run_newObj,Result.andThen_ok,Sem.run_pure]
  ·simp only [hz0,if_false,Sem.run_bind,Sem.run_pure,Result.andThen_ok,zeroValue,run_info hi,hz]
   rw [e7 hz0,e5,u1]
   simp only [Sem.run_bind,newRow,run_newObj,Result.andThen_ok,Sem.run_pure]
end
end Go.Proofs.Ytkmhopbmpeiofaa.Nx
