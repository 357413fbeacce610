/- More operations on abstract values: sound, with no condition beyond those each lemma names. -/
import Derived.Deep.AppendSrc
import Derived.Laws.Cover3
import Derived.Test.YtfmlmdnaeonobaaGreatNxc
set_option linter.unusedVariables false
set_option linter.unusedSimpArgs false
namespace Go.Proofs.YtfmlmdnaeonobaaGreat.Nx
open Go Go.RowKit
theorem setCell_heap (w : World) (b o : Nat) (v : Value) : (w.setCell ⟨b,o,none⟩ v).heap.size = w.heap.size ∧ (∀ k,k ≠ b → (w.setCell ⟨b,o,none⟩ v).heap[k]? = w.heap[k]?) ∧ Shp w (w.setCell ⟨b,o,none⟩ v) := by
 refine ⟨by simp [World.setCell],fun k hk => ?_,fun k c e fz hk => ?_⟩
 ·simp only [World.setCell,Array.getElem?_modify]
  rw [if_neg (by omega)]
 ·simp only [World.setCell,Array.getElem?_modify]
  by_cases hb : b = k
  ·subst hb
   rw [if_pos rfl,hk]
   exact ⟨c.setIfInBounds o v,rfl,by simp⟩
  ·rw [if_neg hb]; exact ⟨c,hk,rfl⟩
theorem setCells_heap (b : Nat) : ∀ (vs : List Value) (o : Nat) (w : World),(w.setCells b o vs).heap.size = w.heap.size ∧ (∀ k,k ≠ b → (w.setCells b o vs).heap[k]? = w.heap[k]?) ∧ Shp w (w.setCells b o vs) ∧ (w.setCells b o vs).os = w.os ∧ (w.setCells b o vs).tape = w.tape ∧ (w.setCells b o vs).output = w.output
 | [],o,w => ⟨rfl,fun _ _ => rfl,fun _ c _ _ h => ⟨c,h,rfl⟩,rfl,rfl,rfl⟩
 | v :: vs,o,w => by
  obtain ⟨h1,h2,h3⟩ := setCell_heap w b o v
  obtain ⟨k1,k2,k3,k4,k5,k6⟩ := setCells_heap b vs (o + 1) (w.setCell ⟨b,o,none⟩ v)
  exact ⟨k1.trans h1,fun k hk => (k2 k hk).trans (h2 k hk),h3.trans k3,k4,k5,k6⟩
section
variable {P : Program} {C : Ctx} {s : AS} {a : Act} {w w' : World} {N : NT} {M : MT} {L : List (Nat × Nat)}
theorem snd_mk (h : ConcD C s a w N M L) {t e : TypeId} {l c : Operand} {i : TypeInfo} {z : Value} (hu : P.underlying t = some (.slice e)) (hi : P.info? e = some i) (hz : i.zero = some z) (hs : z.cells.size = i.size) (h0 : i.size ≠ 0)
  (hag : ∀ c ∈ (z.cells.toList.map AV.val),isAggB P e = false → c.cells = [c]) (hsc : isAggB P e = false → i.size = 1)
  {d : Option Tmp} {K : AS → Prop} (hc : ae s d K (.mk i.size i.bytes (isAggB P e) (z.cells.toList.map .val) l c)) : Does P C a w (.makeSlice t l c) d true K := by
 intro o ho hd
 simp only [ae] at hc
 split at hc
 ·rename_i k n k' m hl hcc
  obtain ⟨rfl,c1,c2,c3,c4⟩ := hc
  have hzc : (zrow (isAggB P e) (z.cells.toList.map .val)).cells = z.cells.toList.map .val := zrow_cells (by simpa using hs) fun h1 => ⟨hsc h1,fun c hc => hag c hc h1⟩
  have hcl : ∀ y ∈ List.replicate n.toNat (zrow (isAggB P e) (z.cells.toList.map .val)),y.cells.length = i.size := by
   intro y hy
   rw [List.eq_of_mem_replicate hy,hzc]; simpa using hs
  have hr : RepL w N M ((List.replicate n.toNat (zrow (isAggB P e) (z.cells.toList.map .val))).flatMap AV.cells) ((List.replicate n.toNat z.cells.toList).flatten) [] := by
   rw [flat_replicate,hzc]
   exact repL_replicate (RepL.vals w N M z.cells.toList) _
  have hul : ((List.replicate n.toNat z.cells.toList).flatten).length = n.toNat * i.size := by simp [hs]
  have e4 : execOp a.eval o = (do pure (.value (← Instr.makeSlice t (a.eval l) (a.eval c)))) := by unfold execOp; rw [ho]
  refine ⟨_,.slice (some ⟨w.heap.size,0,none⟩) n.toNat n.toNat,{ w with heap := w.heap.push (.cells ⟨(List.replicate n.toNat z.cells.toList).flatten⟩ e) },c4,?_,fun _ => (pushed_alloc w _ _).keeps,.inl ?_⟩
  ·refine h.newPut (pushed_alloc w _ e) (vs := (List.replicate n.toNat z.cells.toList).flatten) hcl hr (fun i _ => by simp) (by simp [hs]) (nofz _) ⟨rfl,rfl⟩ ?_
   intro M' m h2 h3 h4 h5 h6 h7
   refine ref_new h2 h3 h4 (by rw [h5]; simp) h7 (Nat.le_refl _) ⟨_,e,(0,0),(pushed_alloc w _ _).new,?_,nofz _⟩
   rw [h6]; simp [hs]
  ·have hw : IntKind.i64.wrap n = n := by
    rw [← wr_eq]; simp only [wr,wrap64]; omega
   have hb : ((i.bytes : Int) * n > 2 ^ 48) = False := by
    rw [Int.mul_comm]; simp; omega
   rw [e4,h.evv hl,h.evv hcc]
   have e8 : n.toNat * i.size = 0 → ((Array.range (n.toNat * i.size)).map fun j => (#[] : Array Value)[j % (#[] : Array Value).size]!) = ⟨(List.replicate n.toNat z.cells.toList).flatten⟩ := by
    intro hz0
    have : n.toNat = 0 := by
     rcases Nat.mul_eq_zero.1 hz0 with h1 | h1
     ·exact h1
     ·exact absurd h1 h0
    rw [this]; simp
   have e7 : n.toNat * i.size ≠ 0 → ((Array.range (n.toNat * i.size)).map fun j => z.cells[j % z.cells.size]!) = ⟨(List.replicate n.toNat z.cells.toList).flatten⟩ := by
    intro _
    have := zeros_eq z.cells.toList n.toNat
    rw [Array.length_toList,hs] at this
    rw [← this,hs]
   have hneg : decide (n < 0) = false := by simp; omega
   simp only [Instr.makeSlice,Sem.run_bind,run_underlying hu,Result.andThen_ok,asInt,asIntOf,Sem.run_pure,run_info hi,hw,hneg,hb,decide_false,Bool.or_false,Bool.false_eq_true,Int.lt_irrefl,gt_iff_lt,if_false,sizeOf,run_askRoom]
   by_cases hz0 : n.toNat * i.size = 0
   ·simp only [hz0,if_true,Sem.run_bind,Sem.run_pure,Result.andThen_ok]
    have := e8 hz0
    rw [hz0] at this
    rw [this]
    simp only [Sem.run_bind,newRow,run_newObj,Result.andThen_ok,Sem.run_pure]
   ·simp only [hz0,if_false,Sem.run_bind,Sem.run_pure,Result.andThen_ok,zeroValue,run_info hi,hz]
    rw [e7 hz0]
    simp only [Sem.run_bind,newRow,run_newObj,Result.andThen_ok,Sem.run_pure]
 ·exact hc.elim
end
end Go.Proofs.YtfmlmdnaeonobaaGreat.Nx
namespace Go.Proofs.YtfmlmdnaeonobaaGreat.Nx
open Go Go.RowKit
section
variable {P : Program} {C : Ctx} {s : AS} {a : Act} {w w' : World} {N : NT} {M : MT} {L : List (Nat × Nat)}
theorem cell_setCells {w : World} {b o : Nat} {vs : List Value} (hr : ∀ j,j < vs.length → (w.cell? ⟨b,o + j,none⟩).isSome = true) (i : Nat) :
  (w.setCells b o vs).cell? ⟨b,i,none⟩ = if o ≤ i ∧ i < o + vs.length then vs[i - o]? else w.cell? ⟨b,i,none⟩ := by
 by_cases h : o ≤ i ∧ i < o + vs.length
 ·rw [if_pos h]
  have := World.cell?_setCells_in b vs o w hr (i - o) (by omega)
  rw [show o + (i - o) = i from by omega] at this
  rw [this,List.getElem?_eq_getElem]
 ·rw [if_neg h]
  exact World.cell?_setCells_out b vs o w _ (fun _ _ => by simp only; omega)
theorem set_flat {rows : List AV} {row : Nat} {x : AV} (h : row < rows.length) : (rows.set row x).flatMap AV.cells = (rows.take row).flatMap AV.cells ++ (x.cells ++ (rows.drop (row + 1)).flatMap AV.cells) := by
 rw [List.set_eq_take_append_cons_drop,if_pos h,List.flatMap_append,List.flatMap_cons]
theorem get_flat {rows : List AV} {row : Nat} (h : row < rows.length) : rows.flatMap AV.cells = (rows.take row).flatMap AV.cells ++ ((rows.getD row .any).cells ++ (rows.drop (row + 1)).flatMap AV.cells) := by
 have e : rows = rows.take row ++ rows[row] :: rows.drop (row + 1) := by rw [List.getElem_cons_drop h,List.take_append_drop]
 have eg : rows.getD row .any = rows[row] := by simp [List.getD_eq_getElem?_getD,h]
 rw [eg,← List.flatMap_cons,← List.flatMap_append,← e]
theorem mul_room {row n sz off k c : Nat} (h1 : row < n) (h2 : off + k ≤ c) (h3 : c = sz) : row * sz + off + k ≤ n * sz := by
 subst h3
 calc row * c + off + k ≤ row * c + c := by omega
  _ = (row + 1) * c := by rw [Nat.succ_mul]
  _ ≤ n * c := Nat.mul_le_mul_right _ h1
theorem ConcD.write (h : ConcD C s a w N M L) {j row off : Nat} {k : Blk} (hj : s.hp[j]? = some (some k)) {m : Cn} {L1 : List Nat} {A B : List (Nat × Nat)} {p q : HP} (e1 : s.hp = p ++ some k :: q) (e2 : j = p.length) (e3 : L = A ++ (ownOf m L1 ++ B))
  (hp1 : HR w N M 0 p A) (hM : M j = some (some m)) (hbr : BR w N M k m L1) (hq : HR w N M (j + 1) q B) (hv : m.virt = false) (hrow : row < k.rows.length) (hlo : k.lo ≤ row)
  {xs : List AV} {vs : List Value} (hx : RepL w N M xs vs []) (hx1 : xs.all AV.cell1 = true) (hpos : 0 < xs.length) (hoff : off + xs.length ≤ (k.rows.getD row .any).cells.length) :
  ∃ M' L',ConcD C { s with hp := s.hp.set j (some { k with rows := k.rows.set row (mkRow (k.rows.getD row .any) ((k.rows.getD row .any).cells.take off ++ (xs ++ (k.rows.getD row .any).cells.drop (off + xs.length)))) }) } a (w.setCells m.b (m.o + row * m.sz + off) vs) N M' L' := by
 have hlx := hx.length
 have hrl : (k.rows.getD row .any).cells.length = k.sz := by
  rw [List.getD_eq_getElem?_getD,List.getElem?_eq_getElem hrow]; exact hbr.cl _ (List.getElem_mem hrow)
 have hroom := hbr.rm hv
 have hmz := hbr.sz
 have hml := hbr.len
 have hin : row * m.sz + off + xs.length ≤ m.len * m.sz := mul_room (by rw [hml]; exact hrow) hoff (by rw [hrl,hmz])
 have hex : ∀ i,i < vs.length → (w.cell? ⟨m.b,m.o + row * m.sz + off + i,none⟩).isSome = true := fun i hi => (hroom.cell (by omega)).1
 obtain ⟨s1,s2,s3,s4,s5,s6⟩ := setCells_heap m.b vs (m.o + row * m.sz + off) w
 have hcell := fun i => cell_setCells hex i
 have hrep := hbr.rep
 rw [get_flat hrow] at hrep
 obtain ⟨LA,LR,rfl,r1,r2⟩ := hrep.append
 rw [flat_take hbr.cl row (by omega),← hmz] at r2
 obtain ⟨LM,LB,rfl,r3,r4⟩ := r2.append
 have e5 : (k.rows.getD row .any).cells = (k.rows.getD row .any).cells.take off ++ (((k.rows.getD row .any).cells.drop off).take xs.length ++ (k.rows.getD row .any).cells.drop (off + xs.length)) := by
  rw [← List.drop_drop,List.take_append_drop,List.take_append_drop]
 rw [e5] at r3
 obtain ⟨L3,L4,rfl,r5,r6⟩ := r3.append
 obtain ⟨L5,L6,rfl,r7,r8⟩ := r6.append
 have l5 : ((k.rows.getD row .any).cells.take off).length = off := by rw [List.length_take]; omega
 have l6 : (((k.rows.getD row .any).cells.drop off).take xs.length).length = xs.length := by rw [List.length_take,List.length_drop]; omega
 rw [l5] at r7 r8
 rw [l6] at r8
 rw [hrl,← hmz] at r4
 have hfr : m.fr ≤ m.o + row * m.sz := by
  have h1 := hbr.fr
  rw [← hmz] at h1
  have : k.lo * m.sz ≤ row * m.sz := Nat.mul_le_mul_right _ hlo
  omega
 have u : Upd w (w.setCells m.b (m.o + row * m.sz + off) vs) m m (LA ++ (L3 ++ (L5 ++ L6) ++ LB)) (LA ++ (L3 ++ L6 ++ LB)) := by
  refine ⟨s4,s5,s6,by rw [s1]; exact Nat.le_refl _,s3,fun b hb hne => ?_,fun o ho _ => ?_,.inl rfl,hv,.inl ⟨rfl,hv,rfl⟩,?_,?_⟩
  ·have hmb : m.b < w.heap.size := by
    obtain ⟨c,e,fz,h1,_⟩ := hroom
    exact some_lt h1
   refine s2 b ?_
   rcases hne with h1 | h1 | h1
   ·exact h1
   ·rw [hv] at h1; cases h1
   ·omega
  ·rw [hcell,if_neg (by omega)]
  ·intro x hx
   simp only [List.mem_append] at hx ⊢
   rcases hx with h1 | (h1 | h1) | h1
   ·exact .inl h1
   ·exact .inr (.inl (.inl h1))
   ·exact .inr (.inl (.inr (.inr h1)))
   ·exact .inr (.inr h1)
  ·intro hnd
   have : (LA ++ (L3 ++ L6 ++ LB)).Sublist (LA ++ (L3 ++ (L5 ++ L6) ++ LB)) :=
    List.Sublist.append (List.Sublist.refl _) (List.Sublist.append (List.Sublist.append (List.Sublist.refl _) (List.sublist_append_right _ _)) (List.Sublist.refl _))
   exact this.nodup hnd
 have hL1 : ∀ b ∈ LA ++ (L3 ++ L6 ++ LB),Same w (w.setCells m.b (m.o + row * m.sz + off) vs) b := by
  intro b hb o
  refine World.cell?_of_block (s2 b ?_)
  intro e
  have hnd := h.nd
  rw [e3,List.map_append,List.nodup_append] at hnd
  have h2 := hnd.2.1
  rw [List.map_append,List.nodup_append] at h2
  have h3 := h2.1
  simp only [ownOf,hv,Bool.false_eq_true,if_false,List.map_cons,List.map_map,List.nodup_cons] at h3
  exact h3.1 (List.mem_map.2 ⟨b,u.sub b hb,by simpa using e⟩)
 obtain ⟨M',hc,_,_⟩ := h.upd hj e1 e2 e3 hp1 hM hbr hq u (k' := { k with rows := k.rows.set row (mkRow (k.rows.getD row .any) ((k.rows.getD row .any).cells.take off ++ (xs ++ (k.rows.getD row .any).cells.drop (off + xs.length)))) }) fun M' hk hMj => by
  have kk : ∀ {o : Nat} {ys : List AV} {K : List Nat},RepC w N M m.b o ys K → (∀ b ∈ K,Same w (w.setCells m.b (m.o + row * m.sz + off) vs) b) → (∀ i,i < ys.length → o + i < m.o + row * m.sz + off ∨ m.o + row * m.sz + off + xs.length ≤ o + i) → RepC (w.setCells m.b (m.o + row * m.sz + off) vs) N M' m.b o ys K := by
   intro o ys K r
   induction ys generalizing o K with
   | nil => intro _ _; cases r; exact .nil _ _
   | cons y ys ih =>
    intro hK ho
    cases r with
    | cons hc hy ht =>
     refine .cons ?_ (hk _ _ _ hy fun b hb => hK b (by simp [hb])) (ih ht (fun b hb => hK b (by simp [hb])) fun i hi => ?_)
     ·have := ho 0 (by simp)
      rw [hcell,if_neg (by omega)]; exact hc
     ·have := ho (i + 1) (by simp; omega)
      omega
  have hmc : (mkRow (k.rows.getD row .any) ((k.rows.getD row .any).cells.take off ++ (xs ++ (k.rows.getD row .any).cells.drop (off + xs.length)))).cells = (k.rows.getD row .any).cells.take off ++ (xs ++ (k.rows.getD row .any).cells.drop (off + xs.length)) := by
   refine mkRow_cells fun c hcc => ?_
   generalize hold : k.rows.getD row .any = old at *
   cases xs with
   | nil => simp at hpos
   | cons x xs =>
    left
    have hl := congrArg List.length hcc
    simp only [List.length_append,List.length_cons,List.length_nil,List.length_take] at hl
    have ho0 : off = 0 := by
     have := hoff
     simp only [List.length_cons] at this
     omega
    subst ho0
    simp only [List.take_zero,List.nil_append,List.cons_append,List.cons.injEq] at hcc
    simp only [List.all_cons,Bool.and_eq_true] at hx1
    rw [← hcc.1]; exact hx1.1
  have hoff' : off + xs.length ≤ m.sz := by omega
  have hlen2 : ((k.rows.getD row .any).cells.take off ++ (xs ++ (k.rows.getD row .any).cells.drop (off + xs.length))).length = m.sz := by
   rw [List.length_append,List.length_take,List.length_append,List.length_drop]; omega
  refine ⟨by rw [hml]; simp,hmz,hbr.fr,?_,?_,(fun e => by rw [hv] at e; cases e),(fun _ => hroom.gr s3),by simpa using hbr.lo,hbr.fz,hbr.f0⟩
  ·intro y hy
   rcases List.mem_or_eq_of_mem_set hy with h1 | rfl
   ·exact hbr.cl y h1
   ·rw [hmc,hlen2]; exact hmz
  ·show RepC _ N M' m.b m.o ((k.rows.set row _).flatMap AV.cells) _
   rw [set_flat hrow,hmc]
   have lt1 : ((k.rows.take row).flatMap AV.cells).length = row * m.sz := by rw [flat_take hbr.cl row (by omega),hmz]
   refine RepC.join (kk r1 (fun b hb => hL1 b (by simp [hb])) fun i hi => by omega) ?_
   rw [lt1]
   refine RepC.join ?_ (by rw [hlen2]; exact kk r4 (fun b hb => hL1 b (by simp [hb])) fun i hi => by omega)
   refine RepC.join (kk r5 (fun b hb => hL1 b (by simp [hb])) fun i hi => by omega) ?_
   rw [l5]
   have hnew : RepC (w.setCells m.b (m.o + row * m.sz + off) vs) N M' m.b (m.o + row * m.sz + off) xs [] := by
    refine RepC.of_values (vs := vs) ?_ fun i hi => ?_
    ·have : ∀ {ys : List AV} {us : List Value},RepL w N M ys us [] → RepL (w.setCells m.b (m.o + row * m.sz + off) vs) N M' ys us [] := by
      intro ys
      induction ys with
      | nil => intro us r; cases r; exact .nil
      | cons y ys ih =>
       intro us r
       generalize hK : ([] : List Nat) = K at r
       cases r with
       | cons hy ht =>
        obtain ⟨rfl,rfl⟩ := List.append_eq_nil_iff.1 hK.symm
        exact .cons (L1 := []) (L2 := []) (hk _ _ _ hy fun _ hb => by cases hb) (ih ht)
     exact this hx
    ·rw [hcell,if_pos (by omega)]
     congr 1; omega
   have := RepC.join hnew (kk r8 (fun b hb => hL1 b (by simp [hb])) fun i hi => by omega)
   simpa using this
 exact ⟨M',_,hc⟩
end
end Go.Proofs.YtfmlmdnaeonobaaGreat.Nx
namespace Go.Proofs.YtfmlmdnaeonobaaGreat.Nx
open Go Go.RowKit
section
variable {P : Program} {C : Ctx} {s : AS} {a : Act} {w w' : World} {N : NT} {M : MT} {L : List (Nat × Nat)}
theorem Conc.put (h : Conc C s a w) (d : Option Tmp) (v : Value) : Conc C (s.put d .any) (a.put d v) w := by
 obtain ⟨N,M,L,h⟩ := h
 exact ⟨N,M,L,h.put d (.any v)⟩
theorem snd_st (h : ConcD C s a w N M L) {t : TypeId} {x v : Operand} {n : Nat} (hn : P.cellsOf t = n) (h0 : n ≠ 0) {d : Option Tmp} {K : AS → Prop} (hc : ae s d K (.st n x v)) : Does P C a w (.store t x v) d false K := by
 intro o ho hd
 obtain ⟨info,hi,hs⟩ := cellsOf_info hn h0
 simp only [ae] at hc
 split at hc
 ·rename_i j ver row off hx
  split at hc
  ·rename_i b hb
   obtain ⟨c1,c2,c3,c4⟩ := hc
   obtain ⟨hbl,_⟩ := h.blk hb
   obtain ⟨b',m0,L0,g1,g2,g3,g4,g5,g6,g7,g8,g9⟩ := h.ptr hx (by rw [hb]; rfl)
   rw [hb] at g1
   cases g1
   obtain ⟨p,q,A,B,m,L1,e1,e2,e3,hp1,hM,hbr,hq⟩ := h.hp.focus g5
   rw [Nat.zero_add] at hM hq
   rw [g2] at hM
   cases hM
   obtain ⟨vs,f1,f2,f3,f4,f5⟩ := fits_values (h.ev v) c2
   have hroom := hbr.rm g8
   have hrow : row < b.rows.length := by omega
   have hrl : (b.rows.getD row .any).cells.length = b.sz := by
    rw [List.getD_eq_getElem?_getD,List.getElem?_eq_getElem hrow]; exact hbr.cl _ (List.getElem_mem hrow)
   have hin : row * m0.sz + off + vs.length ≤ m0.len * m0.sz := mul_room (by rw [hbr.len]; exact hrow) (by rw [f3]; exact c3) (by rw [hrl,hbr.sz])
   have e4 : execOp a.eval o = (do Instr.storeAt t (a.eval x) (a.eval v); pure .skip) := by unfold execOp; rw [ho]
   have hrun : (execOp a.eval o).run P w = .ok .skip (w.setCells m0.b (m0.o + row * m0.sz + off) vs) := by
    rw [e4,g9]
    have hsc := run_storeCells_cells (P := P) m0.b (m0.o + row * m0.sz + off) vs 0 w (fun i hi' => (hroom.cell (by omega)).1) (fun i hi' => (hroom.cell (by omega)).2) f5
    rw [Nat.add_zero] at hsc
    have hsz : (⟨vs⟩ : Array Value).size = info.size := by simp [f3,hs]
    simp only [Instr.storeAt,Instr.sureAddr,storeVar,Sem.run_bind,Sem.run_pure,Result.andThen_ok,f1,sizeOf,run_info hi]
    rw [Sem.run_ite,if_neg (by rw [hsz]; simp),hsc]
    rfl
   obtain ⟨M',L',hcd⟩ := h.write g5 e1 e2 e3 hp1 g2 hbr hq g8 hrow c1 f2 (fits_cells c2).2 (by rw [f4]; omega) (by rw [f4]; exact c3)
   rw [f4] at hcd
   exact ⟨_,undef,_,c4,hcd.put d (.any undef) |> fun x => ⟨N,M',L',x⟩,(fun e => by cases e),.inr ⟨rfl,hrun⟩⟩
  ·exact hc.elim
 ·exact hc.elim
end
end Go.Proofs.YtfmlmdnaeonobaaGreat.Nx
namespace Go.Proofs.YtfmlmdnaeonobaaGreat.Nx
open Go Go.RowKit
section
variable {P : Program} {C : Ctx} {s : AS} {a : Act} {w w' : World} {N : NT} {M : MT} {L : List (Nat × Nat)}
theorem RepL.bareRows {rows : List AV} {vs : List Value} {K : List Nat} (r : RepL w N M (rows.flatMap AV.cells) vs K) (hb : Nx.bareRows rows) : K = [] := by
 refine r.bare ?_
 rw [List.all_eq_true]
 intro x hx
 obtain ⟨y,hy,hx⟩ := List.mem_flatMap.1 hx
 have := List.all_eq_true.1 (hb y hy) x hx
 simp only [Bool.and_eq_true] at this
 exact this.1
theorem RepL.ones {xs : List AV} {vs : List Value} (r : RepL w N M xs vs []) (h : ∀ x ∈ xs,x.cell1 = true) : ∀ u ∈ vs,u.oneCell' = true := by
 induction xs generalizing vs with
 | nil => cases r; intro u hu; cases hu
 | cons x xs ih =>
  generalize hK : ([] : List Nat) = K at r
  cases r with
  | cons hx ht =>
   obtain ⟨rfl,rfl⟩ := List.append_eq_nil_iff.1 hK.symm
   intro u hu
   rcases List.mem_cons.1 hu with rfl | hu
   ·exact (one_value hx (h x (by simp))).1
   ·exact ih ht (fun y hy => h y (by simp [hy])) u hu
theorem RepL.onesRows {rows : List AV} {vs : List Value} (r : RepL w N M (rows.flatMap AV.cells) vs []) (hb : Nx.bareRows rows) : ∀ u ∈ vs,u.oneCell' = true := by
 refine r.ones fun x hx => ?_
 obtain ⟨y,hy,hx⟩ := List.mem_flatMap.1 hx
 have := List.all_eq_true.1 (hb y hy) x hx
 simp only [Bool.and_eq_true] at this
 exact this.2
theorem RepC.bareRows {rows : List AV} {b o : Nat} {K : List Nat} (r : RepC w N M b o (rows.flatMap AV.cells) K) (hb : Nx.bareRows rows) : K = [] := by
 obtain ⟨vs,r1,_⟩ := r.values
 exact r1.bareRows hb
theorem bytesAV_rep (t : ByteArray) : RepL w N M ((bytesAV t).flatMap AV.cells) (t.data.toList.map fun b => Value.int .u8 b.toNat) [] := by
 have : (bytesAV t).flatMap AV.cells = (t.data.toList.map fun b => Value.int .u8 b.toNat).map .val := by
  unfold bytesAV
  generalize t.data.toList = l
  induction l with
  | nil => rfl
  | cons x l ih => simp [AV.cells] at ih ⊢; exact ih
 rw [this]
 exact RepL.vals w N M _
theorem src_of {size n : Nat} {tx : TypeId} {b o len cap : Nat} {vs : List Value} (hk : (∃ e',P.underlying tx = some (.slice e'))) (e2 : len = n) (e3 : vs.length = n * size) (e4 : ∀ i,i < vs.length → w.cell? ⟨b,o + i,none⟩ = vs[i]?) (e5 : ∀ u ∈ vs,u.oneCell' = true) :
  Src P size tx (.slice (some ⟨b,o,none⟩) len cap) n vs w := by
 subst e2
 have h1 := run_loadCells (P := P) vs e4
 have h2 := run_loadCells (P := P) (w := w.drew) vs e4
 rw [e3] at h1 h2
 exact ⟨.inl hk,fun _ => rfl,h1,h2,e3,e5⟩
theorem src_nil {size : Nat} {tx : TypeId} {ad : Option Addr} {cap : Nat} (hk : (∃ e',P.underlying tx = some (.slice e'))) : Src P size tx (.slice ad 0 cap) 0 [] w := by
 refine ⟨.inl hk,fun _ => rfl,?_,?_,by simp,fun _ hu => by cases hu⟩ <;>
 ·cases ad with
  | none => rfl
  | some b => simp [Builtin.firstCells,loadCells,loadCellsFrom]
theorem src_sound (h : ConcD C s a w N M L) {sz : Nat} {y : Operand} {tx : TypeId} {rows : List AV} (hr : srcRows s sz (s.ev y) = some rows) (hb : bareRows rows)
  (hk : match s.ev y with | .val (.string _) => P.underlying tx = some .string | _ => ∃ e',P.underlying tx = some (.slice e')) :
  ∃ vs,RepL w N M (rows.flatMap AV.cells) vs [] ∧ (∀ z ∈ rows,z.cells.length = sz) ∧ Src P sz tx (a.eval y) rows.length vs w := by
 have r := h.ev y
 have hval : ∀ u,s.ev y = .val u → a.eval y = u := fun u e => h.evv e
 generalize a.eval y = u at r hval
 have nil : ∀ ad len cap,u = .slice ad len cap → len = 0 → rows = [] → (∃ e',P.underlying tx = some (.slice e')) → ∃ vs,RepL w N M (rows.flatMap AV.cells) vs [] ∧ (∀ z ∈ rows,z.cells.length = sz) ∧ Src P sz tx u rows.length vs w := fun ad len cap e1 e2 e3 e4 => by
  subst e3; subst e2; subst e1
  exact ⟨[],.nil,by simp,src_nil e4⟩
 unfold srcRows at hr
 split at hr
 ·rename_i own sz' rows' hy
  rw [hy] at r hk
  split at hr
  ·rename_i hsz
   cases hr
   cases r with
   | slI0 _ ad cap => exact nil _ _ _ rfl rfl rfl hk
   | slO0 _ ad => exact nil _ _ _ rfl rfl rfl hk
   | slI r hcl hN hcap =>
    by_cases hrows : rows = []
    ·subst hrows; exact nil _ _ _ rfl rfl rfl hk
    have : sz' = sz := by
     rcases hsz with h1 | h1
     ·exact h1
     ·exact absurd h1 hrows
    subst this
    obtain ⟨vs,r1,r2,r3⟩ := r.values
    rw [flat_len hcl] at r2 r3
    exact ⟨vs,r1,hcl,src_of hk rfl r2 (fun i hi => r3 i (by omega)) (r1.onesRows hb)⟩
  ·cases hr
 ·rename_i j ver off len hy
  rw [hy] at r hk
  split at hr
  ·rename_i b hbk
   split at hr
   ·rename_i hsz
    cases hr
    obtain ⟨hl,m,L1,h1,h2,h3,h4⟩ := h.blk hbk
    cases r with
    | ref mm hM hm =>
     rename_i ad cap
     rw [h1] at hM
     cases hM
     obtain ⟨h5,h6⟩ := hm m rfl
     obtain ⟨h7,h8⟩ := h6 (by rw [h2.len,hl])
     have hln : off + len ≤ b.rows.length := by rw [← h2.len]; exact h7
     have hsl := sub_len hln
     rcases h8 with ⟨rfl,rfl⟩ | ⟨h8,rfl,h9,h10⟩
     ·have : sub b.rows off 0 = [] := List.length_eq_zero_iff.1 hsl
      exact nil _ _ _ rfl rfl this hk
     ·obtain ⟨K1,K2,K3,hK,r'⟩ := h2.rep.rows h2.cl off len hln
      rw [← sub_eq hln] at r'
      have hK2 := r'.bareRows hb
      subst hK2
      have hcl : ∀ z ∈ sub b.rows off len,z.cells.length = sz := fun z hz => by
       rw [sub_eq hln] at hz
       rw [← hsz]; exact h2.cl z (List.mem_of_mem_drop (List.mem_of_mem_take hz))
      obtain ⟨vs,r1,r2,r3⟩ := r'.values
      rw [flat_len hcl] at r2 r3
      exact ⟨vs,r1,hcl,src_of hk (by rw [hsl]) r2 (fun i hi => by rw [h2.sz]; exact r3 i (by omega)) (r1.onesRows hb)⟩
   ·cases hr
  ·cases hr
 ·rename_i hy
  cases hr
  rw [hy] at hk
  exact nil _ _ _ (hval _ hy) rfl rfl hk
 ·rename_i t hy
  rw [hy] at hk
  split at hr
  ·rename_i hsz
   cases hr
   subst hsz
   have e1 := hval _ hy
   have hl : (bytesAV t).length = t.size := by simp [bytesAV]
   refine ⟨_,bytesAV_rep t,?_,?_⟩
   ·intro z hz
    obtain ⟨b,_,rfl⟩ := List.mem_map.1 hz
    rfl
   ·rw [e1,hl]; exact Src.ofString w hk t
  ·cases hr
 ·cases hr
end
end Go.Proofs.YtfmlmdnaeonobaaGreat.Nx
namespace Go.Proofs.YtfmlmdnaeonobaaGreat.Nx
open Go Go.RowKit
section
variable {P : Program} {C : Ctx} {s : AS} {a : Act} {w w' : World} {N : NT} {M : MT} {L : List (Nat × Nat)}
theorem exec_app {t u : TypeId} {x y : Operand} {o : Oper} (ho : o.op = .call { callee := .builtin .append,args := #[x,y],argTypes := #[t,u] }) {v : Value} (h : ∀ ty,(Builtin.append_ #[t,u] ty #[a.eval x,a.eval y]).run P w = .ok v w') :
  (execOp a.eval o).run P w = .ok (.value v) w' := by
 have e : execOp a.eval o = (do let d ← resolve a.eval { callee := .builtin .append,args := #[x,y],argTypes := #[t,u] } o.type; invoke d.target d.args) := by unfold execOp; rw [ho]
 rw [e]
 simp [resolve,invoke,builtin,h]
theorem RepL.mono {xs : List AV} {vs : List Value} {K : List Nat} {w' : World} {N' : NT} {M' : MT} (hk : ∀ x v K,Rep w N M x v K → (∀ b ∈ K,Same w w' b) → Rep w' N' M' x v K) (r : RepL w N M xs vs K) (hK : ∀ b ∈ K,Same w w' b) : RepL w' N' M' xs vs K := by
 induction xs generalizing vs K with
 | nil => cases r; exact .nil
 | cons x xs ih =>
  cases r with
  | cons hx ht => exact .cons (hk _ _ _ hx fun b hb => hK b (by simp [hb])) (ih ht fun b hb => hK b (by simp [hb]))
theorem RepC.mono {xs : List AV} {b o : Nat} {K : List Nat} {w' : World} {N' : NT} {M' : MT} (hk : ∀ x v K,Rep w N M x v K → (∀ b ∈ K,Same w w' b) → Rep w' N' M' x v K) (r : RepC w N M b o xs K) (hK : ∀ b ∈ K,Same w w' b)
  (hs : ∀ i,i < xs.length → w'.cell? ⟨b,o + i,none⟩ = w.cell? ⟨b,o + i,none⟩) : RepC w' N' M' b o xs K := by
 induction xs generalizing o K with
 | nil => cases r; exact .nil _ _
 | cons x xs ih =>
  cases r with
  | cons hc hx ht =>
   refine .cons (by have := hs 0 (by simp); rw [Nat.add_zero] at this; rw [this]; exact hc) (hk _ _ _ hx fun b hb => hK b (by simp [hb])) (ih ht (fun b hb => hK b (by simp [hb])) fun i hi => ?_)
   have := hs (i + 1) (by simp; omega)
   rw [show o + (i + 1) = o + 1 + i from by omega] at this; exact this
theorem ConcD.fz0 (h : ConcD C s a w N M L) {j : Nat} {b : Blk} (hj : s.hp[j]? = some (some b)) : ConcD C { s with hp := s.hp.set j (some { b with fz := 0 }) } a w N M L := by
 obtain ⟨p,q,A,B,m,L1,e1,e2,e3,hp1,hM,hbr,hq⟩ := h.hp.focus hj
 have e : s.hp.set j (some { b with fz := 0 }) = p ++ some { b with fz := 0 } :: q := by rw [e1,e2]; simp
 rw [Nat.zero_add] at hM hq
 refine ⟨h.df,h.sl,?_,h.nd,h.own,h.nlt,h.nup,h.ndn,h.fr,fun k hk => h.un k (by simpa using hk),h.mv,fun k hk => h.mz k (by simpa using hk)⟩
 rw [e,e3]
 refine HR.join hp1 ?_
 rw [Nat.zero_add,← e2]
 exact .live hM ⟨hbr.len,hbr.sz,hbr.fr,hbr.cl,hbr.rep,hbr.vt,hbr.rm,hbr.lo,fun i hi => by simp at hi,hbr.f0⟩ hq
theorem ConcD.virt (h : ConcD C s a w N M L) (sz : Nat) : ∃ M' m,ConcD C { s with hp := s.hp ++ [some ⟨sz,0,[],0⟩] } a w N M' L ∧ M' s.hp.length = some (some m) ∧ m.len = 0 := by
 let m : Cn := { b := 0,o := 0,sz := sz,len := 0,fr := 0,virt := true }
 let M' : MT := fun i => if i = s.hp.length then some (some m) else M i
 have hun := h.un s.hp.length (Nat.le_refl _)
 have g : Gr w w N N M M' := ⟨fun _ c _ _ h => ⟨c,h,rfl⟩,fun _ _ _ => rfl,fun _ _ hn => hn,fun j x hx => by
  have hne : j ≠ s.hp.length := fun e => by rw [e,hun] at hx; cases hx
  exact ⟨x,by simp [M',hne,hx],fun m' hm' => ⟨m',hm',.inl rfl⟩⟩⟩
 have hp1 : HR w N M' 0 s.hp L := h.hp.gr g (fun _ _ _ => rfl) fun i _ hi => by
  have hne : i ≠ s.hp.length := by omega
  simp [M',hne]
 have hbr : BR w N M' ⟨sz,0,[],0⟩ m [] := ⟨rfl,rfl,Nat.zero_le _,fun _ hy => (by cases hy),RepC.nil _ _,fun _ => rfl,(fun e => (by cases e)),Nat.le_refl _,fun i hi => by simp at hi,fun _ => rfl⟩
 refine ⟨M',m,⟨h.df,h.sl.gr g (fun _ hb => by cases hb),?_,h.nd,h.own,h.nlt,h.nup,h.ndn,h.fr,?_,?_,fun i hi => h.mz i (by simp only [List.length_append,List.length_singleton] at hi; omega)⟩,by simp [M'],rfl⟩
 ·have := HR.join hp1 (HR.live (k := 0 + s.hp.length) (by simp [M']) hbr (HR.nil _))
  simpa [ownOf,m] using this
 ·intro i hi
  simp only [List.length_append,List.length_singleton] at hi
  have hne : i ≠ s.hp.length := by omega
  simp only [M',hne,if_false]
  exact h.un i (by omega)
 ·intro i m1 m0 h1 h0
  by_cases hi : i = s.hp.length
  ·subst hi
   rw [h.mz s.hp.length (Nat.le_refl _)] at h0
   cases h0
  ·simp only [M',hi,if_false] at h1
   exact h.mv i m1 m0 h1 h0
theorem snd_app_nil (h : ConcD C s a w N M L) {t u e : TypeId} {x y : Operand} {i : TypeInfo} {z : Value} (ht : P.underlying t = some (.slice e)) (hi : P.info? e = some i) (hz : i.zero = some z) (hzs : z.cells.size = i.size) (hb0 : i.bytes ≠ 0)
  {rows : List AV} {vs : List Value} (r : RepL w N M (rows.flatMap AV.cells) vs []) (hcl : ∀ q ∈ rows,q.cells.length = i.size) (hs : Src P i.size u (a.eval y) rows.length vs w) {ad : Option Addr} (hx : a.eval x = .slice ad 0 0) (hb : rows.length * i.bytes ≤ 140737488355328)
  {d : Option Tmp} {K : AS → Prop} (hc : K (s.new d ⟨i.size,0,rows,0⟩ (.ref s.hp.length rows.length 0 rows.length))) : Does P C a w (.call { callee := .builtin .append,args := #[x,y],argTypes := #[t,u] }) d false K := by
 intro o ho hd
 have hvl := r.length
 rw [flat_len hcl] at hvl
 by_cases hr : rows = []
 ·subst hr
  obtain ⟨M',m,h1,h2,h3⟩ := h.virt i.size
  refine ⟨_,.slice ad 0 0,w,hc,⟨N,M',L,h1.put d (.ref (some m) h2 fun m' hm' => ?_)⟩,(fun e => by cases e),.inl (exec_app ho fun ty => ?_)⟩
  ·cases hm'
   rw [h3]
   exact ⟨Nat.le_refl _,fun _ => ⟨by omega,.inl ⟨rfl,rfl⟩⟩⟩
  ·rw [hx]
   have hl := hs.len
   have hcs := hs.cells
   have hvs : vs = [] := List.length_eq_zero_iff.1 (by simpa using hvl)
   subst hvs
   rcases hs.kind with ⟨e',hk⟩ | hk
   ·simp [Builtin.append_,run_underlying ht,run_underlying hk,sizeOf,typeInfo,hi] at hl hcs ⊢
    simp [hl,hcs]
    cases ad with
    | none => simp
    | some b => simp [storeCells]
   ·simp [Builtin.append_,run_underlying ht,run_underlying hk,sizeOf,typeInfo,hi] at hl hcs ⊢
    simp [hl,hcs]
    cases ad with
    | none => simp
    | some b => simp [storeCells]
 ·have hpos : 0 < rows.length := List.length_pos_iff.2 hr
  have hold : (Builtin.firstCells i.size 0 (.slice ad 0 0)).run P w.drew = .ok ([] : List Value).toArray w.drew := by
   cases ad with
   | none => rfl
   | some b => simp [Builtin.firstCells,loadCells,loadCellsFrom]
  have hbp : 0 < i.bytes := Nat.pos_of_ne_zero hb0
  have hle : rows.length ≤ rows.length * i.bytes := Nat.le_mul_of_pos_right _ hbp
  have hcap := grownCap_ge w (0 + rows.length) 0 e
  have hgrow : ∀ ty,_ := fun ty => run_append_grow_src (P := P) w t u ty e i z ht hi hz ad 0 0 [] hold (a.eval y) rows.length vs hs (by omega) (by omega) (growslice_fits (by omega) (by simpa using hb))
  generalize grownCap w (0 + rows.length) 0 e = cap at hcap hgrow
  have hzl : (Builtin.zeroCells z.cells (cap - (0 + rows.length))).size = (cap - rows.length) * i.size := by simp [Builtin.zeroCells,hzs]
  have hsize : (((([] : List Value) ++ vs).toArray ++ Builtin.zeroCells z.cells (cap - (0 + rows.length)) : Array Value)).size = cap * i.size := by
   rw [Array.size_append,hzl]
   simp only [List.nil_append,List.size_toArray,hvl]
   rw [← Nat.add_mul]; congr 1; omega
  have hp : Pushed w (w.drew.alloc (.cells ((([] : List Value) ++ vs).toArray ++ Builtin.zeroCells z.cells (cap - (0 + rows.length))) e)) ((([] : List Value) ++ vs).toArray ++ Builtin.zeroCells z.cells (cap - (0 + rows.length))) e (0,0) := ⟨rfl,rfl,rfl,rfl⟩
  rw [Nat.zero_add] at hgrow hcap hsize hp
  refine ⟨_,.slice (some ⟨w.heap.size,0,none⟩) rows.length cap,w.drew.alloc (.cells ((([] : List Value) ++ vs).toArray ++ Builtin.zeroCells z.cells (cap - rows.length)) e),hc,?_,(fun e => by cases e),.inl (exec_app ho fun ty => by rw [hx]; exact hgrow ty)⟩
  refine h.newPut hp (vs := vs) hcl r (fun j hj => ?_) (by rw [hsize]; exact Nat.mul_le_mul_right _ (by omega)) (nofz _) ⟨rfl,rfl⟩ ?_
  ·rw [Array.getElem?_append_left (by simpa using hj)]; simp
  ·intro M' m h2 h3 h4 h5 h6 h7
   refine ref_new h2 h3 h4 h5 h7 (by omega) ⟨_,e,(0,0),hp.new,?_,nofz _⟩
   rw [h6,hsize]; exact Nat.le_refl _
theorem snd_app_own (h : ConcD C s a w N M L) {t u e : TypeId} {x y : Operand} {i : TypeInfo} {z : Value} (ht : P.underlying t = some (.slice e)) (hi : P.info? e = some i) (hz : i.zero = some z) (hzs : z.cells.size = i.size) (hb0 : i.bytes ≠ 0)
  {rows : List AV} {vs : List Value} (r : RepL w N M (rows.flatMap AV.cells) vs []) (hcl : ∀ q ∈ rows,q.cells.length = i.size) (hs : Src P i.size u (a.eval y) rows.length vs w)
  {j ver : Nat} {b : Blk} (hx : s.ev x = .ref j ver 0 ver) (hbk : s.hp.at j ver = some b) (hbsz : b.sz = i.size) (hb : (ver + rows.length) * i.bytes ≤ 140737488355328)
  {d : Option Tmp} {K : AS → Prop} (hc : K (AS.put { s with hp := s.hp.set j (some { b with rows := b.rows ++ rows,fz := 0 }) } d (.ref j (ver + rows.length) 0 (ver + rows.length)))) : Does P C a w (.call { callee := .builtin .append,args := #[x,y],argTypes := #[t,u] }) d false K := by
 intro o ho hd
 have hvl := r.length
 rw [flat_len hcl] at hvl
 obtain ⟨hbl,m0,L0,g1,g2,g3,g4⟩ := h.blk hbk
 obtain ⟨p,q,A,B,m,L1,e1,e2,e3,hp1,hM,hbr,hq⟩ := h.hp.focus g4
 rw [Nat.zero_add] at hM hq
 rw [g1] at hM
 cases hM
 have rx := h.ev x
 rw [hx] at rx
 generalize hu : a.eval x = ux at rx
 cases rx with
 | ref mm hMj hm =>
  rename_i ad cap
  rw [g1] at hMj
  cases hMj
  obtain ⟨h5,h6⟩ := hm m0 rfl
  obtain ⟨h7,h8⟩ := h6 (by rw [hbr.len,hbl])
  by_cases hr : rows = []
  ·subst hr
   have hvs : vs = [] := List.length_eq_zero_iff.1 (by simpa using hvl)
   subst hvs
   have hcap : ver ≤ cap := by
    rcases h8 with ⟨rfl,rfl⟩ | ⟨_,_,h9,_⟩
    ·exact Nat.le_refl _
    ·exact h9
   have h1 := (h.fz0 g4).put d (x := .ref j (ver + ([] : List AV).length) 0 (ver + ([] : List AV).length)) (v := .slice ad ver cap) (by
    rw [List.length_nil,Nat.add_zero,← hx,← hu]; exact h.ev x)
   refine ⟨_,.slice ad ver cap,w,hc,⟨N,M,L,?_⟩,(fun e => by cases e),.inl (exec_app ho fun ty => ?_)⟩
   ·rw [List.append_nil]; exact h1
   ·rw [hu]
    have hl := hs.len
    have hcs := hs.cells
    rcases hs.kind with ⟨e',hk⟩ | hk <;>
    ·simp [Builtin.append_,run_underlying ht,run_underlying hk,sizeOf,typeInfo,hi] at hl hcs ⊢
     simp [hl,hcs,hcap]
     cases ad with
     | none => simp
     | some b => simp [storeCells]
  ·have hpos : 0 < rows.length := List.length_pos_iff.2 hr
   have hbp : 0 < i.bytes := Nat.pos_of_ne_zero hb0
   have hle : ver + rows.length ≤ (ver + rows.length) * i.bytes := Nat.le_mul_of_pos_right _ hbp
   by_cases hroom : ver + rows.length ≤ cap
   ·
    rcases h8 with ⟨rfl,rfl⟩ | ⟨h8,rfl,h9,h10⟩
    ·omega
    have hmz : m0.sz = i.size := by rw [hbr.sz,hbsz]
    rw [Nat.zero_mul,Nat.add_zero] at hu
    rw [Nat.zero_add] at h10
    have hin : m0.o + ver * i.size + vs.length ≤ m0.o + cap * m0.sz := by
     rw [hvl,hmz,Nat.add_assoc,← Nat.add_mul]
     exact Nat.add_le_add_left (Nat.mul_le_mul_right _ hroom) _
    have hrun := fun ty => run_append_room_src (P := P) w t u ty e i ht hi m0.b m0.o ver cap (a.eval y) rows.length vs hs hroom (fun k hk => (h10.cell (by omega)).1) (fun k hk => (h10.cell (by omega)).2)
    obtain ⟨s1,s2,s3,s4,s5,s6⟩ := setCells_heap m0.b vs (m0.o + ver * i.size) w
    have hcell := fun k => cell_setCells (w := w) (b := m0.b) (o := m0.o + ver * i.size) (vs := vs) (fun k hk => (h10.cell (by omega)).1) k
    have hmb : m0.b < w.heap.size := by
     obtain ⟨c,e,fz,q1,_⟩ := h10
     exact some_lt q1
    have hL1 : ∀ b' ∈ L1,Same w (w.setCells m0.b (m0.o + ver * i.size) vs) b' := by
     intro b' hb' k
     refine World.cell?_of_block (s2 b' ?_)
     intro e
     have hnd := h.nd
     rw [e3,List.map_append,List.nodup_append] at hnd
     have h2 := hnd.2.1
     rw [List.map_append,List.nodup_append] at h2
     have h3 := h2.1
     simp only [ownOf,h8,Bool.false_eq_true,if_false,List.map_cons,List.map_map,List.nodup_cons] at h3
     exact h3.1 (List.mem_map.2 ⟨b',hb',by simpa using e⟩)
    have hml : m0.len = ver := by rw [hbr.len,hbl]
    have u : Upd w (w.setCells m0.b (m0.o + ver * i.size) vs) m0 { m0 with len := m0.len + rows.length } L1 L1 := by
     refine ⟨s4,s5,s6,by rw [s1]; exact Nat.le_refl _,s3,fun k hk hne => s2 k ?_,fun k hk _ => ?_,.inr (by simp only; omega),h8,.inl ⟨rfl,h8,rfl⟩,fun _ hx => hx,fun hn => hn⟩
     ·rcases hne with q1 | q1 | q1
      ·exact q1
      ·rw [h8] at q1; cases q1
      ·simp only at q1; omega
     ·have hfr := hbr.fr
      have := Nat.mul_le_mul_right b.sz hbr.lo
      rw [hbl,hbsz] at this
      rw [hbsz] at hfr
      rw [hcell,if_neg (by omega)]
    have hroom' : room (w.setCells m0.b (m0.o + ver * i.size) vs) m0.b (m0.o + cap * m0.sz) := h10.gr s3
    obtain ⟨M',hcd,hMj,hrr⟩ := h.upd g4 e1 e2 e3 hp1 g1 hbr hq u (k' := { b with rows := b.rows ++ rows,fz := 0 }) fun M' hk hMj => by
     refine ⟨by simp [hbr.len],hbr.sz,hbr.fr,?_,?_,(fun e => by rw [h8] at e; cases e),fun _ => ?_,by simp; have := hbr.lo; omega,fun i hi => by simp at hi,hbr.f0⟩
     ·intro q hq
      rcases List.mem_append.1 hq with q1 | q1
      ·exact hbr.cl q q1
      ·rw [hbsz]; exact hcl q q1
     ·show RepC _ N M' m0.b m0.o ((b.rows ++ rows).flatMap AV.cells) L1
      rw [List.flatMap_append]
      have hold := RepC.mono hk hbr.rep hL1 (fun k hkl => by
       rw [flat_len hbr.cl,hbl,hbsz] at hkl
       rw [hcell,if_neg (by omega)])
      have hnew : RepC (w.setCells m0.b (m0.o + ver * i.size) vs) N M' m0.b (m0.o + ver * i.size) (rows.flatMap AV.cells) [] := by
       refine RepC.of_values (vs := vs) (RepL.mono hk r (fun _ hb => by cases hb)) fun k hkl => ?_
       rw [hcell,if_pos (by omega)]; congr 1; omega
      have := RepC.join hold (by rw [flat_len hbr.cl,hbl,hbsz]; exact hnew)
      simpa using this
     ·obtain ⟨c,e,fz,q1,q2,q3⟩ := hroom'
      refine ⟨c,e,fz,q1,Nat.le_trans (Nat.add_le_add_left (Nat.mul_le_mul_right _ ?_) _) q2,q3⟩
      simp only; omega
    refine ⟨_,.slice (some ⟨m0.b,m0.o,none⟩) (ver + rows.length) cap,_,hc,⟨N,M',_,hcd.put d (.ref (some _) hMj fun m' hm' => ?_)⟩,(fun e => by cases e),.inl (exec_app ho fun ty => by rw [hu]; exact hrun ty)⟩
    cases hm'
    refine ⟨by simp only; omega,fun _ => ⟨by simp only; omega,.inr ⟨h8,by simp,hroom,?_⟩⟩⟩
    simpa using hroom'
   ·
    have hmz : m0.sz = i.size := by rw [hbr.sz,hbsz]
    have hml : m0.len = ver := by rw [hbr.len,hbl]
    obtain ⟨olds,o1,o2,o3⟩ := hbr.rep.values
    rw [flat_len hbr.cl,hbl,hbsz] at o2 o3
    have hold : (Builtin.firstCells i.size ver (.slice ad ver cap)).run P w.drew = .ok olds.toArray w.drew := by
     rcases h8 with ⟨rfl,rfl⟩ | ⟨h8,rfl,h9,h10⟩
     ·have : olds = [] := List.length_eq_zero_iff.1 (by simpa using o2)
      subst this
      cases ad with
      | none => rfl
      | some b => simp [Builtin.firstCells,loadCells,loadCellsFrom]
     ·have := run_loadCells (P := P) (w := w.drew) (b := m0.b) (o := m0.o) olds (fun k hk => o3 k (by omega))
      rw [o2] at this
      simpa [Builtin.firstCells] using this
    have hcap := grownCap_ge w (ver + rows.length) cap e
    have hgrow : ∀ ty,_ := fun ty => run_append_grow_src (P := P) w t u ty e i z ht hi hz ad ver cap olds hold (a.eval y) rows.length vs hs (by omega) (by omega) (growslice_fits (by omega) hb)
    generalize grownCap w (ver + rows.length) cap e = cap' at hcap hgrow
    have hzl : (Builtin.zeroCells z.cells (cap' - (ver + rows.length))).size = (cap' - (ver + rows.length)) * i.size := by simp [Builtin.zeroCells,hzs]
    have hsize : ((olds ++ vs).toArray ++ Builtin.zeroCells z.cells (cap' - (ver + rows.length)) : Array Value).size = cap' * i.size := by
     rw [Array.size_append,hzl]
     simp only [List.size_toArray,List.length_append,hvl,o2]
     rw [← Nat.add_mul,← Nat.add_mul]; congr 1; omega
    have hp : Pushed w (w.drew.alloc (.cells ((olds ++ vs).toArray ++ Builtin.zeroCells z.cells (cap' - (ver + rows.length))) e)) ((olds ++ vs).toArray ++ Builtin.zeroCells z.cells (cap' - (ver + rows.length))) e (0,0) := ⟨rfl,rfl,rfl,rfl⟩
    generalize hW : w.drew.alloc (.cells ((olds ++ vs).toArray ++ Builtin.zeroCells z.cells (cap' - (ver + rows.length))) e) = W' at hp hgrow
    have hcl2 : ∀ k,k < (olds ++ vs).length → W'.cell? ⟨w.heap.size,0 + k,none⟩ = (olds ++ vs)[k]? := fun k hk => by
     rw [cell_in hp.new,Nat.zero_add,Array.getElem?_append_left (by simpa using hk)]
     simp
    have hroom' : room W' w.heap.size (cap' * i.size) := ⟨_,e,(0,0),hp.new,by rw [hsize]; exact Nat.le_refl _,nofz _⟩
    have u' : Upd w W' m0 { b := w.heap.size,o := 0,sz := m0.sz,len := m0.len + rows.length,fr := 0,virt := false } L1 L1 := by
     refine ⟨hp.os,hp.tape,hp.output,by rw [hp.size]; omega,hp.shp,fun k hk _ => hp.old hk,fun k hk hv => ?_,.inr (by simp only; omega),rfl,.inr ⟨Nat.le_refl _,by rw [hp.size]; exact Nat.lt_succ_self _⟩,fun _ hx => hx,fun hn => hn⟩
     have hmb : m0.b < w.heap.size := by
      obtain ⟨c,e,fz,q1,_⟩ := hbr.rm hv
      exact some_lt q1
     exact hp.same hmb k
    have hL1 : ∀ b' ∈ L1,Same w W' b' := by
     intro b' hb'
     refine hp.same ?_
     have hv : m0.virt = false := by
      cases hv : m0.virt with
      | false => rfl
      | true =>
       have hrn := hbr.vt hv
       have hrep := hbr.rep
       rw [hrn] at hrep
       cases hrep
       cases hb'
     exact (h.own (b',0) (by rw [e3]; simp [ownOf,hv,hb'])).1
    obtain ⟨M',hcd,hMj,hrr⟩ := h.upd g4 e1 e2 e3 hp1 g1 hbr hq u' (k' := { b with rows := b.rows ++ rows,fz := 0 }) fun M' hk hMj => by
     refine ⟨by simp [hbr.len],hbr.sz,Nat.zero_le _,?_,?_,(fun e => by cases e),fun _ => ?_,by simp; have := hbr.lo; omega,fun i hi => by simp at hi,fun _ => rfl⟩
     ·intro q hq
      rcases List.mem_append.1 hq with q1 | q1
      ·exact hbr.cl q q1
      ·rw [hbsz]; exact hcl q q1
     ·show RepC _ N M' w.heap.size 0 ((b.rows ++ rows).flatMap AV.cells) L1
      rw [List.flatMap_append]
      have h1 := RepL.mono hk o1 hL1
      have h2 := RepL.mono hk r (fun _ hb => by cases hb)
      have h3 := RepL.join h1 h2
      rw [List.append_nil] at h3
      exact RepC.of_values h3 hcl2
     ·obtain ⟨c,e,fz,q1,q2,q3⟩ := hroom'
      refine ⟨c,e,fz,q1,Nat.le_trans ?_ q2,q3⟩
      simp only [Nat.zero_add,hmz,hml]
      exact Nat.mul_le_mul_right _ hcap
    refine ⟨_,.slice (some ⟨w.heap.size,0,none⟩) (ver + rows.length) cap',W',hc,⟨N,M',_,hcd.put d (.ref (some _) hMj fun m' hm' => ?_)⟩,(fun e => by cases e),.inl (exec_app ho fun ty => by rw [hu]; exact hgrow ty)⟩
    cases hm'
    refine ⟨by simp only; omega,fun _ => ⟨by simp only; omega,.inr ⟨rfl,by simp,hcap,?_⟩⟩⟩
    simp only [Nat.zero_add,hmz]; exact hroom'
end
end Go.Proofs.YtfmlmdnaeonobaaGreat.Nx
namespace Go.Proofs.YtfmlmdnaeonobaaGreat.Nx
open Go Go.RowKit
section
variable {P : Program} {C : Ctx} {s : AS} {a : Act} {w w' : World} {N : NT} {M : MT} {L : List (Nat × Nat)}
theorem snd_app (h : ConcD C s a w N M L) {t u e : TypeId} {x y : Operand} {i : TypeInfo} {z : Value} (ht : P.underlying t = some (.slice e)) (hi : P.info? e = some i) (hz : i.zero = some z) (hzs : z.cells.size = i.size) (hb0 : i.bytes ≠ 0)
  {str : Bool} (hk0 : if str then P.underlying u = some .string else ∃ e',P.underlying u = some (.slice e'))
  {d : Option Tmp} {K : AS → Prop} (hc : ae s d K (.app str i.size i.bytes x y)) : Does P C a w (.call { callee := .builtin .append,args := #[x,y],argTypes := #[t,u] }) d false K := by
 simp only [ae] at hc
 obtain ⟨hstr,hc⟩ := hc
 have hk : match s.ev y with | .val (.string _) => P.underlying u = some .string | _ => ∃ e',P.underlying u = some (.slice e') := by
  clear hc
  split at hstr
  ·rename_i e
   subst hstr
   rw [e]; exact hk0
  ·rename_i hne
   subst hstr
   split
   ·rename_i e; exact (hne _ e).elim
   ·exact hk0
 split at hc
 ·rename_i rows hr
  obtain ⟨hb,hc⟩ := hc
  obtain ⟨vs,r,hcl,hs⟩ := src_sound h hr hb hk
  split at hc
  ·rename_i j ver off len hx
   split at hc
   ·rename_i b hbk
    obtain ⟨rfl,rfl,c3,c4,c5⟩ := hc
    exact snd_app_own h ht hi hz hzs hb0 r hcl hs hx hbk c3 c4 c5
   ·exact hc.elim
  ·rename_i hnr
   obtain ⟨c1,c2,c3⟩ := hc
   have : ∃ ad,a.eval x = .slice ad 0 0 := by
    have rx := h.ev x
    generalize s.ev x = av at *
    generalize a.eval x = v at *
    unfold isNil at c1
    split at c1
    ·cases rx; exact ⟨_,rfl⟩
    ·cases rx; exact ⟨_,rfl⟩
    ·cases c1
   obtain ⟨ad,hx⟩ := this
   exact snd_app_nil h ht hi hz hzs hb0 r hcl hs hx c2 c3
 ·exact hc.elim
theorem snd_isn (h : ConcD C s a w N M L) {neg : Bool} {t e yt : TypeId} {x : Operand} (hu : P.underlying t = some (.slice e)) {d : Option Tmp} {K : AS → Prop} (hc : ae s d K (.isn neg x)) :
  Does P C a w (.binOp (if neg then .neq else .eql) t x (.const (.slice none 0 0)) yt) d true K := by
 intro o ho hd
 obtain ⟨c1,c2⟩ := hc
 have r := h.ev x
 have key : ∃ ad len cap,a.eval x = .slice ad len cap ∧ lenV (s.ev x) = .val (.int .i64 len) ∧ (ad = none → len = 0) := by
  generalize s.ev x = av at *
  generalize a.eval x = v at *
  split at c1
  ·rename_i own sz rows
   cases r with
   | slI0 _ ad cap => exact ⟨_,_,_,rfl,rfl,fun _ => rfl⟩
   | slI => exact ⟨_,_,_,rfl,rfl,fun e => by cases e⟩
   | slO0 => exact ⟨_,_,_,rfl,rfl,fun _ => rfl⟩
  ·cases r; exact ⟨_,_,_,rfl,rfl,fun _ => rfl⟩
  ·exact c1.elim
 obtain ⟨ad,len,cap,hx,hl,hn⟩ := key
 have hg : (eqGuard (if neg then .neq else .eql) t x (.const (.slice none 0 0)) (.slice ad len cap) (.slice none 0 0)).run P w = .ok () w := guard_pure _ _ _ _ _ _ trivial
 refine ⟨_,.bool (neg != ad.isNone),w,c2 ad.isNone (fun e => by rw [hl,hn (by simpa using e)]; rfl),⟨N,M,L,h.put d (.val _)⟩,fun _ => Keeps.refl w,.inl ?_⟩
 refine exec_bin P w _ ho ?_
 rw [hx]
 show ((do eqGuard (if neg then .neq else .eql) t x (.const (.slice none 0 0)) (.slice ad len cap) (.slice none 0 0); binOp (if neg then .neq else .eql) t (.slice ad len cap) (.slice none 0 0) : Sem Value)).run P w = _
 rw [Sem.run_bind,hg,Result.andThen_ok]
 cases neg
 ·simp only [Bool.false_eq_true,if_false]
  have := run_equal_slice_nil (P := P) w t e ad len cap hu
  simp only [binOp,Sem.run_bind,this,Result.andThen_ok,Sem.run_pure]
  cases ad <;> rfl
 ·simp only [if_true]
  rw [run_neq_slice_nil (P := P) w t e ad len cap hu]
  cases ad <;> rfl
end
end Go.Proofs.YtfmlmdnaeonobaaGreat.Nx
