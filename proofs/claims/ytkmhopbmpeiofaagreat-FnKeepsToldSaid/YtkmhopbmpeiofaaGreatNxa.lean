/- Abstract values and what a heap holds of them: sound, with no condition beyond those each lemma names. -/
import Derived.Below
import Derived.Orders
import Derived.WalkKit
set_option linter.unusedVariables false
set_option linter.unusedSimpArgs false
namespace Go.Proofs.YtkmhopbmpeiofaaGreat.Nx
open Go
abbrev A3:=@Option.bind_some
abbrev A4:=@cond_true
abbrev A5:=@List.length_append
abbrev A6:=@Bool.and_eq_true
abbrev A9:=@cond_false
abbrev B3:=@List.getD_eq_getElem?_getD
abbrev B4:=@List.getElem?_eq_some_iff
abbrev B5:=@List.length_cons
abbrev B6:=@List.getElem?_append_right
abbrev B7:=@List.getElem?_append_left
abbrev B9:=@Nat.le_refl
abbrev C1:=@List.mem_singleton
abbrev C2:=@List.getElem_mem
abbrev C3:=@Option.some.injEq
abbrev C5:=@List.mem_map
abbrev C6:=@Int.toNat_natCast
abbrev C7:=@List.length_map
abbrev C8:=@List.length_nil
abbrev C9:=@List.mem_append
abbrev D0:=@Bool.and_self
abbrev D1:=@List.getElem?_eq_getElem
abbrev D5:=@List.append_nil
abbrev D6:=@List.all_eq_true
abbrev D7:=@decide_eq_true_eq
abbrev D8:=@List.mem_cons
abbrev D9:=@Nat.lt_or_ge
abbrev E0:=@Bool.false_eq_true
abbrev E1:=@Nat.zero_add
abbrev E4:=@List.map_congr_left
abbrev E5:=@if_false
abbrev E7:=@List.length_take
abbrev E8:=@List.getElem?_cons_zero
abbrev E9:=@if_pos
abbrev F0:=@List.flatMap_cons
abbrev F4:=@Nat.beq_eq
abbrev F6:=@List.map_cons
abbrev F8:=@Option.map_some
abbrev F9:=@List.append_assoc
abbrev G0:=@List.map_append
abbrev G1:=@List.length_set
abbrev G3:=@List.take_append_drop
abbrev G4:=@Nat.add_assoc
abbrev G5:=@List.getElem?_set
abbrev G6:=@if_neg
abbrev G7:=@List.length_eq_zero_iff
abbrev G9:=@List.append_eq_nil_iff
abbrev H1:=@if_true
abbrev H2:=@Nat.add_zero
abbrev H3:=@List.getElem?_map
abbrev H5:=@List.mem_or_eq_of_mem_set
abbrev H6:=@Nat.le_of_ble_eq_true
abbrev H7:=@List.map_map
abbrev H9:=@List.nodup_cons
abbrev I2:=@List.nil_append
abbrev I4:=@List.length_drop
abbrev I7:=@List.mem_cons_of_mem
abbrev I8:=@List.mem_of_getElem?
abbrev I9:=@of_decide_eq_true
abbrev J3:=@List.nodup_append
abbrev J4:=@List.pairwise_cons
abbrev J5:=@List.length_singleton
abbrev J6:=@List.mem_flatMap
abbrev J8:=@Nat.add_sub_cancel_left
abbrev L9:=@List.mem_map_of_mem
abbrev M6:=@Bool.not_eq_true'
abbrev M9:=@Int.lt_irrefl
abbrev N3:=@Bool.not_false
abbrev N7:=@Bool.not_true
abbrev N8:=@List.drop_zero
abbrev O1:=@List.flatMap_append
abbrev O2:=@Nat.mul_le_mul_right
abbrev O3:=@List.mem_append_left
abbrev O4:=@List.set_getElem_self
abbrev O5:=@decide_eq_true
abbrev O7:=@List.drop_eq_nil_of_le
abbrev O9:=@List.pairwise_iff_getElem
abbrev P1:=@Nat.zero_le
abbrev P3:=@Option.some.inj
abbrev P4:=@Bool.true_and
abbrev P5:=@Prod.mk.injEq
abbrev P6:=@List.any_cons
abbrev P7:=@Nat.lt_of_lt_of_le
abbrev Q0:=@List.mem_of_mem_take
abbrev Q1:=@List.foldl_cons
abbrev Q2:=@List.set_eq_take_append_cons_drop
abbrev Q3:=@List.mem_append_right
abbrev Q5:=@Nat.blt_eq
abbrev Q6:=@List.set_eq_of_length_le
abbrev Q7:=@List.pairwise_append
abbrev Q9:=@List.drop_length
abbrev R3:=@List.mem_of_mem_drop
abbrev R6:=@List.flatMap_nil
abbrev R7:=@Nat.sub_self
abbrev R8:=@List.mem_range
abbrev S0:=@List.take_of_length_le
abbrev S2:=@Nat.le_trans
abbrev S5:=@Bool.and_false
abbrev T1:=@List.getElem?_eq_none
abbrev T3:=@Array.getElem?_eq_getElem
abbrev T4:=@decide_eq_false
abbrev T6:=@List.take_succ_eq_append_getElem
abbrev T7:=@Option.map_eq_some_iff
abbrev U3:=@List.map_nil
abbrev U6:=@Bool.and_true
abbrev U7:=@Option.bind_eq_some_iff
abbrev U8:=@decide_eq_false_iff_not
abbrev V5:=@Array.toArray_toList
abbrev V8:=@Nat.add_sub_cancel
abbrev W0:=@List.map_take
abbrev W3:=@Nat.beq_refl
abbrev W5:=@Array.getD_eq_getD_getElem?
abbrev W7:=@List.map_drop
abbrev X4:=@Nat.min_eq_left
abbrev X5:=@List.all_map
abbrev X6:=@of_decide_eq_false
abbrev X8:=@List.drop_eq_getElem_cons
abbrev Y4:=@List.mem_filter
abbrev Y9:=@List.cons_append
abbrev Z0:=@List.set_set
abbrev Z1:=@Nat.add_comm
abbrev Z5:=@List.getElem_cons_drop
abbrev Z6:=@decide_true
abbrev b7:=@Bool.or_eq_true
abbrev b8:=@List.pairwise_flatMap
abbrev b9:=@List.length_replicate
abbrev d3:=@List.all_cons
abbrev d7:=@List.getElem?_replicate
abbrev d8:=@List.filter_cons_of_pos
abbrev i5:=@Nat.add_le_add_left
abbrev i9:=@Array.getElem?_eq_none
abbrev j2:=@List.getElem?_set_self
abbrev j6:=@Array.getElem?_append_left
abbrev j7:=@beq_iff_eq
abbrev m3:=@List.getElem?_drop
abbrev n6:=@Option.isSome_iff_exists
abbrev n7:=@List.size_toArray
abbrev n8:=@Function.comp_def
abbrev p9:=@Bool.false_or
abbrev t6:=@List.drop_append_of_le_length
abbrev t7:=@List.take_append_of_le_length
abbrev t8:=@List.filter_cons_of_neg
abbrev u5:=@List.take_succ_cons
abbrev u6:=@List.getElem_of_mem
abbrev w4:=@Nat.le_add_right
abbrev w6:=@Bool.not_eq_true
abbrev w7:=@List.take_length
abbrev w8:=@List.any_eq_true
abbrev y9:=@List.getElem_range
abbrev A0d:=@List.nodup_iff_pairwise_ne
abbrev A0f:=@List.Sublist.refl
abbrev A0g:=@List.any_eq_false
abbrev A0j:=@List.getElem?_append
abbrev A0k:=@Bool.or_eq_false_iff
abbrev A0q:=@List.map_id
abbrev A0C:=@List.map_flatMap
abbrev A0D:=@beq_self_eq_true
abbrev A0G:=@List.getElem_set_ne
abbrev A0K:=@List.getElem?_cons_succ
abbrev A0P:=@Bool.or_assoc
abbrev A0W:=@List.getElem?_take
abbrev A0X:=@Option.map_none
abbrev A0Y:=@Int.tmod_lt_of_pos
abbrev A06:=@Nat.add_mul
abbrev A07:=@List.eq_nil_of_length_eq_zero
abbrev A1a:=@List.ext_getElem?
abbrev A1m:=@List.drop_drop
abbrev A1n:=@List.set_append_right
abbrev A1o:=@Bool.false_and
abbrev A1s:=@List.perm_append_comm_assoc
abbrev A1t:=@Array.getElem_setIfInBounds
abbrev A1A:=@Array.toList_map
abbrev A1B:=@List.ext_getElem
abbrev A1C:=@List.eraseP_cons
abbrev A1K:=@Int.le_refl
abbrev A1N:=@List.replicate_succ
abbrev A1O:=@Array.length_toList
abbrev A1S:=@List.extract_eq_take_drop
abbrev A1T:=@List.drop_left'
abbrev A1U:=@List.take_left'
abbrev A1V:=@Int.tmod_nonneg
abbrev A2j:=@Nat.succ_mul
abbrev A2k:=@List.set_cons_zero
abbrev A2l:=@List.eq_of_mem_replicate
abbrev A2m:=@Nat.zero_mul
abbrev A2n:=@Nat.eq_zero_or_pos
abbrev A2o:=@List.map_set
abbrev A2p:=@List.filter_append
abbrev A2F:=@List.take_zero
abbrev A2G:=@Nat.le_mul_of_pos_right
abbrev A2L:=@List.flatten_cons
abbrev A2M:=@Array.size_append
abbrev A2N:=@List.getElem_take
abbrev A2X:=@List.range_succ_eq_map
abbrev A2Y:=@List.getElem_cons_zero
abbrev A3g:=@List.isEmpty_iff
abbrev A3h:=@List.drop_append
abbrev A3i:=@List.flatMap_map
abbrev A3j:=@List.getElem_set
abbrev A3k:=@Int.tmod_eq_emod
abbrev A3l:=@List.filter_cons
abbrev A3A:=@List.getElem_set_self
abbrev A3B:=@Nat.testBit_shiftLeft
abbrev A3C:=@eq_of_heq
abbrev A3F:=@Array.getElem?_setIfInBounds_ne
abbrev A3X:=@List.extract_toArray
abbrev A3Y:=@Int.le_trans
abbrev A3Z:=@Bool.true_or
abbrev A30:=@List.drop_succ_cons
abbrev A31:=@List.Sublist.append
abbrev A4u:=@Bool.and_assoc
abbrev A4v:=@List.nodup_nil
abbrev A4V:=@Array.foldl_toList
abbrev A4W:=@Nat.pos_of_ne_zero
abbrev A4X:=@Nat.lt_or_gt_of_ne
abbrev A4Y:=@List.filter_filter
abbrev A4Z:=@List.set_cons_succ
abbrev A44:=@Bool.or_false
abbrev A46:=@List.pairwise_map
abbrev A5m:=@List.mem_take_iff_getElem
abbrev A58:=@Option.getD_some
abbrev A59:=@List.getElem?_take_of_lt
abbrev A6a:=@List.not_mem_nil
abbrev A6E:=@List.headD_cons
abbrev A6F:=@List.cons.injEq
abbrev A6G:=@List.find?_some
abbrev A6Z:=@Nat.mul_one
abbrev A60:=@Nat.min_def
abbrev A7p:=@Nat.testBit_or
abbrev A7q:=@List.foldl_nil
abbrev A8G:=@not_true
abbrev A8H:=@true_and
inductive AV where
 |any
 |val (x:Value)
 |agg (cs:List AV)
 |tup (vs:List AV)
 |sl (own:Bool) (sz:Nat) (rows:List AV)
 |ref (j ver off len:Nat)
 |ptr (j ver row off:Nat)
 |ipt (cs:List AV)
 |fn (f:FuncId) (cap:List AV)
 deriving Inhabited
def AV.cells:AV→List AV
 |.agg cs=>cs
 |x=>[x]
mutual
def imm:AV→AV
 |.any=>.any
 |.val x=>.val x
 |.agg cs=>.agg (A0c cs)
 |.tup cs=>.tup (A0c cs)
 |.sl _ sz rows=>.sl false sz (A0c rows)
 |.ref .. => .any
 |.ptr .. => .any
 |.ipt cs=>.ipt (A0c cs)
 |.fn f cs=>.fn f (A0c cs)
def A0c:List AV→List AV
 |[]=>[]
 |x :: xs=>imm x :: A0c xs
end
theorem A0z:∀ xs:List AV,A0c xs=xs.map imm
 |[]=>rfl
 |x :: xs=>by rw[A0c,A0z xs];rfl
mutual
def AV.low(n:Nat):AV→Bool
 |.any=>true
 |.val _=>true
 |.agg cs=>q9 n cs
 |.tup cs=>q9 n cs
 |.sl _ _ rows=>q9 n rows
 |.ref j _ _ _=>decide (j<n)
 |.ptr j _ _ _=>decide (j<n)
 |.ipt cs=>q9 n cs
 |.fn _ cs=>q9 n cs
def q9(n:Nat):List AV→Bool
 |[]=>true
 |x :: xs=>x.low n&&q9 n xs
end
theorem A0Z(n:Nat):∀ xs:List AV,q9 n xs=xs.all (AV.low n)
 |[]=>rfl
 |x :: xs=>by rw[q9,A0Z n xs];rfl
structure Cn where
 b:Nat
 o:Nat
 sz:Nat
 len:Nat
 fr:Nat
 virt:Bool
abbrev NT:=Nat→Nat→Prop
abbrev MT:=Nat→Option (Option Cn)
def Shp(w w':World):Prop:=∀ (b:Nat) (c:Array Value) (e:TypeId) (fz:Nat×Nat),w.heap[b]? = some (Obj.cells c e fz) →
 ∃ c':Array Value,w'.heap[b]? = some (Obj.cells c' e fz)∧c'.size=c.size
def Mk(z n:Nat)(fz:Nat×Nat):Prop:=(∀ i,i<n→(decide (fz.1≤i)&&decide (i<fz.2))=false)∧(z=1∨fz.2≤n)
def A15(w:World)(z b n:Nat):Prop:=∃ c e fz,w.heap[b]? = some (.cells c e fz)∧n≤c.size∧Mk z c.size fz
def A8A(w:World)(m:Cn)(off len:Nat)(a:Option Addr)(cap:Nat):Prop :=
 off+len≤m.len∧((len=0∧cap=0)∨(m.virt=false∧a=some ⟨m.b,m.o+off*m.sz,none⟩∧len≤cap∧A15 w m.sz m.b (m.o+(off+cap)*m.sz)))
mutual
inductive Rep (w:World) (N:NT) (M:MT):AV→Value→List Nat→Prop
 |any (v:Value):Rep w N M .any v []
 |val (v:Value):Rep w N M (.val v) v []
 |agg {cs:List AV} {vs:List Value} {L:List Nat}:F5 w N M cs vs L→Rep w N M (.agg cs) (.agg ⟨vs⟩) L
 |tup {cs:List AV} {vs:List Value} {L:List Nat}:F5 w N M cs vs L→Rep w N M (.tup cs) (.tuple ⟨vs⟩) L
 |fn {f:FuncId} {cs:List AV} {vs:List Value} {L:List Nat}:F5 w N M cs vs L→Rep w N M (.fn f cs) (.func (.func f) #[] ⟨vs⟩) L
 |slI0 (sz:Nat) (a:Option Addr) (cap:Nat):Rep w N M (.sl false sz []) (.slice a 0 cap) []
 |slI {sz:Nat} {rows:List AV} {b o cap:Nat}:I0 w N M b o (rows.flatMap AV.cells) []→(∀ y∈rows,y.cells.length=sz) →
   (∀ i,i<rows.length*sz→N b (o+i))→rows.length≤cap→Rep w N M (.sl false sz rows) (.slice (some ⟨b,o,none⟩) rows.length cap) []
 |slO0 (sz:Nat) (a:Option Addr):Rep w N M (.sl true sz []) (.slice a 0 0) []
 |slO {sz:Nat} {rows:List AV} {b o cap:Nat} {L:List Nat}:I0 w N M b o (rows.flatMap AV.cells) L→(∀ y∈rows,y.cells.length=sz) →
   rows.length≤cap→A15 w sz b (o+cap*sz)→Rep w N M (.sl true sz rows) (.slice (some ⟨b,o,none⟩) rows.length cap) (b :: L)
 |ref {j ver off len:Nat} {a:Option Addr} {cap:Nat} (mm:Option Cn):M j=some mm →
   (∀ m,mm=some m→ver≤m.len∧(ver=m.len→A8A w m off len a cap))→Rep w N M (.ref j ver off len) (.slice a len cap) []
 |ptr {j ver row off:Nat} {a:Option Addr} (mm:Option Cn):M j=some mm →
   (∀ m,mm=some m→ver≤m.len∧(ver=m.len→row<m.len∧m.virt=false∧a=some ⟨m.b,m.o+row*m.sz+off,none⟩)) →
   Rep w N M (.ptr j ver row off) (.pointer a) []
 |ipt {cs:List AV} {b o:Nat}:I0 w N M b o cs []→(∀ i,i<cs.length→N b (o+i))→Rep w N M (.ipt cs) (.pointer (some ⟨b,o,none⟩)) []
inductive F5 (w:World) (N:NT) (M:MT):List AV→List Value→List Nat→Prop
 |nil:F5 w N M [] [] []
 |cons {x:AV} {v:Value} {L1 L2:List Nat} {xs:List AV} {vs:List Value}:Rep w N M x v L1→F5 w N M xs vs L2→F5 w N M (x :: xs) (v :: vs) (L1++L2)
inductive I0 (w:World) (N:NT) (M:MT):Nat→Nat→List AV→List Nat→Prop
 |nil (b o:Nat):I0 w N M b o [] []
 |cons {b o:Nat} {x:AV} {v:Value} {L1 L2:List Nat} {xs:List AV}:w.cell? ⟨b,o,none⟩=some v→Rep w N M x v L1→I0 w N M b (o+1) xs L2 →
   I0 w N M b o (x :: xs) (L1++L2)
end
theorem v5{sz:Nat}:∀ {rows:List AV},(∀ y∈rows,y.cells.length=sz)→(rows.flatMap AV.cells).length=rows.length*sz
 |[],_=>by simp
 |x :: xs,h=>by
  have h1:=h x (by simp);have h2:=v5 (rows:=xs) fun y hy=>h y (by simp[hy]);simp only[F0,A5,h1,h2,B5,A2j];omega
structure Gr (w w':World) (N N':NT) (M M':MT):Prop where
 shp:Shp w w'
 cell:∀ b o,N b o→w'.cell? ⟨b,o,none⟩=w.cell? ⟨b,o,none⟩
 nn:∀ b o,N b o→N' b o
 mm:∀ j x,M j=some x→∃ x',M' j=some x'∧∀ m',x'=some m'→∃ m,x=some m∧(m'={ m with fr:=m'.fr }∨m.len<m'.len)
theorem A15.gr{w w':World}(shp:Shp w w'){z b n:Nat}(h:A15 w z b n):A15 w' z b n:=by
 obtain⟨c,e,fz,h1,h2,h5⟩:=h;obtain⟨c',h3,h4⟩:=shp _ _ _ _ h1;exact⟨c',e,fz,h3,by omega,by rw[h4];exact h5⟩
theorem A8A.gr{w w':World}(shp:Shp w w'){m:Cn}{off len cap:Nat}{a:Option Addr}(h:A8A w m off len a cap):A8A w' m off len a cap:=by
 obtain⟨h1,h2⟩:=h;refine⟨h1,?_⟩;rcases h2 with h2|⟨h2,h3,h4,h5⟩
 ·exact .inl h2
 ·exact .inr ⟨h2,h3,h4,h5.gr shp⟩
def t2(w w':World)(b:Nat):Prop:=∀ o,w'.cell? ⟨b,o,none⟩=w.cell? ⟨b,o,none⟩
mutual
theorem Rep.gr{w w':World}{N N':NT}{M M':MT}(g:Gr w w' N N' M M'){x:AV}{v:Value}{L:List Nat}:Rep w N M x v L→(∀ b∈L,t2 w w' b)→Rep w' N' M' x v L
 |.any v,_=>.any v
 |.val v,_=>.val v
 |.agg h,k=>.agg (h.gr g k)
 |.tup h,k=>.tup (h.gr g k)
 |.fn h,k=>.fn (h.gr g k)
 |.slI0 sz a cap,_=>.slI0 sz a cap
 |.slI (rows:=rows) h hl hN hc,k=>.slI (h.gr g (fun i hi=>g.cell _ _ (hN i (by rw[v5 hl] at hi;exact hi))) k) hl (fun i hi=>g.nn _ _ (hN i hi)) hc
 |.slO0 sz a,_=>.slO0 sz a
 |.slO h hl hc hr,k=>.slO (h.gr g (fun i _=>k _ (by simp) _) (fun b hb=>k b (by simp[hb]))) hl hc (hr.gr g.shp)
 |.ref (j:=j) mm hM h,_=>by
  obtain⟨x',hx,hx'⟩:=g.mm _ _ hM;refine .ref x' hx fun m' hm' => ?_;obtain⟨m,hm,hmm⟩:=hx' m' hm';obtain⟨h1,h2⟩:=h m hm;rcases hmm with e|hlt
  ·generalize m'.fr=z at e;subst e;exact⟨h1,fun e=>(h2 e).gr g.shp⟩
  ·exact⟨by omega,fun e=>by omega⟩
 |.ptr mm hM h,_=>by
  obtain⟨x',hx,hx'⟩:=g.mm _ _ hM;refine .ptr x' hx fun m' hm' => ?_;obtain⟨m,hm,hmm⟩:=hx' m' hm';obtain⟨h1,h2⟩:=h m hm;rcases hmm with e|hlt
  ·generalize m'.fr=z at e;subst e;exact⟨h1,h2⟩
  ·exact⟨by omega,fun e=>by omega⟩
 |.ipt h hN,k=>.ipt (h.gr g (fun i hi=>g.cell _ _ (hN i hi)) k) (fun i hi=>g.nn _ _ (hN i hi))
theorem F5.gr{w w':World}{N N':NT}{M M':MT}(g:Gr w w' N N' M M'){xs:List AV}{vs:List Value}{L:List Nat}:F5 w N M xs vs L→(∀ b∈L,t2 w w' b)→F5 w' N' M' xs vs L
 |.nil,_=>.nil
 |.cons h t,k=>.cons (h.gr g fun b hb=>k b (by simp[hb])) (t.gr g fun b hb=>k b (by simp[hb]))
theorem I0.gr{w w':World}{N N':NT}{M M':MT}(g:Gr w w' N N' M M'){b o:Nat}{xs:List AV}{L:List Nat}:I0 w N M b o xs L→(∀ i,i<xs.length→w'.cell? ⟨b,o+i,none⟩=w.cell? ⟨b,o+i,none⟩)→(∀ b∈L,t2 w w' b)→I0 w' N' M' b o xs L
 |.nil b o,_,_=>.nil b o
 |.cons (o:=o) hc h t,hs,k=>.cons (by have:=hs 0 (by simp);simp only[H2] at this;rw[this];exact hc) (h.gr g fun b hb=>k b (by simp[hb]))
   (t.gr g (fun i hi=>by have:=hs (i+1) (by simp;omega);rw[show o+(i+1)=o+1+i from by omega] at this;exact this) fun b hb=>k b (by simp[hb]))
end
open Go
theorem A7G{rows:List AV}:(A0c rows).flatMap AV.cells=A0c (rows.flatMap AV.cells):=by
 induction rows with
 |nil=>rfl
 |cons x xs ih =>
  simp only[A0c,F0,ih];have:∀ a b:List AV,A0c (a++b)=A0c a++A0c b:=by intro a b;simp[A0z]
  rw[this];congr 1;cases x<;>simp[imm,AV.cells,A0c]
theorem A8K(x:AV):(imm x).cells.length=x.cells.length:=by cases x<;>simp[imm,AV.cells,A0z]
theorem B6B{sz:Nat}{rows:List AV}(h:∀ y∈rows,y.cells.length=sz):∀ y∈A0c rows,y.cells.length=sz:=by
 intro y hy;rw[A0z] at hy;obtain⟨x,hx,rfl⟩:=C5.1 hy;rw[A8K];exact h x hx
theorem A1G(rows:List AV):(A0c rows).length=rows.length:=by rw[A0z];simp
theorem B0H(n:Nat)(a b:List AV):q9 n (a++b)=(q9 n a&&q9 n b):=by simp[A0Z]
theorem A9N(n:Nat)(rows:List AV):q9 n (rows.flatMap AV.cells)=q9 n rows:=by
 induction rows with
 |nil=>rfl
 |cons x xs ih =>
  rw[F0,B0H,ih,q9];congr 1;cases x<;>simp[AV.cells,AV.low,q9]
mutual
theorem Rep.imm{w:World}{N N':NT}{M M':MT}(hn:∀ b o,N b o→N' b o){x:AV}{v:Value}{L:List Nat}:Rep w N M x v L→(∀ b∈L,∀ o,N' b o)→Rep w N' M' (imm x) v []
 |.any v,_=>.any v
 |.val v,_=>.val v
 |.agg h,k=>.agg (h.imm hn k)
 |.tup h,k=>.tup (h.imm hn k)
 |.fn h,k=>.fn (h.imm hn k)
 |.slI0 sz a cap,_=>.slI0 sz a cap
 |.slI h hl hN hc,k=>by
  rw[Nx.imm,← A1G];exact .slI (by rw[A7G];exact h.imm hn k) (B6B hl) (fun i hi=>hn _ _ (hN i (by rw[A1G] at hi;exact hi))) (by rw[A1G];exact hc)
 |.slO0 sz a,_=>.slI0 sz a 0
 |.slO h hl hc _,k=>by
  rw[Nx.imm,← A1G];exact .slI (by rw[A7G];exact h.imm hn (fun b hb=>k b (by simp[hb]))) (B6B hl) (fun i _=>k _ (by simp) _) (by rw[A1G];exact hc)
 |.ref _ _ _,_=>.any _
 |.ptr _ _ _,_=>.any _
 |.ipt h hN,k=>by
  rw[Nx.imm];exact .ipt (h.imm hn k) (fun i hi=>hn _ _ (hN i (by rw[A1G] at hi;exact hi)))
theorem F5.imm{w:World}{N N':NT}{M M':MT}(hn:∀ b o,N b o→N' b o){xs:List AV}{vs:List Value}{L:List Nat}:F5 w N M xs vs L→(∀ b∈L,∀ o,N' b o)→F5 w N' M' (A0c xs) vs []
 |.nil,_=>.nil
 |.cons h t,k=>.cons (L1:=[]) (L2:=[]) (h.imm hn fun b hb=>k b (by simp[hb])) (t.imm hn fun b hb=>k b (by simp[hb]))
theorem I0.imm{w:World}{N N':NT}{M M':MT}(hn:∀ b o,N b o→N' b o){b o:Nat}{xs:List AV}{L:List Nat}:I0 w N M b o xs L→(∀ b∈L,∀ o,N' b o)→I0 w N' M' b o (A0c xs) []
 |.nil b o,_=>.nil b o
 |.cons hc h t,k=>.cons (L1:=[]) (L2:=[]) hc (h.imm hn fun b hb=>k b (by simp[hb])) (t.imm hn fun b hb=>k b (by simp[hb]))
end
mutual
theorem Rep.lowM{w:World}{N:NT}{M M':MT}{n:Nat}(hM:∀ j,j<n→∀ x,M j=some x→M' j=some x){x:AV}{v:Value}{L:List Nat}:Rep w N M x v L→x.low n=true→Rep w N M' x v L
 |.any v,_=>.any v
 |.val v,_=>.val v
 |.agg h,k=>.agg (h.lowM hM (by simpa[AV.low] using k))
 |.tup h,k=>.tup (h.lowM hM (by simpa[AV.low] using k))
 |.fn h,k=>.fn (h.lowM hM (by simpa[AV.low] using k))
 |.slI0 sz a cap,_=>.slI0 sz a cap
 |.slI h hl hN hc,k=>.slI (h.lowM hM (by rw[A9N];simpa[AV.low] using k)) hl hN hc
 |.slO0 sz a,_=>.slO0 sz a
 |.slO h hl hc hr,k=>.slO (h.lowM hM (by rw[A9N];simpa[AV.low] using k)) hl hc hr
 |.ref mm h1 h2,k=>.ref mm (hM _ (by simpa[AV.low] using k) _ h1) h2
 |.ptr mm h1 h2,k=>.ptr mm (hM _ (by simpa[AV.low] using k) _ h1) h2
 |.ipt h hN,k=>.ipt (h.lowM hM (by simpa[AV.low] using k)) hN
theorem F5.lowM{w:World}{N:NT}{M M':MT}{n:Nat}(hM:∀ j,j<n→∀ x,M j=some x→M' j=some x){xs:List AV}{vs:List Value}{L:List Nat}:F5 w N M xs vs L→q9 n xs=true→F5 w N M' xs vs L
 |.nil,_=>.nil
 |.cons h t,k=>by
  simp only[q9,A6] at k;exact .cons (h.lowM hM k.1) (t.lowM hM k.2)
theorem I0.lowM{w:World}{N:NT}{M M':MT}{n:Nat}(hM:∀ j,j<n→∀ x,M j=some x→M' j=some x){b o:Nat}{xs:List AV}{L:List Nat}:I0 w N M b o xs L→q9 n xs=true→I0 w N M' b o xs L
 |.nil b o,_=>.nil b o
 |.cons hc h t,k=>by
  simp only[q9,A6] at k;exact .cons hc (h.lowM hM k.1) (t.lowM hM k.2)
end
def AV.bare1:AV→Bool
 |.sl own _ _ => !own
 |.agg _=>false
 |.tup _=>false
 |.fn _ cs=>cs.isEmpty
 |_=>true
def AV.bare:AV→Bool
 |.sl own _ _ => !own
 |.agg cs=>cs.all AV.bare1
 |.tup cs=>cs.all AV.bare1
 |.fn _ cs=>cs.all AV.bare1
 |_=>true
open Go
theorem Rep.bare1{w:World}{N:NT}{M:MT}{x:AV}{v:Value}{L:List Nat}(h:Rep w N M x v L)(hb:AV.bare1 x=true):L=[]:=by
 cases h with
 |agg h=>simp[AV.bare1] at hb
 |tup h=>simp[AV.bare1] at hb
 |fn h =>
  rename_i cs vs;simp only[AV.bare1,A3g] at hb;subst hb;cases h;rfl
 |slO h _ _ _=>simp[AV.bare1] at hb
 |_=>rfl
theorem F5.bare{w:World}{N:NT}{M:MT}{xs:List AV}{vs:List Value}{L:List Nat}(h:F5 w N M xs vs L)(hb:xs.all AV.bare1=true):L=[]:=by
 induction xs generalizing vs L with
 |nil=>cases h;rfl
 |cons x xs ih =>
  cases h with
  |cons h t =>
   simp only[d3,A6] at hb;rw[h.bare1 hb.1,ih t hb.2];rfl
theorem Rep.bare{w:World}{N:NT}{M:MT}{x:AV}{v:Value}{L:List Nat}(h:Rep w N M x v L)(hb:x.bare=true):L=[]:=by
 cases h with
 |agg h=>exact h.bare hb
 |tup h=>exact h.bare hb
 |fn h=>exact h.bare hb
 |slO h _ _ _=>simp[AV.bare] at hb
 |_=>rfl
theorem I0.append{w:World}{N:NT}{M:MT}{b o:Nat}{xs ys:List AV}{L:List Nat}:I0 w N M b o (xs++ys) L→∃ L1 L2,L=L1++L2∧I0 w N M b o xs L1∧I0 w N M b (o+xs.length) ys L2:=by
 induction xs generalizing o L with
 |nil=>intro h;exact⟨[],L,rfl,.nil _ _,by simpa using h⟩
 |cons x xs ih =>
  intro h;cases h with
  |cons hc hx ht =>
   rename_i v L1 L2;obtain⟨A,B,rfl,h1,h2⟩:=ih ht;refine⟨L1++A,B,by simp,.cons hc hx h1,?_⟩;rw[B5,show o+(xs.length+1)=o+1+xs.length from by omega];exact h2
theorem I0.join{w:World}{N:NT}{M:MT}{b o:Nat}{xs ys:List AV}{L1 L2:List Nat}(h1:I0 w N M b o xs L1)(h2:I0 w N M b (o+xs.length) ys L2):I0 w N M b o (xs++ys) (L1++L2):=by
 induction xs generalizing o L1 with
 |nil=>cases h1;simpa using h2
 |cons x xs ih =>
  cases h1 with
  |cons hc hx ht =>
   rename_i v A B;rw[F9];refine .cons hc hx (ih ht ?_);rw[B5,show o+(xs.length+1)=o+1+xs.length from by omega] at h2;exact h2
theorem I0.values{w:World}{N:NT}{M:MT}{b o:Nat}{xs:List AV}{L:List Nat}:I0 w N M b o xs L→∃ vs,F5 w N M xs vs L∧vs.length=xs.length∧∀ i,i<xs.length→w.cell? ⟨b,o+i,none⟩=vs[i]? := by
 induction xs generalizing o L with
 |nil=>intro h;cases h;exact⟨[],.nil,rfl,fun i hi=>absurd hi (by simp)⟩
 |cons x xs ih =>
  intro h;cases h with
  |cons hc hx ht =>
   rename_i v A B;obtain⟨vs,h1,h2,h3⟩:=ih ht;refine⟨v :: vs,.cons hx h1,by simp[h2],?_⟩;intro i hi;cases i with
   |zero=>simpa using hc
   |succ i =>
    rw[show o+(i+1)=o+1+i from by omega,h3 i (by simpa using hi)];simp
theorem I0.of_values{w:World}{N:NT}{M:MT}{b:Nat}{xs:List AV}{vs:List Value}{L:List Nat}:∀ {o:Nat},F5 w N M xs vs L→(∀ i,i<vs.length→w.cell? ⟨b,o+i,none⟩=vs[i]?)→I0 w N M b o xs L:=by
 induction xs generalizing vs L with
 |nil=>intro o h _;cases h;exact .nil _ _
 |cons x xs ih =>
  intro o h hc;cases h with
  |cons hx ht =>
   refine .cons (by have:=hc 0 (by simp);simpa using this) hx (ih ht fun i hi => ?_);have:=hc (i+1) (by simp;omega);rw[show o+(i+1)=o+1+i from by omega] at this;simpa using this
theorem F5.length{w:World}{N:NT}{M:MT}{xs:List AV}{vs:List Value}{L:List Nat}(h:F5 w N M xs vs L):vs.length=xs.length:=by
 induction xs generalizing vs L with
 |nil=>cases h;rfl
 |cons x xs ih=>cases h with|cons hx ht=>simp[ih ht]
theorem F5.append{w:World}{N:NT}{M:MT}{xs ys:List AV}{vs:List Value}{L:List Nat}:F5 w N M (xs++ys) vs L→∃ v1 v2 L1 L2,vs=v1++v2∧L=L1++L2∧F5 w N M xs v1 L1∧F5 w N M ys v2 L2:=by
 induction xs generalizing vs L with
 |nil=>intro h;exact⟨[],vs,[],L,rfl,rfl,.nil,h⟩
 |cons x xs ih =>
  intro h;cases h with
  |cons hx ht =>
   rename_i v L1 L2 vs;obtain⟨v1,v2,A,B,rfl,rfl,h1,h2⟩:=ih ht;exact⟨v :: v1,v2,L1++A,B,rfl,by simp,.cons hx h1,h2⟩
theorem F5.join{w:World}{N:NT}{M:MT}{xs ys:List AV}{v1 v2:List Value}{L1 L2:List Nat}(h1:F5 w N M xs v1 L1)(h2:F5 w N M ys v2 L2):F5 w N M (xs++ys) (v1++v2) (L1++L2):=by
 induction xs generalizing v1 L1 with
 |nil=>cases h1;exact h2
 |cons x xs ih =>
  cases h1 with
  |cons hx ht=>rw[F9];exact .cons hx (ih ht)
theorem F5.get{w:World}{N:NT}{M:MT}{xs:List AV}{vs:List Value}(h:F5 w N M xs vs [])(i:Nat):Rep w N M (xs.getD i .any) (vs.getD i undef) []:=by
 induction xs generalizing vs i with
 |nil=>cases h;simpa using Rep.any _
 |cons x xs ih =>
  generalize hL:([]:List Nat)=L at h;cases h with
  |cons hx ht =>
   obtain⟨rfl,rfl⟩:=G9.1 hL.symm;cases i with
   |zero=>simpa using hx
   |succ i=>simpa using ih ht i
theorem F5.set{w:World}{N:NT}{M:MT}{xs:List AV}{vs:List Value}(h:F5 w N M xs vs []){x:AV}{v:Value}(hx:Rep w N M x v [])(i:Nat):F5 w N M (xs.set i x) (vs.set i v) []:=by
 induction xs generalizing vs i with
 |nil=>cases h;simpa using F5.nil
 |cons y xs ih =>
  generalize hL:([]:List Nat)=L at h;cases h with
  |cons hy ht =>
   obtain⟨rfl,rfl⟩:=G9.1 hL.symm;cases i with
   |zero=>exact .cons (L1:=[]) (L2:=[]) hx ht
   |succ i=>exact .cons (L1:=[]) (L2:=[]) hy (ih ht i)
theorem F5.replicate{w:World}{N:NT}{M:MT}(n:Nat):F5 w N M (List.replicate n .any) (List.replicate n undef) []:=by
 induction n with
 |zero=>exact .nil
 |succ n ih=>exact .cons (L1:=[]) (L2:=[]) (.any _) ih
open Go
structure Blk where
 sz:Nat
 lo:Nat
 rows:List AV
 fz:Nat
 deriving Inhabited
abbrev HP:=List (Option Blk)
structure BR (w:World) (N:NT) (M:MT) (k:Blk) (m:Cn) (L:List Nat):Prop where
 len:m.len=k.rows.length
 sz:m.sz=k.sz
 fr:m.fr≤m.o+k.lo*k.sz
 cl:∀ y∈k.rows,y.cells.length=k.sz
 rep:I0 w N M m.b m.o (k.rows.flatMap AV.cells) L
 vt:m.virt=true→k.rows=[]
 rm:m.virt=false→A15 w m.sz m.b (m.o+m.len*m.sz)
 lo:k.lo≤k.rows.length
 fz:∀ i,i<k.fz*k.sz→N m.b (m.o+i)
 f0:k.lo=0→m.fr=0
def H0(m:Cn)(L:List Nat):List (Nat×Nat):=if m.virt then [] else(m.b,m.fr) :: L.map fun b=>(b,0)
inductive HR (w:World) (N:NT) (M:MT):Nat→HP→List (Nat×Nat)→Prop
 |nil (k:Nat):HR w N M k [] []
 |dead {k:Nat} {hs:HP} {L:List (Nat×Nat)}:M k=some none→HR w N M (k+1) hs L→HR w N M k (none :: hs) L
 |live {k:Nat} {x:Blk} {m:Cn} {L1:List Nat} {hs:HP} {L2:List (Nat×Nat)}:M k=some (some m)→BR w N M x m L1→HR w N M (k+1) hs L2→HR w N M k (some x :: hs) (H0 m L1++L2)
theorem BR.gr{w w':World}{N N':NT}{M M':MT}(g:Gr w w' N N' M M'){k:Blk}{m:Cn}{L:List Nat}(h:BR w N M k m L)(hs:∀ p∈H0 m L,t2 w w' p.1):BR w' N' M' k m L:=by
 cases hv:m.virt with
 |true =>
  have hr:=h.vt hv;have hrep:=h.rep;rw[hr] at hrep;refine⟨h.len,h.sz,h.fr,h.cl,?_,h.vt,(fun e=>by rw[hv] at e;cases e),h.lo,fun i hi=>g.nn _ _ (h.fz i hi),h.f0⟩;rw[hr];exact hrep.gr g (fun i hi=>absurd hi (by simp)) (by cases hrep;intro b hb;cases hb)
 |false =>
  have e:H0 m L=(m.b,m.fr) :: L.map fun b=>(b,0):=by simp[H0,hv]
  rw[e] at hs;refine⟨h.len,h.sz,h.fr,h.cl,h.rep.gr g (fun i _=>hs (m.b,m.fr) (by simp) _) ?_,h.vt,(fun e=>(h.rm hv).gr g.shp),h.lo,fun i hi=>g.nn _ _ (h.fz i hi),h.f0⟩;intro b hb;exact hs (b,0) (by simp[hb])
theorem HR.gr{w w':World}{N N':NT}{M M':MT}(g:Gr w w' N N' M M'){hp:HP}:∀ {k:Nat} {L:List (Nat×Nat)},HR w N M k hp L→(∀ p∈L,t2 w w' p.1)→(∀ i,k≤i→i<k+hp.length→M' i=M i)→HR w' N' M' k hp L:=by
 induction hp with
 |nil=>intro k L h _ _;cases h;exact .nil _
 |cons x hs ih =>
  intro k L h hs' hM;cases h with
  |dead h1 h2=>exact .dead (by rw[hM k (B9 _) (by simp)];exact h1) (ih h2 hs' fun i hi hl=>hM i (by omega) (by simp only[B5];omega))
  |live h1 h2 h3 =>
   exact .live (by rw[hM k (B9 _) (by simp)];exact h1) (h2.gr g fun p hp=>hs' p (by simp[hp])) (ih h3 (fun p hp=>hs' p (by simp[hp])) fun i hi hl=>hM i (by omega) (by simp only[B5];omega))
theorem HR.append{w:World}{N:NT}{M:MT}{p q:HP}:∀ {k:Nat} {L:List (Nat×Nat)},HR w N M k (p++q) L→∃ A B,L=A++B∧HR w N M k p A∧HR w N M (k+p.length) q B:=by
 induction p with
 |nil=>intro k L h;exact⟨[],L,rfl,.nil _,by simpa using h⟩
 |cons x p ih =>
  intro k L h;cases h with
  |dead h1 h2 =>
   obtain⟨A,B,rfl,h3,h4⟩:=ih h2;exact⟨A,B,rfl,.dead h1 h3,by rw[B5,show k+(p.length+1)=k+1+p.length from by omega];exact h4⟩
  |live h1 h2 h3 =>
   obtain⟨A,B,rfl,h3,h4⟩:=ih h3;exact⟨_++A,B,by simp,.live h1 h2 h3,by rw[B5,show k+(p.length+1)=k+1+p.length from by omega];exact h4⟩
theorem HR.join{w:World}{N:NT}{M:MT}{p q:HP}:∀ {k:Nat} {A B:List (Nat×Nat)},HR w N M k p A→HR w N M (k+p.length) q B→HR w N M k (p++q) (A++B):=by
 induction p with
 |nil=>intro k A B h1 h2;cases h1;simpa using h2
 |cons x p ih =>
  intro k A B h1 h2;rw[B5,show k+(p.length+1)=k+1+p.length from by omega] at h2;cases h1 with
  |dead h3 h4=>exact .dead h3 (ih h4 h2)
  |live h3 h4 h5=>rw[F9];exact .live h3 h4 (ih h5 h2)
theorem HR.focus{w:World}{N:NT}{M:MT}{hp:HP}{k:Nat}{L:List (Nat×Nat)}{j:Nat}{x:Blk}(h:HR w N M k hp L)(hj:hp[j]? = some (some x)) :
  ∃ p q A B m L1,hp=p++some x :: q∧j=p.length∧L=A++(H0 m L1++B)∧HR w N M k p A∧M (k+j)=some (some m)∧BR w N M x m L1∧HR w N M (k+j+1) q B:=by
 have hlt:j<hp.length:=by
  rcases D9 j hp.length with h|h
  ·exact h
  ·rw[T1 h] at hj;cases hj
 have e:hp=hp.take j++some x :: hp.drop (j+1):=by
  have h1:hp[j]'hlt=some x:=by simpa[D1 hlt] using hj
  rw[← h1,Z5 hlt,G3]
 have hl:(hp.take j).length=j:=by simp;omega
 rw[e] at h;obtain⟨A,B,rfl,h1,h2⟩:=h.append;rw[hl] at h2;cases h2 with
 |live h3 h4 h5=>exact⟨hp.take j,hp.drop (j+1),A,_,_,_,e,hl.symm,rfl,h1,h3,h4,h5⟩
structure Fr (X:List Nat) (w w':World):Prop where
 os:w'.os=w.os
 tape:w'.tape=w.tape
 output:w'.output=w.output
 size:w.heap.size≤w'.heap.size
 block:∀ k,k<w.heap.size→k ∉ X→w'.heap[k]? = w.heap[k]?
 shp:Shp w w'
theorem Fr.refl(X:List Nat)(w:World):Fr X w w:=⟨rfl,rfl,rfl,B9 _,fun _ _ _=>rfl,fun _ c _ _ h=>⟨c,h,rfl⟩⟩
theorem Fr.same{X:List Nat}{w w':World}(h:Fr X w w'){b:Nat}(hb:b<w.heap.size)(hx:b ∉ X):t2 w w' b:=fun _=>World.cell?_of_block (h.block b hb hx)
theorem Shp.trans{a b c:World}(h:Shp a b)(k:Shp b c):Shp a c:=by
 intro x y e fz hx;obtain⟨y',h1,h2⟩:=h x y e fz hx;obtain⟨y'',h3,h4⟩:=k x y' e fz h1;exact⟨y'',h3,h4.trans h2⟩
theorem Fr.trans{X Y:List Nat}{a b c:World}(h:Fr X a b)(k:Fr Y b c)(hY:∀ y∈Y,y∈X∨a.heap.size≤y):Fr X a c :=
 ⟨k.os.trans h.os,k.tape.trans h.tape,k.output.trans h.output,S2 h.size k.size,fun i hi hx=>by
  have hy:i ∉ Y:=fun hm=>by rcases hY i hm with h|h;exact hx h;omega
  rw[k.block i (P7 hi h.size) hy,h.block i hi hx],h.shp.trans k.shp⟩
structure FrN (N:NT) (X:List Nat) (w w':World):Prop extends Fr X w w' where
 nc:∀ b o,N b o→w'.cell? ⟨b,o,none⟩=w.cell? ⟨b,o,none⟩
theorem FrN.refl(N:NT)(X:List Nat)(w:World):FrN N X w w:=⟨Fr.refl X w,fun _ _ _=>rfl⟩
theorem FrN.trans{N:NT}{X Y:List Nat}{a b c:World}(h:FrN N X a b)(k:Fr Y b c)(hY:∀ y∈Y,y∈X∨a.heap.size≤y)(hc:∀ i o,N i o→c.cell? ⟨i,o,none⟩=b.cell? ⟨i,o,none⟩):FrN N X a c :=
 ⟨h.toFr.trans k hY,fun i o hn=>(hc i o hn).trans (h.nc i o hn)⟩
structure AS where
 sl:List AV
 hp:HP
def AS.put(s:AS)(d:Option Tmp)(x:AV):AS :=
 match d with
 |some d=>{ s with sl:=s.sl.set d x }
 |none=>s
structure Ctx where
 w0:World
 X:List Nat
 N0:NT
 M0:MT
structure H4 (C:Ctx) (s:AS) (a:Act) (w:World) (N:NT) (M:MT) (L:List (Nat×Nat)):Prop where
 df:a.defers=[]
 sl:F5 w N M s.sl a.tmps.toList []
 hp:HR w N M 0 s.hp L
 nd:(L.map Prod.fst).Nodup
 own:∀ p∈L,p.1<w.heap.size∧(C.w0.heap.size≤p.1∨p.1∈C.X)∧∀ o,N p.1 o→o<p.2
 nlt:∀ b o,N b o→b<w.heap.size
 nup:∀ b o,C.N0 b o→N b o
 ndn:∀ b o,N b o→C.N0 b o∨C.w0.heap.size≤b∨b∈C.X
 fr:FrN C.N0 C.X C.w0 w
 un:∀ k,s.hp.length≤k→M k=none
 mv:∀ k m m0,M k=some (some m)→C.M0 k=some (some m0)→m0.len≤m.len∧(m.len=m0.len→m=m0)
 mz:∀ k,s.hp.length≤k→C.M0 k=none
def M8(C:Ctx)(s:AS)(a:Act)(w:World):Prop:=∃ N M L,H4 C s a w N M L
theorem H4.put{C:Ctx}{s:AS}{a:Act}{w:World}{N:NT}{M:MT}{L:List (Nat×Nat)}(h:H4 C s a w N M L)(d:Option Tmp){x:AV}{v:Value}(hx:Rep w N M x v []):H4 C (s.put d x) (a.put d v) w N M L:=by
 cases d with
 |none=>exact h
 |some d =>
  refine⟨h.df,?_,h.hp,h.nd,h.own,h.nlt,h.nup,h.ndn,h.fr,h.un,h.mv,h.mz⟩;simpa[AS.put,Act.put,Array.toList_setIfInBounds] using h.sl.set hx d
theorem Gr.refl(w:World)(N:NT)(M:MT):Gr w w N N M M:=⟨fun _ c _ _ h=>⟨c,h,rfl⟩,fun _ _ _=>rfl,fun _ _ h=>h,fun _ x h=>⟨x,h,fun m hm=>⟨m,hm,.inl rfl⟩⟩⟩
theorem H4.drew{C:Ctx}{s:AS}{a:Act}{w:World}{N:NT}{M:MT}{L:List (Nat×Nat)}(h:H4 C s a w N M L)(n:Nat):H4 C s a { w with drawn:=n } N M L:=by
 have g:Gr w { w with drawn:=n } N N M M:=⟨fun _ c _ _ h=>⟨c,h,rfl⟩,fun _ _ _=>rfl,fun _ _ h=>h,fun _ x h=>⟨x,h,fun m hm=>⟨m,hm,.inl rfl⟩⟩⟩;exact⟨h.df,h.sl.gr g (fun _ hb=>by cases hb),h.hp.gr g (fun _ _ _=>rfl) (fun _ _ _=>rfl),h.nd,h.own,h.nlt,h.nup,h.ndn,
  ⟨⟨h.fr.os,h.fr.tape,h.fr.output,h.fr.size,h.fr.block,h.fr.shp⟩,fun b o hn=>h.fr.nc b o hn⟩,h.un,h.mv,h.mz⟩
open Go Go.RowKit
inductive CK where
 |i (k:IntKind)
 |b
 |s
 deriving DecidableEq
inductive NO where
 |mv (x:Operand)
 |pick (c a b:Operand)
 |bin (b:BinOp) (x y:Operand)
 |eqb (neg:Bool) (x y:Operand)
 |eqs (ks:List CK) (neg:Bool) (x y:Operand)
 |un (u:UnOp) (x:Operand)
 |cvi (k:IntKind) (x:Operand)
 |fad (off:Nat) (x:Operand)
 |fld (off n:Nat) (ag:Bool) (x:Operand)
 |iad (sz:Nat) (x i:Operand)
 |idx (x i:Operand)
 |aad (sz len:Nat) (x i:Operand)
 |ixa (n len:Nat) (ag:Bool) (x i:Operand)
 |ext (x:Operand) (i:Nat)
 |slc (sz:Nat) (x:Operand) (lo hi:Option Operand)
 |slz (x:Operand) (lo hi mx:Operand)
 |sls (x:Operand) (lo hi:Option Operand)
 |len (x:Operand)
 |lns (x:Operand)
 |mnx (mx:Bool) (x y:Operand)
 |nck (x:Operand)
 |mkf (f:FuncId) (cap:List Operand)
 |bld (z:List AV) (parts:List (Nat×Nat×Operand))
 |ld (n:Nat) (ag:Bool) (x:Operand)
 |cbs (x:Operand)
 |al (z:List AV)
 |bx (n:Nat) (x:Operand)
 |bsl (sz n:Nat) (ag:Bool) (z:List AV) (parts:List (Nat×Operand))
 |mk (sz by_:Nat) (ag:Bool) (z:List AV) (l c:Operand)
 |st (n:Nat) (a v:Operand)
 |app (str:Bool) (sz by_:Nat) (s x:Operand)
 |csb (x:Operand)
 |cpy (x y:Operand)
 |dead
 |isn (neg:Bool) (x:Operand)
 |call (f:FuncId) (args:List Operand)
 |callv (f:Operand) (args:List Operand)
def cAV:Value→AV
 |.agg cs=>.agg (cs.toList.map .val)
 |v=>.val v
def AS.ev(s:AS):Operand→AV
 |.tmp t=>s.sl.getD t .any
 |.const v=>cAV v
 |.func f=>.fn f []
 |.global _=>.any
def wr(k:IntKind)(n:Int):Int :=
 match k with
 |.i64=>wrap64 n
 |.u8=>n % 256
 |.u32=>n % 4294967296
 |.u64=>n % 18446744073709551616
 |k=>k.wrap n
def AV.cell1:AV→Bool
 |.any=>false
 |.val (.agg _)=>false
 |.val (.tuple _)=>false
 |.val _=>true
 |.agg _=>false
 |.tup _=>false
 |_=>true
def AV.fits(n:Nat):AV→Bool
 |.agg cs=>cs.length==n&&cs.all AV.cell1
 |x=>n==1&&x.cell1
def sub(rows:List AV)(off len:Nat):List AV:=if off=0∧rows.length=len then rows else(rows.drop off).take len
def HP.at(hp:HP)(j ver:Nat):Option Blk :=
 match hp[j]? with
 |some (some b)=>if b.rows.length=ver then some b else none
 |_=>none
def HP.row(hp:HP)(j ver row:Nat):List AV :=
 match hp.at j ver with
 |some b=>(b.rows.getD row .any).cells
 |none=>[]
def A5V(b:BinOp):AV→AV→Prop
 |.val (.int k _),.val (.int k' c) =>
  match b with
  |.quo | .rem=>k=k'∧c≠0
  |.shl | .shr=>0≤c
  |_=>k=k'
 |.val (.string a),.val (.string c) =>
  match b with
  |.add=>a.size+c.size≤4611686018427387904
  |.eql | .neq | .lss | .leq | .gtr | .geq=>True
  |_=>False
 |_,_=>False
def A1M(b:BinOp):AV→AV→AV
 |.val (.int k a),.val (.int _ c) =>
  match b with
  |.add=>.val (.int k (wr k (a+c)))
  |.sub=>.val (.int k (wr k (a-c)))
  |.mul=>.val (.int k (wr k (a*c)))
  |.quo=>.val (.int k (wr k (a.tdiv c)))
  |.rem=>.val (.int k (a.tmod c))
  |.and=>.val (.int k (k.wrap (BitVec.ofInt k.bits a &&& BitVec.ofInt k.bits c).toNat))
  |.or=>.val (.int k (k.wrap (BitVec.ofInt k.bits a ||| BitVec.ofInt k.bits c).toNat))
  |.xor=>.val (.int k (k.wrap (BitVec.ofInt k.bits a ^^^ BitVec.ofInt k.bits c).toNat))
  |.andNot=>.val (.int k (k.wrap (BitVec.ofInt k.bits a &&& ~~~ BitVec.ofInt k.bits c).toNat))
  |.shl=>.val (.int k (k.wrap (a*2 ^ (min c.toNat k.bits))))
  |.shr=>.val (.int k (a.fdiv (2 ^ (min c.toNat k.bits))))
  |.eql=>.val (.bool (decide (a=c)))
  |.neq=>.val (.bool (!decide (a=c)))
  |.lss=>.val (.bool (decide (a<c)))
  |.leq=>.val (.bool (decide (a≤c)))
  |.gtr=>.val (.bool (decide (c<a)))
  |.geq=>.val (.bool (decide (c≤a)))
 |.val (.string a),.val (.string c) =>
  match b with
  |.add=>.val (.string (a++c))
  |.eql=>.val (.bool (decide (a=c)))
  |.neq=>.val (.bool (!decide (a=c)))
  |.lss=>.val (.bool (Op.bytesLess a.toList c.toList))
  |.leq=>.val (.bool (Op.bytesLess a.toList c.toList||decide (a=c)))
  |.gtr=>.val (.bool (!(Op.bytesLess a.toList c.toList||decide (a=c))))
  |.geq=>.val (.bool (!Op.bytesLess a.toList c.toList))
  |_=>.any
 |_,_=>.any
def eqC:List CK→List AV→Prop
 |[],[]=>True
 |.i k :: ks,.val (.int k' _) :: xs=>k=k'∧eqC ks xs
 |.b :: ks,.val (.bool _) :: xs=>eqC ks xs
 |.s :: ks,.val (.string _) :: xs=>eqC ks xs
 |_,_=>False
def eqV:List AV→List AV→Bool
 |.val (.int _ a) :: xs,.val (.int _ b) :: ys=>decide (a=b)&&eqV xs ys
 |.val (.bool a) :: xs,.val (.bool b) :: ys=>(a==b)&&eqV xs ys
 |.val (.string a) :: xs,.val (.string b) :: ys=>decide (a=b)&&eqV xs ys
 |_,_=>true
def bt(s:ByteArray)(i:Int):Int:=((s.data.toList.getD i.toNat 0).toNat:Int)
def bd(s:AS)(d:Int):Option Operand→Option Int
 |none=>some d
 |some x=>match s.ev x with
  |.val (.int _ n)=>some n
  |_=>none
def emp:AV:=.sl true 0 []
def B1m(s:AS)(x:AV)(lo hi:Option Operand):AV :=
 match x with
 |.sl false sz rows=>match bd s 0 lo,bd s rows.length hi with
  |some l,some h=>.sl false sz (sub rows l.toNat (h.toNat-l.toNat))
  |_,_=>.any
 |.ref j ver off len=>match bd s 0 lo,bd s len hi with
  |some l,some h=>.ref j ver (off+l.toNat) (h.toNat-l.toNat)
  |_,_=>.any
 |x=>x
def A3G(s:AS)(x:Operand):Prop:=match s.ev x with | .val (.int _ n)=>n=0|_=>False
def A8j(s:AS):Option Operand→Prop
 |none=>True
 |some x=>A3G s x
def B3l(s:AS)(sz:Nat)(x:AV)(lo hi:Option Operand):Prop :=
 match x with
 |.sl false sz' rows=>match bd s 0 lo,bd s rows.length hi with
  |some l,some h=>(sz'=sz∨rows=[])∧0≤l∧l≤h∧h≤rows.length
  |_,_=>False
 |.ref j ver _ len=>match bd s 0 lo,bd s len hi with
  |some l,some h=>(match s.hp.at j ver with|some b=>b.sz=sz|none=>False)∧0≤l∧l≤h∧h≤len
  |_,_=>False
 |.sl true _ []=>A8j s lo∧A8j s hi
 |.val (.slice none 0 0)=>A8j s lo∧A8j s hi
 |_=>False
def B09:AV→Prop
 |.sl _ _ _=>True
 |.ref _ _ _ _=>True
 |.val (.slice none 0 0)=>True
 |_=>False
def B3t:AV→AV
 |.sl _ _ rows=>.val (.int .i64 rows.length)
 |.ref _ _ _ len=>.val (.int .i64 len)
 |.val (.slice none 0 0)=>.val (.int .i64 0)
 |_=>.any
def A6C(s:AS):AV→Prop
 |.ptr j ver _ _=>(s.hp.at j ver).isSome
 |.ipt _=>True
 |_=>False
def cellsOf(s:AS):AV→List AV
 |.ptr j ver row off=>(s.hp.row j ver row).drop off
 |.ipt cs=>cs
 |_=>[]
def A3e:List AV→Option (List UInt8)
 |[]=>some []
 |.val (.int .u8 n) :: xs=>(A3e xs).map (UInt8.ofNat n.toNat :: ·)
 |_=>none
def A7c(s:AS):AV→Option (Nat×List AV)
 |.sl _ sz rows=>some (sz,rows)
 |.ref j ver off len=>(s.hp.at j ver).map fun b=>(b.sz,sub b.rows off len)
 |.val (.slice none 0 0)=>some (0,[])
 |_=>none
def lay(s:AS):List AV→List (Nat×Nat×Operand)→List AV
 |z,[]=>z
 |z,(off,n,x) :: ps=>lay s (z.take off++((s.ev x).cells++z.drop (off+n))) ps
def B1g(s:AS)(len:Nat):List (Nat×Nat×Operand)→Prop
 |[]=>True
 |(off,n,x) :: ps=>(s.ev x).fits n=true∧off+n≤len∧B1g s len ps
def apc(s:AS):NO→Prop
 |.mv _=>True
 |.pick c _ _=>match s.ev c with | .val (.bool _)=>True|_=>False
 |.bin b x y=>A5V b (s.ev x) (s.ev y)
 |.eqb _ x y=>match s.ev x,s.ev y with | .val (.bool _),.val (.bool _)=>True|_,_=>False
 |.eqs ks _ x y=>match s.ev x,s.ev y with | .agg xs,.agg ys=>eqC ks xs∧eqC ks ys|_,_=>False
 |.un u x=>match u,s.ev x with | .not,.val (.bool _)=>True | .neg,.val (.int _ _)=>True | .xor,.val (.int _ _)=>True|_,_=>False
 |.cvi _ x=>match s.ev x with | .val (.int _ _)=>True|_=>False
 |.fad _ x=>A6C s (s.ev x)
 |.fld off n _ x=>match s.ev x with | .agg cs=>off+n≤cs.length∧0<n|_=>False
 |.iad sz x i=>match s.ev x,s.ev i with
  |.sl false sz' rows,.val (.int _ n)=>(sz'=sz∨rows=[])∧0≤n∧n<rows.length
  |.ref j ver _ len,.val (.int _ n)=>(match s.hp.at j ver with|some b=>b.sz=sz|none=>False)∧0≤n∧n<len
  |_,_=>False
 |.idx x i=>match s.ev x,s.ev i with | .val (.string t),.val (.int _ n)=>0≤n∧n<t.size|_,_=>False
 |.aad _ len x i=>A6C s (s.ev x)∧match s.ev i with | .val (.int _ n)=>0≤n∧n<len|_=>False
 |.ixa n len _ x i=>match s.ev x,s.ev i with | .agg cs,.val (.int _ k)=>len*n≤cs.length∧0<n∧0≤k∧k<len|_,_=>False
 |.ext x i=>match s.ev x with | .tup vs=>i<vs.length|_=>False
 |.slc sz x lo hi=>B3l s sz (s.ev x) lo hi
 |.slz x lo hi mx=>B09 (s.ev x)∧A3G s lo∧A3G s hi∧A3G s mx
 |.sls x lo hi=>match s.ev x with
  |.val (.string t)=>match bd s 0 lo,bd s t.size hi with|some l,some h=>0≤l∧l≤h∧h≤t.size|_,_=>False
  |_=>False
 |.len x=>B09 (s.ev x)
 |.lns x=>match s.ev x with | .val (.string _)=>True|_=>False
 |.mnx _ x y=>match s.ev x,s.ev y with | .val (.int k _),.val (.int k' _)=>k=k'|_,_=>False
 |.nck x=>A6C s (s.ev x)
 |.mkf _ _=>True
 |.bld z ps=>B1g s z.length ps
 |.ld n ag x=>A6C s (s.ev x)∧n≤(cellsOf s (s.ev x)).length∧(ag=false→n=1)∧((cellsOf s (s.ev x)).take n).all AV.bare1=true
 |.cbs x=>match A7c s (s.ev x) with|some (_,rows)=>(A3e rows).isSome|none=>False
 |_=>False
def apv(s:AS):NO→AV
 |.mv x=>s.ev x
 |.pick c a b=>match s.ev c with | .val (.bool true)=>s.ev a | .val (.bool false)=>s.ev b|_=>.any
 |.bin b x y=>A1M b (s.ev x) (s.ev y)
 |.eqb neg x y=>match s.ev x,s.ev y with | .val (.bool a),.val (.bool c)=>.val (.bool (neg != (a==c)))|_,_=>.any
 |.eqs _ neg x y=>match s.ev x,s.ev y with | .agg xs,.agg ys=>.val (.bool (neg != eqV xs ys))|_,_=>.any
 |.un u x=>match u,s.ev x with
  |.not,.val (.bool b)=>.val (.bool !b)
  |.neg,.val (.int k n)=>.val (.int k (wr k (0-n)))
  |.xor,.val (.int k n)=>.val (.int k (k.wrap (BitVec.ofInt k.bits (if k.signed then -1 else k.max) ^^^ BitVec.ofInt k.bits n).toNat))
  |_,_=>.any
 |.cvi k x=>match s.ev x with | .val (.int _ n)=>.val (.int k (wr k n))|_=>.any
 |.fad off x=>match s.ev x with | .ptr j ver row o=>.ptr j ver row (o+off) | .ipt cs=>.ipt (cs.drop off)|_=>.any
 |.fld off n ag x=>match s.ev x with | .agg cs=>if ag then .agg ((cs.drop off).take n) else cs.getD off .any|_=>.any
 |.iad _ x i=>match s.ev x,s.ev i with
  |.sl false _ rows,.val (.int _ n)=>.ipt (rows.getD n.toNat .any).cells
  |.ref j ver off _,.val (.int _ n)=>.ptr j ver (off+n.toNat) 0
  |_,_=>.any
 |.idx x i=>match s.ev x,s.ev i with | .val (.string t),.val (.int _ n)=>.val (.int .u8 (bt t n))|_,_=>.any
 |.aad sz _ x i=>match s.ev x,s.ev i with
  |.ptr j ver row o,.val (.int _ n)=>.ptr j ver row (o+n.toNat*sz)
  |.ipt cs,.val (.int _ n)=>.ipt (cs.drop (n.toNat*sz))
  |_,_=>.any
 |.ixa n _ ag x i=>match s.ev x,s.ev i with
  |.agg cs,.val (.int _ k)=>if ag then .agg ((cs.drop (k.toNat*n)).take n) else cs.getD (k.toNat*n) .any
  |_,_=>.any
 |.ext x i=>match s.ev x with | .tup vs=>vs.getD i .any|_=>.any
 |.slc _ x lo hi=>B1m s (s.ev x) lo hi
 |.slz _ _ _ _=>emp
 |.sls x lo hi=>match s.ev x with
  |.val (.string t)=>match bd s 0 lo,bd s t.size hi with|some l,some h=>.val (.string (t.extract l.toNat h.toNat))|_,_=>.any
  |_=>.any
 |.len x=>B3t (s.ev x)
 |.lns x=>match s.ev x with | .val (.string t)=>.val (.int .i64 t.size)|_=>.any
 |.mnx mx x y=>match s.ev x,s.ev y with | .val (.int k a),.val (.int _ b)=>.val (.int k (if mx then(if b>a then b else a) else(if b<a then b else a)))|_,_=>.any
 |.nck x=>s.ev x
 |.mkf f cap=>.fn f (cap.map s.ev)
 |.bld z ps=>.agg (lay s z ps)
 |.ld n ag x=>if ag then .agg ((cellsOf s (s.ev x)).take n) else(cellsOf s (s.ev x)).getD 0 .any
 |.cbs x=>match A7c s (s.ev x) with|some (_,rows)=>(match A3e rows with|some l=>.val (.string ⟨l.toArray⟩)|none=>.any)|none=>.any
 |_=>.any
def NO.looks:NO→Bool
 |.ld .. | .cbs .. => true
 |_=>false
def NO.quiet:NO→Bool
 |.st .. | .app .. | .cpy .. | .callv .. => false
 |_=>true
def NO.reads:NO→Bool
 |.al _ | .bx .. | .bsl .. | .mk .. | .st .. | .app .. | .csb _ | .cpy .. | .dead | .isn .. | .call .. | .callv .. => false
 |_=>true
open Go Go.RowKit
theorem F5.vals(w:World)(N:NT)(M:MT):∀ vs:List Value,F5 w N M (vs.map .val) vs []
 |[]=>.nil
 |v :: vs=>.cons (L1:=[]) (L2:=[]) (.val v) (F5.vals w N M vs)
theorem Rep.cAV(w:World)(N:NT)(M:MT)(v:Value):Rep w N M (cAV v) v []:=by
 cases v with
 |agg cs=>obtain⟨cs⟩:=cs;exact .agg (F5.vals w N M cs)
 |_=>exact .val _
theorem A6N(a:Array Value)(i:Nat)(d:Value):a.toList.getD i d=a.getD i d:=by
 simp[B3,W5]
section
variable {C:Ctx} {s:AS} {a:Act} {w:World} {N:NT} {M:MT} {L:List (Nat×Nat)}
theorem H4.ev(h:H4 C s a w N M L)(x:Operand):Rep w N M (s.ev x) (a.eval x) []:=by
 cases x with
 |tmp t=>have:=h.sl.get t;rw[A6N] at this;exact this
 |const v=>exact .cAV w N M v
 |func f=>exact .fn .nil
 |global g=>exact .any _
theorem H4.evv(h:H4 C s a w N M L){x:Operand}{u:Value}(e:s.ev x=.val u):a.eval x=u:=by
 have:=h.ev x;rw[e] at this;cases this;rfl
theorem H4.blk(h:H4 C s a w N M L){j ver:Nat}{b:Blk}(e:s.hp.at j ver=some b):b.rows.length=ver∧∃ m L1,M j=some (some m)∧BR w N M b m L1∧(∀ p∈H0 m L1,p∈L)∧s.hp[j]? = some (some b):=by
 unfold HP.at at e;split at e
 ·rename_i b' hj;split at e
  ·rename_i hl;cases e;obtain⟨p,q,A,B,m,L1,h1,h2,h3,h4,h5,h6,h7⟩:=h.hp.focus hj;exact⟨hl,m,L1,by simpa using h5,h6,fun x hx=>by rw[h3];simp[hx],hj⟩
  ·cases e
 ·cases e
end
theorem B2i(k:IntKind)(n:Int):wr k n=k.wrap n:=by
 cases k<;>simp[wr,IntKind.wrap,IntKind.bits,IntKind.signed,wrap64]<;>omega
end Go.Proofs.YtkmhopbmpeiofaaGreat.Nx
