/- Each function of the program that is reached computes the datum printed here: no condition beyond the arguments that its contract names. -/
import Derived.Test.YtkmhopbmpeiofaaNxq
import Derived.Test.YtkmhopbmpeiofaaChecked
import Derived.KernelRfl
import Derived.Shelf.Spec.SlicesInsertGrow
import Derived.Lib.Strings
import Derived.Lib.Slices
import Derived.Lib.Walk
import Derived.Lib.Bytealg
namespace Go.Proofs.Ytkmhopbmpeiofaa.Nx
open Go Go.RowKit Go.Lib
set_option linter.unusedVariables false
set_option linter.unusedSimpArgs false
theorem run_copyZ {P : Program} (w : World) (dT sT ty elem : TypeId) (b o dLen dCap : Nat) (a : Addr) (sLen sCap : Nat) (cs : List Value) (sz n : Nat)
  (hu : P.underlying dT = some (.slice elem)) (hs : (P.info? elem).map (·.size) = some sz) (hn : n = Nat.min sLen dLen) (hl : cs.length = n * sz)
  (hsrc : ∀ j v,cs[j]? = some v → w.cell? (a.add j) = some v) (hc : ∀ j,j < cs.length → (w.cell? ⟨b,o + j,none⟩).isSome = true) (hf : ∀ j,j < cs.length → w.frozen? ⟨b,o + j,none⟩ = false) (h1 : ∀ v ∈ cs,v.oneCell' = true) :
  (Builtin.copy_ #[dT,sT] ty #[.slice (some ⟨b,o,none⟩) dLen dCap,.slice (some a) sLen sCap]).run P w = .ok (goInt n) (w.setCells b o cs) := by
 have hl' := run_loadCells_list (P := P) w a cs hsrc
 have hst := run_storeCells_cells (P := P) b o cs 0 w (by simpa using hc) (by simpa using hf) h1
 cases hq : P.info? elem with
 | none => simp [hq] at hs
 | some i =>
  have hi : i.size = sz := by simpa [hq] using hs
  simp [Builtin.copy_,run_underlying hu,Builtin.lenOf,Builtin.firstCells,sizeOf,typeInfo,hq,hi,← hn,← hl,hl',hst]
def RoadA (P : Program) (f : FuncId) : Prop := ∀ (b off n c vb voff vc : Nat) (vs : List Value) (w : World),n + 1 ≤ c → n ≤ 1000000000 → vs.length = 2 →
 (∀ j,j < 2 → (w.cell? ⟨b,off + n * 2 + j,none⟩).isSome = true) → (∀ j,j < 2 → w.frozen? ⟨b,off + n * 2 + j,none⟩ = false) →
 (∀ j v,vs[j]? = some v → w.cell? ⟨vb,voff + j,none⟩ = some v) → (∀ v ∈ vs,v.oneCell' = true) →
 Calls P f #[.slice (some ⟨b,off,none⟩) n c,.int .i64 n,.slice (some ⟨vb,voff,none⟩) 1 vc] w fun e w' =>
  e = .returned (.slice (some ⟨b,off,none⟩) (n + 1) c) ∧ w' = w.setCells b (off + n * 2) vs
def RoadB (P : Program) (f : FuncId) (E : TypeId) (zc : Array Value) : Prop := ∀ (base : Option Addr) (n c vb voff vc : Nat) (cs vs : List Value) (w : World),n ≤ c → c < n + 1 → n ≤ 1000000000 →
 cs.length = n * 2 → vs.length = 2 → (base = none → n = 0) → (∀ a,base = some a → ∀ j v,cs[j]? = some v → w.cell? (a.add j) = some v) →
 (∀ j v,vs[j]? = some v → w.cell? ⟨vb,voff + j,none⟩ = some v) → (∀ v ∈ vs,v.oneCell' = true) →
 Calls P f #[.slice base n c,.int .i64 n,.slice (some ⟨vb,voff,none⟩) 1 vc] w fun e w' =>
  e = .returned (.slice (some ⟨w.heap.size,0,none⟩) (n + 1) (grownCap w (n + 1) c E)) ∧
  w' = w.drew.alloc (.cells ((cs ++ vs).toArray ++ Builtin.zeroCells zc (grownCap w (n + 1) c E - (n + 1))) E)
def RoadC (P : Program) (f : FuncId) : Prop := ∀ (b off n c i vb voff vc : Nat) (cs vs : List Value) (w : World),i < n → n + 1 ≤ c → n ≤ 1000000000 → vb ≠ b →
 cs.length = n * 2 → vs.length = 2 → (∀ j v,cs[j]? = some v → w.cell? ⟨b,off + j,none⟩ = some v) → (∀ j,j < (n + 1) * 2 → (w.cell? ⟨b,off + j,none⟩).isSome = true) → (∀ j,j < (n + 1) * 2 → w.frozen? ⟨b,off + j,none⟩ = false) →
 (∀ j v,vs[j]? = some v → w.cell? ⟨vb,voff + j,none⟩ = some v) → (∀ v ∈ cs,v.oneCell' = true) → (∀ v ∈ vs,v.oneCell' = true) →
 ∀ (tA tB : TypeId) (kA kB : Nat),w.shape? vb = some (tA,kA) → w.shape? b = some (tB,kB) → kB ≠ 0 → w.frozen? ⟨vb,voff,none⟩ = false → w.frozen? ⟨vb,kA,none⟩ = false →
 Calls P f #[.slice (some ⟨b,off,none⟩) n c,.int .i64 i,.slice (some ⟨vb,voff,none⟩) 1 vc] w fun e w' =>
  e = .returned (.slice (some ⟨b,off,none⟩) (n + 1) c) ∧ w' = (w.drew.setCells b (off + (i + 1) * 2) (cs.drop (i * 2))).setCells b (off + i * 2) vs
def RoadD (P : Program) (f : FuncId) (E : TypeId) (zc : Array Value) : Prop := ∀ (b off n c i vb voff vc : Nat) (cs vs : List Value) (w : World),i < n → n ≤ c → c < n + 1 → n ≤ 1000000000 →
 cs.length = n * 2 → vs.length = 2 → (∀ j v,cs[j]? = some v → w.cell? ⟨b,off + j,none⟩ = some v) →
 (∀ j v,vs[j]? = some v → w.cell? ⟨vb,voff + j,none⟩ = some v) → (∀ v ∈ cs,v.oneCell' = true) → (∀ v ∈ vs,v.oneCell' = true) →
 Calls P f #[.slice (some ⟨b,off,none⟩) n c,.int .i64 i,.slice (some ⟨vb,voff,none⟩) 1 vc] w fun e w' =>
  e = .returned (.slice (some ⟨w.heap.size,0,none⟩) (n + 1) (grownCap w (n + 1) c E)) ∧
  w' = (((w.alloc (.cells ((cs.take (i * 2)).toArray ++ Builtin.zeroCells zc (n + 1 - i) ++ Builtin.zeroCells zc (grownCap w (n + 1) c E - (n + 1))) E)).drew.setCells w.heap.size (i * 2) vs).drew).setCells w.heap.size ((i + 1) * 2) (cs.drop (i * 2))
section
variable {w w' : World} {N N' : NT} {M M' : MT}
theorem rep_one {x : AV} {v : Value} {L : List Nat} (r : Rep w N M x v L) (h1 : x.cell1 = true) : v.oneCell' = true := by
 cases r with
 | val u => cases v <;> first | rfl | cases h1
 | any => cases h1
 | agg => cases h1
 | tup => cases h1
 | _ => rfl
theorem repL_one : ∀ {xs : List AV} {vs : List Value} {L : List Nat},RepL w N M xs vs L → (∀ x ∈ xs,x.cell1 = true) → ∀ v ∈ vs,v.oneCell' = true
 | [],_,_,h,_ => by cases h; intro v hv; cases hv
 | x :: xs,_,_,h,h1 => by
  cases h with
  | cons hx ht =>
   intro v hv
   rcases List.mem_cons.1 hv with rfl | hv
   ·exact rep_one hx (h1 x (by simp))
   ·exact repL_one ht (fun y hy => h1 y (by simp [hy])) v hv
theorem repL_uncons {x : AV} {xs : List AV} {us : List Value} {L : List Nat} (h : RepL w N M (x :: xs) us L) : ∃ v vs L1 L2,us = v :: vs ∧ L = L1 ++ L2 ∧ Rep w N M x v L1 ∧ RepL w N M xs vs L2 := by
 cases h with
 | cons h1 h2 => exact ⟨_,_,_,_,rfl,rfl,h1,h2⟩
theorem rep_refI {j ver off len : Nat} {v : Value} {L : List Nat} (h : Rep w N M (.ref j ver off len) v L) : ∃ a cap mm,v = .slice a len cap ∧ M j = some mm ∧ ∀ m,mm = some m → ver ≤ m.len ∧ (ver = m.len → refOk w m off len a cap) := by
 cases h with
 | ref mm h1 h2 => exact ⟨_,_,mm,rfl,h1,h2⟩
theorem encs_len (T : Ty) (X : List (Den T)) : ((X.map (enc true T)).flatMap AV.cells).length = X.length * T.sz := by
 rw [flat_len (sz := T.sz) (fun y hy => ?_),List.length_map]
 obtain ⟨q,_,rfl⟩ := List.mem_map.1 hy
 rw [enc_cells,cls_len]
theorem encs_one (T : Ty) (X : List (Den T)) : ∀ x ∈ (X.map (enc true T)).flatMap AV.cells,x.cell1 = true := fun x hx => by
 obtain ⟨y,hy,hx⟩ := List.mem_flatMap.1 hx
 obtain ⟨q,_,rfl⟩ := List.mem_map.1 hy
 rw [enc_cells] at hx
 exact (cls_cell1 true T q x hx).1
theorem encs_app (T : Ty) (X Y : List (Den T)) : ((X ++ Y).map (enc true T)).flatMap AV.cells = (X.map (enc true T)).flatMap AV.cells ++ (Y.map (enc true T)).flatMap AV.cells := by
 rw [List.map_append,List.flatMap_append]
theorem room.shape {z b n : Nat} (h : room w z b n) : ∃ e k,w.shape? b = some (e,k) ∧ n ≤ k ∧ (z ≠ 1 → w.frozen? ⟨b,k,none⟩ = false) := by
 obtain ⟨c,e,fz,h1,h2,h3⟩ := h
 refine ⟨e,c.size,by simp [World.shape?,h1],h2,fun hz => ?_⟩
 obtain ⟨lo,hi⟩ := fz
 rcases h3.2 with h | h
 ·exact absurd h hz
 ·have h : hi ≤ c.size := h
  simp only [World.frozen?,h1]
  simp; omega
theorem ins_back {m0 mn : Cn} {L : List (Nat × Nat)} {T : Ty} {X V Z : List (Den T)} {cap : Nat} {zs : List Value} {LZ : List Nat}
  (henv : Env w N M [some ⟨T.sz,0,X.map (enc true T),0⟩,some ⟨T.sz,0,V.map (enc true T),0⟩] L)
  (hm0 : M 0 = some (some m0)) (hlen0 : m0.len < Z.length)
  (hz : RepL w N M ((Z.map (enc true T)).flatMap AV.cells) zs LZ) (hfr : FrN N (L.map Prod.fst) w w') (hs : ∀ b ∈ LZ,Same w w' b)
  (hmsz : mn.sz = T.sz) (hml : mn.len = Z.length) (hmf : mn.fr = 0) (hmv : mn.virt = false)
  (hcell : ∀ j,j < zs.length → w'.cell? ⟨mn.b,mn.o + j,none⟩ = zs[j]?) (hroom : room w' T.sz mn.b (mn.o + cap * T.sz)) (hcap : Z.length ≤ cap)
  (hnb : mn.b < w'.heap.size) (hNb : ∀ o,N mn.b o → False) (hnd : (mn.b :: LZ).Nodup) (hin : ∀ b ∈ LZ,(b,0) ∈ L) (hmb : w.heap.size ≤ mn.b ∨ mn.b ∈ L.map Prod.fst) :
  ∃ N' M' L',BackM w N M L [some (.arr T true Z),none,none] 1 (.own 0) (.slice (some ⟨mn.b,mn.o,none⟩) Z.length cap) w' N' M' L' := by
 let M' : MT := fun k => if k = 0 then some (some mn) else if k ≤ 2 then some none else none
 have g : Gr w w' N N M M' := ⟨hfr.shp,hfr.nc,fun _ _ h => h,fun j x hx => by
  by_cases hj : j = 0
  ·subst hj
   rw [hm0] at hx
   cases hx
   exact ⟨some mn,by simp [M'],fun m' e => by cases e; exact ⟨m0,rfl,.inr (by omega)⟩⟩
  ·by_cases hj2 : j ≤ 2
   ·exact ⟨none,by simp [M',hj,hj2],fun m' e => by cases e⟩
   ·rw [henv.un j (by simp; omega)] at hx
    cases hx⟩
 have hz' := hz.gr g hs
 have hbr : BR w' N M' ⟨T.sz,0,Z.map (enc true T),0⟩ mn LZ := by
  refine ⟨by rw [hml]; simp,hmsz,by rw [hmf]; exact Nat.zero_le _,fun y hy => ?_,RepC.of_values hz' hcell,fun e => (by rw [hmv] at e; cases e),fun _ => ?_,Nat.zero_le _,fun i hi => absurd hi (by simp),fun _ => hmf⟩
  ·obtain ⟨q,_,rfl⟩ := List.mem_map.1 hy
   rw [enc_cells,cls_len]
  ·obtain ⟨c,e,fz,h1,h2,h3⟩ := hroom
   rw [hmsz,hml]
   exact ⟨c,e,fz,h1,Nat.le_trans (Nat.add_le_add_left (Nat.mul_le_mul_right _ hcap) _) h2,h3⟩
 have hown : ownOf mn LZ = (mn.b,0) :: LZ.map (fun b => (b,0)) := by simp [ownOf,hmv,hmf]
 have hfst : (ownOf mn LZ).map Prod.fst = mn.b :: LZ := by rw [hown]; simp [Function.comp_def]
 refine ⟨N,M',ownOf mn LZ ++ [],?_,⟨?_,?_,?_,?_,?_⟩,hfr,fun _ _ h => h,fun _ _ h => .inl h,fun p hp => ?_,fun k m m0' h1 h2 => ?_⟩
 ·have e : av [some (TB.arr T true Z),none,none] (TV.own 0) = .ref 0 Z.length 0 Z.length := by simp [av,hpk,TB.rlen]
  rw [e]
  refine .ref (some mn) (by simp [M']) fun m e => ?_
  cases e
  exact ⟨by omega,fun _ => ⟨by omega,.inr ⟨hmv,by simp,hcap,by rw [hmsz]; simpa using hroom⟩⟩⟩
 ·exact .live (by simp [M']) hbr (.dead (by simp [M']) (.dead (by simp [M']) (.nil _)))
 ·rw [List.append_nil,hfst]; exact hnd
 ·intro p hp
  rw [List.append_nil,hown] at hp
  rcases List.mem_cons.1 hp with rfl | hp
  ·exact ⟨hnb,fun o h => absurd (hNb o h) id⟩
  ·obtain ⟨b,hb,rfl⟩ := List.mem_map.1 hp
   have := henv.own _ (hin b hb)
   exact ⟨Nat.lt_of_lt_of_le this.1 hfr.size,this.2⟩
 ·exact fun b o h => Nat.lt_of_lt_of_le (henv.nlt b o h) hfr.size
 ·intro k hk
  have hk : 3 ≤ k := hk
  simp [M',show k ≠ 0 from by omega,show ¬ k ≤ 2 from by omega]
 ·rw [List.append_nil,hown] at hp
  rcases List.mem_cons.1 hp with rfl | hp
  ·exact hmb
  ·obtain ⟨b,hb,rfl⟩ := List.mem_map.1 hp
   exact .inr (List.mem_map_of_mem (f := Prod.fst) (hin b hb))
 ·exfalso
  simp only [M'] at h1
  rw [if_neg (by omega)] at h1
  split at h1 <;> cases h1
end
end Go.Proofs.Ytkmhopbmpeiofaa.Nx
namespace Go.Proofs.Ytkmhopbmpeiofaa.Nx
open Go Go.RowKit Go.Lib
set_option linter.unusedVariables false
set_option linter.unusedSimpArgs false
theorem fr_cells (w : World) (b o : Nat) (vs : List Value) : Fr [b] w (w.setCells b o vs) := by
 obtain ⟨h1,h2,h3,h4,h5,h6⟩ := setCells_heap b vs o w
 exact ⟨h4,h5,h6,by rw [h1]; exact Nat.le_refl _,fun k _ hk => h2 k (by simpa using hk),h3⟩
theorem fr_drew (X : List Nat) (w : World) : Fr X w w.drew := ⟨rfl,rfl,rfl,Nat.le_refl _,fun _ _ _ => rfl,fun _ c _ _ h => ⟨c,h,rfl⟩⟩
def insF {α : Type} (X : List α) (i : Int) (V : List α) : List α := X.take i.toNat ++ V ++ X.drop i.toNat
theorem insF_len {α : Type} {X : List α} {i : Int} {V : List α} (h0 : 0 ≤ i) (h1 : i ≤ X.length) : (insF X i V).length = X.length + V.length := by
 unfold insF
 simp only [List.length_append,List.length_take,List.length_drop]
 omega
theorem ins_CM {P : Program} {f : FuncId} {E : TypeId} {zc : Array Value} (hg : Good P f) (hzc : zc.size = 2) (rA : RoadA P f) (rB : RoadB P f E zc) (rC : RoadC P f) (rD : RoadD P f E zc) (T : Ty) (hT : T.sz = 2) :
  CMok P ⟨f,.pr (.mo 0 T) (.pr (.d 1 (.i .i64)) (.mo 2 T)),.t (.sl T),fun x => bif (decide (0 ≤ x.2.1) && decide (x.2.1 ≤ (x.1.length : Int))) && (decide (x.1.length ≤ 1000000000) && Nat.beq x.2.2.length 1) then some (insF x.1 x.2.1 x.2.2,((),((),()))) else none⟩ := by
 rintro ⟨X,i,V⟩ r hr
 change List (Den T) at X; change Int at i; change List (Den T) at V
 have hr : (bif (decide (0 ≤ i) && decide (i ≤ (X.length : Int))) && (decide (X.length ≤ 1000000000) && Nat.beq V.length 1) then some (insF X i V,((),((),()))) else none : Option (List (Den T) × (Unit × (Unit × Unit)))) = some r := hr
 cases hb : (decide (0 ≤ i) && decide (i ≤ (X.length : Int))) && (decide (X.length ≤ 1000000000) && Nat.beq V.length 1) with
 | false => rw [hb] at hr; cases hr
 | true =>
 rw [hb] at hr
 have hr : some (insF X i V,((),((),()))) = some r := hr
 obtain rfl := (Option.some.inj hr).symm
 clear hr
 simp only [Bool.and_eq_true,decide_eq_true_eq,Nat.beq_eq] at hb
 obtain ⟨⟨hi0,hi1⟩,hn,hV⟩ := hb
 refine ⟨rfl,hg,fun w N M L us henv hrep => ?_⟩
 have henv : Env w N M [some ⟨T.sz,0,X.map (enc true T),0⟩,some ⟨T.sz,0,V.map (enc true T),0⟩] L := henv
 have hgoal : ∀ Q : Prop,Q → Q := fun _ h => h
 obtain ⟨k,hk⟩ : ∃ k : Nat,k = i.toNat := ⟨_,rfl⟩
 have hik : i = (k : Int) := by omega
 have hkn : k ≤ X.length := by omega
 have hh := henv.hr
 cases hh with
 | @live _ _ m0 L0 _ L' hm0 hb0 hh =>
 cases hh with
 | @live _ _ m1 L1 _ L'' hm1 hb1 hh =>
 cases hh
 have hv1 : m1.virt = false := by
  cases hv : m1.virt with
  | false => rfl
  | true =>
   have := hb1.vt hv
   have hl : (V.map (enc true T)).length = 0 := by
    have h : V.map (enc true T) = [] := this
    rw [h]; rfl
   rw [List.length_map] at hl; omega
 have hf1 : m1.fr = 0 := hb1.f0 rfl
 have hf0 : m0.fr = 0 := hb0.f0 rfl
 have hl0 : m0.len = X.length := by rw [hb0.len]; simp
 have hl1 : m1.len = 1 := by rw [hb1.len]; simp [hV]
 have hz0 : m0.sz = 2 := by rw [hb0.sz]; exact hT
 have hz1 : m1.sz = 2 := by rw [hb1.sz]; exact hT
 have ho1 : ownOf m1 L1 = (m1.b,0) :: L1.map (fun b => (b,0)) := by simp [ownOf,hv1,hf1]
 have hrep : RepL w N M [.ref 0 X.length 0 X.length,.val (.int .i64 i),.ref 1 V.length 0 V.length] us [] := hrep
 obtain ⟨u0,us1,K0,K1,rfl,e0,r0,hrep⟩ := repL_uncons hrep
 obtain ⟨u1,us2,K2,K3,rfl,e1,r1,hrep⟩ := repL_uncons hrep
 obtain ⟨u2,us3,K4,K5,rfl,e2,r2,hrep⟩ := repL_uncons hrep
 obtain rfl : us3 = [] := by cases hrep; rfl
 obtain ⟨a0,c0,mm0,rfl,hM0,q0⟩ := rep_refI r0
 obtain ⟨a2,c2,mm2,rfl,hM2,q2⟩ := rep_refI r2
 obtain rfl : u1 = .int .i64 i := by cases r1; rfl
 rw [hm0] at hM0; cases hM0
 rw [hm1] at hM2; cases hM2
 obtain ⟨_,q0⟩ := q0 m0 rfl
 obtain ⟨_,q2⟩ := q2 m1 rfl
 obtain ⟨_,q2⟩ := q2 (by omega)
 obtain ⟨_,q0⟩ := q0 (by omega)
 rcases q2 with ⟨h,_⟩ | ⟨_,rfl,_,hroom1⟩
 ·omega
 rw [hV,hz1,Nat.zero_mul,Nat.add_zero]
 have hrep0 : RepC w N M m0.b m0.o ((X.map (enc true T)).flatMap AV.cells) L0 := hb0.rep
 rw [← List.take_append_drop k X,encs_app] at hrep0
 obtain ⟨LA,LB,rfl,hA,hB⟩ := hrep0.append
 obtain ⟨cA,rA',lA,gA⟩ := hA.values
 obtain ⟨cB,rB',lB,gB⟩ := hB.values
 obtain ⟨cV,rV',lV,gV⟩ := hb1.rep.values
 have rV' : RepL w N M ((V.map (enc true T)).flatMap AV.cells) cV L1 := rV'
 have lV : cV.length = ((V.map (enc true T)).flatMap AV.cells).length := lV
 have gV : ∀ i,i < ((V.map (enc true T)).flatMap AV.cells).length → w.cell? ⟨m1.b,m1.o + i,none⟩ = cV[i]? := gV
 have eA : (((X.take k).map (enc true T)).flatMap AV.cells).length = k * 2 := by rw [encs_len,hT,List.length_take,Nat.min_eq_left hkn]
 have eB : (((X.drop k).map (enc true T)).flatMap AV.cells).length = (X.length - k) * 2 := by rw [encs_len,hT,List.length_drop]
 have eV : ((V.map (enc true T)).flatMap AV.cells).length = 2 := by rw [encs_len,hT,hV]
 rw [eA] at lA gA gB
 rw [eB] at lB gB
 rw [eV] at lV gV
 have oA := repL_one rA' (encs_one T _)
 have oB := repL_one rB' (encs_one T _)
 have oV := repL_one rV' (encs_one T _)
 have hzs : RepL w N M (((insF X i V).map (enc true T)).flatMap AV.cells) (cA ++ cV ++ cB) (LA ++ L1 ++ LB) := by
  unfold insF
  rw [← hk,encs_app,encs_app]
  exact RepL.join (RepL.join rA' rV') rB'
 have hcs : ∀ j v,(cA ++ cB)[j]? = some v → w.cell? ⟨m0.b,m0.o + j,none⟩ = some v := fun j v hj => by
  rw [List.getElem?_append] at hj
  split at hj
  ·rw [gA j (by omega)]; exact hj
  ·have hjl := (List.getElem?_eq_some_iff.1 hj).1
   have := gB (j - cA.length) (by omega)
   rw [← hj,← this]; congr 2; omega
 have hcl : (cA ++ cB).length = X.length * 2 := by rw [List.length_append,lA,lB]; omega
 have hvs : ∀ j v,cV[j]? = some v → w.cell? ⟨m1.b,m1.o + j,none⟩ = some v := fun j v hj => by
  rw [gV j (by have := (List.getElem?_eq_some_iff.1 hj).1; omega)]; exact hj
 have htk : (cA ++ cB).take (k * 2) = cA := by rw [← lA,List.take_left]
 have hdr : (cA ++ cB).drop (k * 2) = cB := by rw [← lA,List.drop_left]
 have hoc : ∀ v ∈ cA ++ cB,v.oneCell' = true := fun v hv => by
  rcases List.mem_append.1 hv with h | h
  ·exact oA v h
  ·exact oB v h
 have hNo : ∀ b,(b,0) ∈ ownOf m0 (LA ++ LB) ++ (ownOf m1 L1 ++ []) → b < w.heap.size ∧ ∀ o,N b o → False := fun b hb => by
  obtain ⟨h1,h2⟩ := henv.own (b,0) hb
  exact ⟨h1,fun o ho => absurd (h2 o ho) (Nat.not_lt_zero o)⟩
 have hin0 : ∀ b ∈ LA ++ LB,(b,0) ∈ ownOf m0 (LA ++ LB) := fun b hb => by
  cases hv : m0.virt with
  | true =>
   have h := hb0.vt hv
   have h : X.map (enc true T) = [] := h
   have hr := hb0.rep
   have hr : RepC w N M m0.b m0.o ((X.map (enc true T)).flatMap AV.cells) (LA ++ LB) := hr
   rw [h] at hr
   generalize LA ++ LB = LZ at hr hb
   cases hr
   cases hb
  | false => simp only [ownOf,hv,Bool.false_eq_true,if_false]; exact List.mem_cons_of_mem _ (List.mem_map.2 ⟨b,hb,rfl⟩)
 have hin1 : ∀ b ∈ L1,(b,0) ∈ ownOf m1 L1 := fun b hb => by rw [ho1]; exact List.mem_cons_of_mem _ (List.mem_map.2 ⟨b,hb,rfl⟩)
 have hin : ∀ b ∈ LA ++ L1 ++ LB,(b,0) ∈ ownOf m0 (LA ++ LB) ++ (ownOf m1 L1 ++ []) := fun b hb => by
  rcases List.mem_append.1 hb with hb | hb
  ·rcases List.mem_append.1 hb with hb | hb
   ·exact List.mem_append_left _ (hin0 b (List.mem_append_left _ hb))
   ·exact List.mem_append_right _ (List.mem_append_left _ (hin1 b hb))
  ·exact List.mem_append_left _ (hin0 b (List.mem_append_right _ hb))
 have hin' : (m1.b,0) ∈ ownOf m0 (LA ++ LB) ++ (ownOf m1 L1 ++ []) := by rw [ho1]; simp
 have hperm : (LA ++ L1 ++ LB).Perm (LA ++ LB ++ L1) := by
  rw [List.append_assoc,List.append_assoc]
  exact List.perm_append_comm.append_left LA
 have hndl : (LA ++ L1 ++ LB).Nodup := by
  refine hperm.nodup_iff.2 ?_
  have hnd := henv.nd
  rw [List.append_nil,List.map_append,List.nodup_append] at hnd
  obtain ⟨h1,h2,h3⟩ := hnd
  have e1 : (ownOf m1 L1).map Prod.fst = m1.b :: L1 := by rw [ho1]; simp [Function.comp_def]
  rw [e1] at h2 h3
  refine List.nodup_append.2 ⟨?_,(List.nodup_cons.1 h2).2,fun a ha b hb => h3 a (List.mem_map.2 ⟨_,hin0 a ha,rfl⟩) b (List.mem_cons_of_mem _ hb)⟩
  cases hv : m0.virt with
  | true =>
   have h : X.map (enc true T) = [] := hb0.vt hv
   have hr : RepC w N M m0.b m0.o ((X.map (enc true T)).flatMap AV.cells) (LA ++ LB) := hb0.rep
   rw [h] at hr
   generalize LA ++ LB = LZ at hr
   cases hr
   exact List.nodup_nil
  | false =>
   simp only [ownOf,hv,Bool.false_eq_true,if_false,List.map_cons,List.map_map,Function.comp_def,List.map_id'] at h1
   exact (List.nodup_cons.1 h1).2
 have hlz : (insF X i V).length = X.length + 1 := by rw [insF_len hi0 hi1,hV]
 have hzl : (cA ++ cV ++ cB).length = (X.length + 1) * 2 := by rw [List.length_append,List.length_append,lA,lB,lV]; omega
 have fin : ∀ (x o c' : Nat) (w' : World),Fr [x] w w' → (∀ o,N x o → False) → (w.heap.size ≤ x ∨ (x,0) ∈ ownOf m0 (LA ++ LB) ++ (ownOf m1 L1 ++ []) ∧ x ∉ LA ++ L1 ++ LB) → x < w'.heap.size → room w' 2 x (o + c' * 2) → X.length + 1 ≤ c' →
   (∀ j,j < (cA ++ cV ++ cB).length → w'.cell? ⟨x,o + j,none⟩ = (cA ++ cV ++ cB)[j]?) →
   ∃ v,Ending.returned (.slice (some ⟨x,o,none⟩) (X.length + 1) c') = .returned v ∧ ∃ N' M' L',BackM w N M (ownOf m0 (LA ++ LB) ++ (ownOf m1 L1 ++ [])) [some (.arr T true (insF X i V)),none,none] 1 (.own 0) v w' N' M' L' := by
  intro x o c' w' hfr hNx hx hxs hroom hc' hcell
  have hxm : w.heap.size ≤ x ∨ x ∈ (ownOf m0 (LA ++ LB) ++ (ownOf m1 L1 ++ [])).map Prod.fst := by
   rcases hx with h | ⟨h,_⟩
   ·exact .inl h
   ·exact .inr (List.mem_map.2 ⟨_,h,rfl⟩)
  have hnx : ∀ b ∈ LA ++ L1 ++ LB,b ≠ x := fun b hb e => by
   rcases hx with h | ⟨_,h⟩
   ·have := (hNo b (hin b hb)).1; omega
   ·exact h (e ▸ hb)
  have hF : FrN N ((ownOf m0 (LA ++ LB) ++ (ownOf m1 L1 ++ [])).map Prod.fst) w w' := by
   refine ⟨⟨hfr.os,hfr.tape,hfr.output,hfr.size,fun k hk hkn => hfr.block k hk fun hm => ?_,hfr.shp⟩,fun b o hn => hfr.same (henv.nlt b o hn) (fun hm => ?_) o⟩
   ·have hm : k = x := by simpa using hm
    rcases hxm with h | h
    ·omega
    ·exact hkn (hm ▸ h)
   ·have hm : b = x := by simpa using hm
    exact hNx o (hm ▸ hn)
  refine ⟨_,rfl,?_⟩
  have := ins_back (mn := ⟨x,o,2,X.length + 1,0,false⟩) (cap := c') (Z := insF X i V) henv hm0 (by omega) hzs hF (fun b hb => hfr.same (hNo b (hin b hb)).1 (by simpa using hnx b hb)) hT.symm hlz.symm rfl rfl hcell (by rw [hT]; exact hroom) (by omega) hxs hNx
   (List.nodup_cons.2 ⟨fun h => hnx x h rfl,hndl⟩) hin hxm
  rw [hlz] at this
  exact this
 have hbw : ∀ o,N w.heap.size o → False := fun o ho => by have := henv.nlt _ _ ho; omega
 have hnx0 : m0.virt = false → m0.b ∉ LA ++ L1 ++ LB ∧ (m0.b,0) ∈ ownOf m0 (LA ++ LB) ++ (ownOf m1 L1 ++ []) ∧ m1.b ≠ m0.b := fun hv => by
  have hnd := henv.nd
  rw [List.append_nil,List.map_append] at hnd
  have e0 : (ownOf m0 (LA ++ LB)).map Prod.fst = m0.b :: (LA ++ LB) := by simp [ownOf,hv,Function.comp_def]
  have e1 : (ownOf m1 L1).map Prod.fst = m1.b :: L1 := by rw [ho1]; simp [Function.comp_def]
  rw [e0,e1,List.cons_append,List.nodup_cons] at hnd
  refine ⟨fun h => hnd.1 ?_,by simp [ownOf,hv,hf0],fun h => hnd.1 (h ▸ by simp)⟩
  rcases List.mem_append.1 (hperm.mem_iff.1 h) with h | h
  ·exact List.mem_append_left _ h
  ·exact List.mem_append_right _ (List.mem_cons_of_mem _ h)
 have hsh1 := hroom1.shape
 obtain ⟨tA,kA,hsA,hlA,hmA⟩ := hsh1
 have hmA := hmA (by omega)
 have hlA : m1.o + 2 ≤ kA := by
  rw [hz1] at hlA
  have : 1 ≤ c2 := by omega
  omega
 have hfA : w.frozen? ⟨m1.b,m1.o,none⟩ = false := (hroom1.cell (by rw [hz1]; omega)).2
 have hgrow : ∀ (base : Option Addr),X.length ≤ c0 → c0 < X.length + 1 → k = X.length → (base = none → X.length = 0) → (∀ a,base = some a → X.length = 0 ∨ a = ⟨m0.b,m0.o,none⟩) →
   Calls P f #[.slice base X.length c0,.int .i64 i,.slice (some ⟨m1.b,m1.o,none⟩) 1 c2] w fun e w' => ∃ v,e = .returned v ∧ ∃ N' M' L',BackM w N M (ownOf m0 (LA ++ LB) ++ (ownOf m1 L1 ++ [])) [some (.arr T true (insF X i V)),none,none] 1 (.own 0) v w' N' M' L' := by
  intro base hc hr hkX hb0' hb1'
  rw [show Value.int .i64 i = .int .i64 (X.length : Int) from by rw [hik,hkX]]
  refine (rB base X.length c0 m1.b m1.o c2 (cA ++ cB) cV w hc hr hn hcl lV hb0' (fun a ha j v hj => ?_) hvs oV).mono fun e w' ⟨he,hw⟩ => ?_
  ·rcases hb1' a ha with h | rfl
   ·have := (List.getElem?_eq_some_iff.1 hj).1; omega
   ·rw [Addr.add_lit]; exact hcs j v hj
  ·have hG : X.length + 1 ≤ grownCap w (X.length + 1) c0 E := grownCap_ge w _ _ _
   generalize grownCap w (X.length + 1) c0 E = G at he hw hG
   subst hw; subst he
   have hcB : cB = [] := List.length_eq_zero_iff.1 (by rw [lB]; omega)
   subst hcB
   have hp : Pushed w (w.drew.alloc (.cells ((cA ++ [] ++ cV).toArray ++ Builtin.zeroCells zc (G - (X.length + 1))) E)) ((cA ++ [] ++ cV).toArray ++ Builtin.zeroCells zc (G - (X.length + 1))) E (0,0) := ⟨rfl,rfl,rfl,rfl⟩
   have hsz : ((cA ++ [] ++ cV).toArray ++ Builtin.zeroCells zc (G - (X.length + 1))).size = G * 2 := by
    simp only [Array.size_append,List.size_toArray,List.append_nil,List.length_append,Builtin.zeroCells,Array.size_map,Array.size_range,hzc]
    omega
   refine fin w.heap.size 0 G _ (hp.fr _) hbw (.inl (Nat.le_refl _)) (by rw [hp.size]; omega) ⟨_,E,(0,0),hp.new,by rw [hsz]; omega,nofz _⟩ hG fun j hj => ?_
   rw [cell_in hp.new,Nat.zero_add,Array.getElem?_append_left (by simpa using hj)]
   simp
 rcases q0 with ⟨hx0,rfl⟩ | ⟨hv0,rfl,hle0,hroom0⟩
 ·exact hgrow a0 (by omega) (by omega) (by omega) (fun _ => hx0) (fun _ _ => .inl hx0)
 ·rw [hz0,Nat.zero_mul,Nat.add_zero]
  rw [hz0,Nat.zero_add] at hroom0
  obtain ⟨hnx,hbL,hne⟩ := hnx0 hv0
  have hN0 := (hNo m0.b hbL).2
  have hs0 := (hNo m0.b hbL).1
  by_cases hkX : k = X.length
  ·by_cases hc : X.length + 1 ≤ c0
   ·rw [show Value.int .i64 i = .int .i64 (X.length : Int) from by rw [hik,hkX]]
    have hsp : ∀ j,j < 2 → (w.cell? ⟨m0.b,m0.o + X.length * 2 + j,none⟩).isSome = true := fun j hj => (hroom0.cell (by omega)).1
    refine (rA m0.b m0.o X.length c0 m1.b m1.o c2 cV w hc hn lV hsp (fun j hj => (hroom0.cell (by omega)).2) hvs oV).mono fun e w' ⟨he,hw⟩ => ?_
    subst hw; subst he
    have hcB : cB = [] := List.length_eq_zero_iff.1 (by rw [lB]; omega)
    subst hcB
    have hf := fr_cells w m0.b (m0.o + X.length * 2) cV
    refine fin m0.b m0.o c0 _ hf hN0 (.inr ⟨hbL,hnx⟩) (Nat.lt_of_lt_of_le hs0 hf.size) (hroom0.gr hf.shp) hc fun j hj => ?_
    rw [cell_setCells (fun j hj => hsp j (by omega))]
    rw [List.append_nil] at hj ⊢
    rw [List.length_append] at hj
    split
    ·rw [List.getElem?_append_right (by omega)]
     congr 1; omega
    ·rw [List.getElem?_append_left (by omega)]
     exact gA j (by omega)
   ·exact hgrow _ hle0 (by omega) hkX (fun h => by cases h) (fun a h => by cases h; exact .inr rfl)
  ·have hklt : k < X.length := by omega
   rw [show Value.int .i64 i = .int .i64 (k : Int) from by rw [hik]]
   have hin2 : ∀ {j : Nat},j < (cA ++ cV ++ cB).length → (j < k * 2 ∧ (cA ++ cV ++ cB)[j]? = cA[j]?) ∨ (k * 2 ≤ j ∧ j < k * 2 + 2 ∧ (cA ++ cV ++ cB)[j]? = cV[j - k * 2]?) ∨ (k * 2 + 2 ≤ j ∧ j < k * 2 + 2 + cB.length ∧ (cA ++ cV ++ cB)[j]? = cB[j - (k * 2 + 2)]?) := fun {j} hj => by
    rw [List.length_append,List.length_append] at hj
    by_cases h1 : j < k * 2
    ·refine .inl ⟨h1,?_⟩
     rw [List.append_assoc,List.getElem?_append_left (by omega)]
    ·by_cases h2 : j < k * 2 + 2
     ·refine .inr (.inl ⟨by omega,h2,?_⟩)
      rw [List.getElem?_append_left (by rw [List.length_append]; omega),List.getElem?_append_right (by omega)]
      congr 1; omega
     ·refine .inr (.inr ⟨by omega,by omega,?_⟩)
      rw [List.getElem?_append_right (by rw [List.length_append]; omega)]
      congr 1; rw [List.length_append]; omega
   by_cases hc : X.length + 1 ≤ c0
   ·obtain ⟨tB,kB,hsB,hlB,_⟩ := hroom0.shape
    have hsp : ∀ j,j < (X.length + 1) * 2 → (w.cell? ⟨m0.b,m0.o + j,none⟩).isSome = true := fun j hj => (hroom0.cell (by omega)).1
    refine (rC m0.b m0.o X.length c0 k m1.b m1.o c2 (cA ++ cB) cV w hklt hc hn hne hcl lV hcs hsp (fun j hj => (hroom0.cell (by omega)).2) hvs hoc oV tA tB kA kB hsA hsB (by omega) hfA hmA).mono fun e w' ⟨he,hw⟩ => ?_
    rw [hdr] at hw
    have hf1 : Fr [m0.b] w (w.drew.setCells m0.b (m0.o + (k + 1) * 2) cB) := (fr_drew [m0.b] w).trans (fr_cells w.drew m0.b (m0.o + (k + 1) * 2) cB) fun y hy => .inl hy
    have hf := hf1.trans (fr_cells (w.drew.setCells m0.b (m0.o + (k + 1) * 2) cB) m0.b (m0.o + k * 2) cV) fun y hy => .inl hy
    have hr1 := hroom0.gr hf1.shp
    have hcw : ∀ j,(w.drew.setCells m0.b (m0.o + (k + 1) * 2) cB).cell? ⟨m0.b,j,none⟩ = if m0.o + (k + 1) * 2 ≤ j ∧ j < m0.o + (k + 1) * 2 + cB.length then cB[j - (m0.o + (k + 1) * 2)]? else w.cell? ⟨m0.b,j,none⟩ := fun j => cell_setCells (w := w.drew) (fun t ht => (hroom0.cell (by omega)).1) j
    rw [← hw] at hf
    subst he
    refine fin m0.b m0.o c0 w' hf hN0 (.inr ⟨hbL,hnx⟩) (Nat.lt_of_lt_of_le hs0 hf.size) (hroom0.gr hf.shp) hc fun j hj => ?_
    rw [hw,cell_setCells (fun t ht => (hr1.cell (by omega)).1),hcw]
    rcases hin2 hj with ⟨h1,h2⟩ | ⟨h1,h3,h2⟩ | ⟨h1,h3,h2⟩
    ·rw [h2,if_neg (by omega),if_neg (by omega)]
     exact gA j h1
    ·rw [h2,if_pos (by omega)]
     congr 1; omega
    ·rw [h2,if_neg (by omega),if_pos (by omega)]
     congr 1; omega
   ·refine (rD m0.b m0.o X.length c0 k m1.b m1.o c2 (cA ++ cB) cV w hklt hle0 (by omega) hn hcl lV hcs hvs hoc oV).mono fun e w' ⟨he,hw⟩ => ?_
    rw [hdr,htk] at hw
    have hG : X.length + 1 ≤ grownCap w (X.length + 1) c0 E := grownCap_ge w _ _ _
    generalize grownCap w (X.length + 1) c0 E = G at he hw hG
    subst he
    have hsz : (cA.toArray ++ Builtin.zeroCells zc (X.length + 1 - k) ++ Builtin.zeroCells zc (G - (X.length + 1))).size = G * 2 := by
     simp only [Array.size_append,List.size_toArray,Builtin.zeroCells,Array.size_map,Array.size_range,hzc]
     omega
    have hget : ∀ j,j < k * 2 → (cA.toArray ++ Builtin.zeroCells zc (X.length + 1 - k) ++ Builtin.zeroCells zc (G - (X.length + 1)))[j]? = cA[j]? := fun j hj => by
     rw [Array.append_assoc,Array.getElem?_append_left (by simpa [lA] using hj)]
     simp
    generalize cA.toArray ++ Builtin.zeroCells zc (X.length + 1 - k) ++ Builtin.zeroCells zc (G - (X.length + 1)) = ROW at hw hsz hget
    have hp : Pushed w (w.alloc (.cells ROW E)).drew ROW E (0,0) := ⟨rfl,rfl,rfl,rfl⟩
    generalize (w.alloc (.cells ROW E)).drew = W1 at hw hp
    have hr1 : room W1 2 w.heap.size (0 + G * 2) := ⟨_,E,(0,0),hp.new,by omega,nofz _⟩
    have hf2 := (hp.fr [w.heap.size]).trans (fr_cells W1 w.heap.size (k * 2) cV) fun y hy => .inl hy
    have hr2 := hr1.gr (fr_cells W1 w.heap.size (k * 2) cV).shp
    have hf3 := hf2.trans (fr_drew [w.heap.size] _) fun y hy => .inl hy
    have hf := hf3.trans (fr_cells (W1.setCells w.heap.size (k * 2) cV).drew w.heap.size ((k + 1) * 2) cB) fun y hy => .inl hy
    have hr3 := hr2.gr ((fr_drew [w.heap.size] _).trans (fr_cells (W1.setCells w.heap.size (k * 2) cV).drew w.heap.size ((k + 1) * 2) cB) fun y hy => .inl hy).shp
    have hc1 : ∀ j,(W1.setCells w.heap.size (k * 2) cV).cell? ⟨w.heap.size,j,none⟩ = if k * 2 ≤ j ∧ j < k * 2 + cV.length then cV[j - k * 2]? else W1.cell? ⟨w.heap.size,j,none⟩ := fun j => cell_setCells (fun t ht => (hr1.cell (by omega)).1) j
    have hc2 : ∀ j,w'.cell? ⟨w.heap.size,j,none⟩ = if (k + 1) * 2 ≤ j ∧ j < (k + 1) * 2 + cB.length then cB[j - (k + 1) * 2]? else (W1.setCells w.heap.size (k * 2) cV).cell? ⟨w.heap.size,j,none⟩ := fun j => by
     rw [hw]
     exact cell_setCells (w := (W1.setCells w.heap.size (k * 2) cV).drew) (fun t ht => (hr2.cell (by omega)).1) j
    rw [← hw] at hf hr3
    refine fin w.heap.size 0 G w' hf hbw (.inl (Nat.le_refl _)) (by have := hf.size; have := hp.size; have h4 := (fr_cells W1 w.heap.size (k * 2) cV).size; have h5 := (fr_cells (W1.setCells w.heap.size (k * 2) cV).drew w.heap.size ((k + 1) * 2) cB).size; rw [← hw] at h5; have h6 : (W1.setCells w.heap.size (k * 2) cV).drew.heap.size = (W1.setCells w.heap.size (k * 2) cV).heap.size := rfl; omega) hr3 hG fun j hj => ?_
    rw [Nat.zero_add,hc2,hc1]
    rcases hin2 hj with ⟨h1,h2⟩ | ⟨h1,h3,h2⟩ | ⟨h1,h3,h2⟩
    ·rw [h2,if_neg (by omega),if_neg (by omega),cell_in hp.new]
     exact hget j h1
    ·rw [h2,if_neg (by omega),if_pos (by omega)]
    ·rw [h2,if_pos (by omega)]
     congr 1; omega
end Go.Proofs.Ytkmhopbmpeiofaa.Nx
namespace Go.Proofs.InsW
open Go Go.Proofs Go.Shelf Go.RowKit Go.Lib Go.Proofs.Ytkmhopbmpeiofaa.Nx
set_option linter.unusedSimpArgs false
set_option linter.unusedVariables false
theorem t0 : Try.prog.underlying 29 = some (.slice 51) := by kernel_rfl
theorem t3 : Try.prog.underlying 3 = some (.int .i64) := by kernel_rfl
theorem t4 : Try.prog.underlying 4 = some .bool := by kernel_rfl
theorem iE : (Try.prog.info? 51).map (fun i => (i.zero,i.size,i.bytes)) = some (some (.agg #[.int .i64 0,.slice none 0 0]),2,32) := by kernel_rfl
theorem aS (w : World) : (isAgg 29).run Try.prog w = .ok false w := by kernel_rfl
theorem a3 (w : World) : (isAgg 3).run Try.prog w = .ok false w := by kernel_rfl
theorem a4 (w : World) : (isAgg 4).run Try.prog w = .ok false w := by kernel_rfl
theorem zE (w : World) : (Go.sizeOf 51).run Try.prog w = .ok 2 w := by kernel_rfl
theorem zS (w : World) : (Go.sizeOf 29).run Try.prog w = .ok 1 w := by kernel_rfl
theorem z3 (w : World) : (Go.sizeOf 3).run Try.prog w = .ok 1 w := by kernel_rfl
theorem z4 (w : World) : (Go.sizeOf 4).run Try.prog w = .ok 1 w := by kernel_rfl
theorem vS (w : World) : (zeroValue 29).run Try.prog w = .ok (.slice none 0 0) w := by kernel_rfl
theorem v3 (w : World) : (zeroValue 3).run Try.prog w = .ok (.int .i64 0) w := by kernel_rfl
theorem v4 (w : World) : (zeroValue 4).run Try.prog w = .ok (.bool false) w := by kernel_rfl
theorem mixed : Try.prog.follows .mixedOrders = true := by kernel_rfl
theorem info_parts' : ∃ i,Try.prog.info? 51 = some i ∧ i.zero = some (.agg #[.int .i64 0,.slice none 0 0]) ∧ i.size = 2 ∧ i.bytes = 32 := by
 have h := iE
 cases hq : Try.prog.info? 51 with
 | none => rw [hq] at h; cases h
 | some i =>
  rw [hq] at h
  simp only [Option.map_some,Option.some.injEq,Prod.mk.injEq] at h
  exact ⟨i,rfl,h.1,h.2.1,h.2.2⟩
theorem srcOf (w : World) (a : Addr) (vc : Nat) (vs : List Value) (hvl : vs.length = 2) (hvs : ∀ j v,vs[j]? = some v → w.cell? (a.add j) = some v) (h1v : ∀ v ∈ vs,v.oneCell' = true) : Src Try.prog 2 29 (.slice (some a) 1 vc) 1 vs w :=
 Src.ofSlice w t0 a 1 vc vs (by omega) hvs h1v
set_option maxHeartbeats 4000000 in
set_option maxRecDepth 100000 in
theorem ins_end_room : RoadA Try.prog 27 := by
 intro b off n c vb voff vc vs w hroom hn hvl hsp hfz hvs h1v
 have t0 := t0; have t3 := t3; have t4 := t4; have aS := aS; have a3 := a3; have a4 := a4; have zE := zE; have zS := zS; have z3 := z3; have z4 := z4; have vS := vS; have v3 := v3; have v4 := v4
 have u0 := run_underlying t0; have u3 := run_underlying t3; have u4 := run_underlying t4
 have mixed := mixed
 obtain ⟨i0,hi0,hz0,hzs,hzb⟩ := info_parts'
 have hsrc := srcOf w ⟨vb,voff,none⟩ vc vs hvl (fun j v h => by rw [Addr.add_lit]; exact hvs j v h) h1v
 have hrun : ∀ ty,(Builtin.append_ #[29,29] ty #[.slice (some ⟨b,off,none⟩) n c,.slice (some ⟨vb,voff,none⟩) 1 vc]).run Try.prog w = .ok (.slice (some ⟨b,off,none⟩) (n + 1) c) (w.setCells b (off + n * 2) vs) := fun ty => by
  have := run_append_room_src (w := w) 29 29 ty 51 i0 t0 hi0 b off n c (.slice (some ⟨vb,voff,none⟩) 1 vc) 1 vs (by rw [hzs]; exact hsrc) hroom (by rw [hzs,hvl]; exact hsp) (by rw [hzs,hvl]; exact hfz)
  rw [hzs] at this
  exact this
 go_enter Try.func27,Try.ntmps27
 go_wp2_with (at_builtin; refine Lib.wpList_append_run _ rfl _ _ _ _ rfl _ _ rfl rfl _ _ (hrun _) ?_)
 go_ret
 exact ⟨rfl,rfl⟩
set_option maxHeartbeats 4000000 in
set_option maxRecDepth 100000 in
theorem ins_end_grow : RoadB Try.prog 27 51 #[.int .i64 0,.slice none 0 0] := by
 intro base n c vb voff vc cs vs w hnc hroom hn hcl hvl hnil hcs hvs h1v
 have hbig : (n + 1) * 32 ≤ 140737488355328 := by omega
 have t0 := t0; have t3 := t3; have t4 := t4; have aS := aS; have a3 := a3; have a4 := a4; have zE := zE; have zS := zS; have z3 := z3; have z4 := z4; have vS := vS; have v3 := v3; have v4 := v4
 have u0 := run_underlying t0; have u3 := run_underlying t3; have u4 := run_underlying t4
 have mixed := mixed
 obtain ⟨i0,hi0,hz0,hzs,hzb⟩ := info_parts'
 have hsrc : Src Try.prog i0.size 29 (.slice (some ⟨vb,voff,none⟩) 1 vc) 1 vs w := by
  rw [hzs]; exact srcOf w ⟨vb,voff,none⟩ vc vs hvl (fun j v h => by rw [Addr.add_lit]; exact hvs j v h) h1v
 have hold : (Builtin.firstCells i0.size n (.slice base n c)).run Try.prog w.drew = .ok cs.toArray w.drew := by
  rw [hzs]
  cases base with
  | none =>
   have h0 := hnil rfl
   subst h0
   rw [List.length_eq_zero_iff.1 (by omega : cs.length = 0)]
   exact run_firstCells_none w.drew 2 0 0 c
  | some a => exact run_firstCells_some w.drew 2 n a n c cs (by omega) (fun j v hj => hcs a rfl j v hj)
 have hrun : ∀ ty,(Builtin.append_ #[29,29] ty #[.slice base n c,.slice (some ⟨vb,voff,none⟩) 1 vc]).run Try.prog w = _ := fun ty =>
  run_append_grow_src w 29 29 ty 51 i0 _ t0 hi0 hz0 base n c cs hold _ 1 vs hsrc hroom (by omega) (by rw [hzb]; exact growslice_fits hroom hbig)
 go_enter Try.func27,Try.ntmps27
 cases base with
 | none =>
  have h0 := hnil rfl
  subst h0
  go_wp2_with (at_builtin; refine Lib.wpList_append_run _ rfl _ _ _ _ rfl _ _ rfl rfl _ _ (hrun _) ?_)
  go_ret
  exact ⟨rfl,rfl⟩
 | some a =>
  obtain ⟨ab,ao,asp⟩ := a
  go_wp2_with (at_builtin; refine Lib.wpList_append_run _ rfl _ _ _ _ rfl _ _ rfl rfl _ _ (hrun _) ?_)
  all_goals (go_ret; exact ⟨rfl,rfl⟩)
set_option maxHeartbeats 4000000 in
set_option maxRecDepth 100000 in
theorem ins_shift : RoadC Try.prog 27 := by
 intro b off n c i vb voff vc cs vs w hi hroom hn hvb hcl hvl hcs hsp hfz hvs h1c h1v tA tB kA kB hsa hsb hkB hfa hfe
 have t0 := t0; have t3 := t3; have t4 := t4; have aS := aS; have a3 := a3; have a4 := a4; have zE := zE; have zS := zS; have z3 := z3; have z4 := z4; have vS := vS; have v3 := v3; have v4 := v4
 have u0 := run_underlying t0; have u3 := run_underlying t3; have u4 := run_underlying t4
 have hz2 : ¬ ((i : Int) = (n : Int)) := by omega
 have hsz : (Try.prog.info? 51).map (·.size) = some 2 := by
  obtain ⟨i0,hi0,h0,h1,h2⟩ := info_parts'
  rw [hi0]; simp [h1]
 have hov : ∀ lb cb,(callFunc 47 #[.slice (some ⟨vb,voff,none⟩) 1 vc,.slice (some ⟨b,off + (i + 1) * 2,none⟩) lb cb]).run Try.prog w = .ok (.value (.bool false)) w := fun lb cb => by
  rw [run_callFunc_extern Try.func47 (by kernel_rfl) (by kernel_rfl) (by kernel_rfl) (e := Extern.SlicesOverlaps.overlaps #[29,29] #[4]) (by kernel_rfl),
   Lib.run_overlaps_apart w 29 4 51 t0 2 zE ⟨vb,voff,none⟩ ⟨b,off + (i + 1) * 2,none⟩ 1 vc lb cb hvb tA tB kA kB hsa hsb hkB hfa hfe]
  rfl
 have hdl : (cs.drop (i * 2)).length = (n - i) * 2 := by rw [List.length_drop,hcl]; omega
 have mixed := mixed
 have hw1 : IntKind.i64.wrap ((i : Int) + 1) = (i : Int) + 1 := by rw [IntKind.wrap_i64]; omega
 have hw2 : IntKind.i64.wrap ((n : Int) + 1) = (n : Int) + 1 := by rw [IntKind.wrap_i64]; omega
 have hb1 : (0:Int) ≤ (i : Int) + 1 := by omega
 have hin : i ≤ n := by omega
 have htn : ((i : Int) + 1).toNat = i + 1 := by omega
 have htm : ((n : Int) + 1).toNat = n + 1 := by omega
 have hb2 : ¬ (c = i + 1) := by omega
 have hb3 : (i : Int) ≤ (n : Int) + 1 := by omega
 have hb4 : ¬ (c = i) := by omega
 have hcp1 : ∀ ty dc sc,(Builtin.copy_ #[29,29] ty #[.slice (some ⟨b,off + (i + 1) * 2,none⟩) (n - i) dc,.slice (some ⟨b,off + i * 2,none⟩) (n + 1 - i) sc]).run Try.prog w.drew = .ok (goInt (n - i : Nat)) (w.drew.setCells b (off + (i + 1) * 2) (cs.drop (i * 2))) := fun ty dc sc =>
  run_copyZ w.drew _ _ ty 51 b (off + (i + 1) * 2) (n - i) dc ⟨b,off + i * 2,none⟩ (n + 1 - i) sc (cs.drop (i * 2)) 2 (n - i) t0 hsz (by simp only [Nat.min_def]; split <;> omega) hdl
   (fun j v hj => by rw [Addr.add_lit,Nat.add_assoc]; exact hcs (i * 2 + j) v (by rwa [List.getElem?_drop] at hj))
   (fun j hj => by rw [Nat.add_assoc]; exact hsp _ (by omega)) (fun j hj => by rw [Nat.add_assoc]; exact hfz _ (by omega)) (fun v hv => h1c v (List.mem_of_mem_drop hv))
 obtain ⟨W1,hW1⟩ : ∃ W1,W1 = w.drew.setCells b (off + (i + 1) * 2) (cs.drop (i * 2)) := ⟨_,rfl⟩
 have hsp1 : ∀ k,k < (n + 1) * 2 → (W1.cell? ⟨b,off + k,none⟩).isSome = true := fun k hk => by
  rw [hW1]
  exact isSome_setCells b _ _ _ (fun j hj => by rw [Nat.add_assoc]; exact hsp _ (by omega)) _ (hsp k hk)
 have hcp2 : ∀ (W : World),(∀ x,W.cell? x = W1.cell? x) → (∀ x,W.frozen? x = W1.frozen? x) → ∀ ty dc,(Builtin.copy_ #[29,29] ty #[.slice (some ⟨b,off + i * 2,none⟩) (n + 1 - i) dc,.slice (some ⟨vb,voff,none⟩) 1 vc]).run Try.prog W = .ok (goInt 1) (W.setCells b (off + i * 2) vs) := fun W hWc hWf ty dc =>
  run_copyZ W _ _ ty 51 b (off + i * 2) (n + 1 - i) dc ⟨vb,voff,none⟩ 1 vc vs 2 1 t0 hsz (by simp only [Nat.min_def]; split <;> omega) (by omega)
   (fun j v hj => by
    rw [Addr.add_lit,hWc,hW1,World.cell?_setCells_out b _ _ _ _ (fun h _ => absurd h hvb)]
    exact hvs j v hj)
   (fun j hj => by rw [hWc,Nat.add_assoc]; exact hsp1 _ (by omega)) (fun j hj => by rw [hWf,hW1,World.frozen?_setCells,Nat.add_assoc]; exact hfz _ (by omega)) h1v
 rw [← hW1] at hcp1
 go_enter Try.func27,Try.ntmps27
 go_wp2_with (simp only [hov])
 go_region_law_o (refine step_copy_runI rfl _ _ 29 29 rfl _ _ (by simp [Act.eval,Act.put]) (by simp [Act.eval,Act.put]) (hcp1 _ _ _) ?_)
 go_wp2_with (at_builtin; refine wpList_copy_runI _ rfl _ _ 29 29 rfl _ _ rfl rfl (hcp2 _ (fun _ => rfl) (fun _ => rfl) _ _) ?_)
 go_ret
 first | exact ⟨rfl,rfl⟩ | exact ⟨rfl,by rw [hW1]⟩
set_option maxHeartbeats 4000000 in
set_option maxRecDepth 100000 in
theorem ins_grow : RoadD Try.prog 27 51 #[.int .i64 0,.slice none 0 0] := by
 intro b off n c i vb voff vc cs vs w hi hnc hroom hn hcl hvl hcs hvs h1c h1v
 have hbig : (n + 1) * 32 ≤ 140737488355328 := by omega
 have t0 := t0; have t3 := t3; have t4 := t4; have aS := aS; have a3 := a3; have a4 := a4; have zE := zE; have zS := zS; have z3 := z3; have z4 := z4; have vS := vS; have v3 := v3; have v4 := v4
 have u0 := run_underlying t0; have u3 := run_underlying t3; have u4 := run_underlying t4
 have mixed := mixed
 obtain ⟨i0,hi0,hz0,hzs,hzb⟩ := info_parts'
 have hz2 : ¬ ((i : Int) = (n : Int)) := by omega
 have hz3 : (c : Int) < (n : Int) + 1 := by omega
 have hsz : (Try.prog.info? 51).map (·.size) = some 2 := by rw [hi0]; simp [hzs]
 have hbw : b < w.heap.size := block_lt_of_cell (hcs 0 _ (List.getElem?_eq_getElem (by omega)))
 have hvw : vb < w.heap.size := block_lt_of_cell (hvs 0 _ (List.getElem?_eq_getElem (by omega)))
 have hkk : (n : Int) + 1 - (i : Int) = ((n + 1 - i : Nat) : Int) := by omega
 have hik : i + (n + 1 - i) = n + 1 := by omega
 have hold : (Builtin.firstCells i0.size i (.slice (some ⟨b,off,none⟩) i c)).run Try.prog w.drew = .ok (cs.take (i * 2)).toArray w.drew := by
  rw [hzs]
  exact run_firstCells_some w.drew 2 i ⟨b,off,none⟩ i c (cs.take (i * 2)) (by rw [List.length_take]; omega) (fun j v hj => by
   rw [Addr.add_lit]
   rw [List.getElem?_take] at hj
   split at hj
   ·exact hcs j v hj
   ·cases hj)
 have hrz : ∀ ty,(Builtin.append_ #[29,3] ty #[.slice (some ⟨b,off,none⟩) i c,.int .i64 ((n : Int) + 1 - (i : Int))]).run Try.prog w =
   .ok (.slice (some ⟨w.heap.size,0,none⟩) (n + 1) (grownCap w (n + 1) c 51)) (w.drew.alloc (.cells ((cs.take (i * 2)).toArray ++ Builtin.zeroCells #[.int .i64 0,.slice none 0 0] (n + 1 - i) ++ Builtin.zeroCells #[.int .i64 0,.slice none 0 0] (grownCap w (n + 1) c 51 - (n + 1))) 51)) := fun ty => by
  have h := Lib.run_append_grow_zeros w 29 3 ty 51 i0 _ .i64 .i64 t0 t3 hi0 hz0 (some ⟨b,off,none⟩) i c (cs.take (i * 2)) hold (n + 1 - i) (by omega) (by omega) (by omega) (by omega) (by rw [hzb]; omega) (by rw [hzb,hik]; exact growslice_fits hroom hbig)
  rw [hik] at h
  rw [hkk]
  exact h
 obtain ⟨G,hG⟩ : ∃ G,G = grownCap w (n + 1) c 51 := ⟨_,rfl⟩
 obtain ⟨ROW,hROW⟩ : ∃ ROW : Array Value,ROW = (cs.take (i * 2)).toArray ++ Builtin.zeroCells #[.int .i64 0,.slice none 0 0] (n + 1 - i) ++ Builtin.zeroCells #[.int .i64 0,.slice none 0 0] (G - (n + 1)) := ⟨_,rfl⟩
 rw [← hG] at hrz ⊢
 rw [← hROW] at hrz ⊢
 have hRl : (n + 1) * 2 ≤ ROW.size := by
  rw [hROW]
  simp [Builtin.zeroCells,Value.cells]
  omega
 obtain ⟨W1,hW1⟩ : ∃ W1,W1 = w.drew.alloc (.cells ROW 51) := ⟨_,rfl⟩
 rw [← hW1] at hrz
 have hN : ∀ j,j < (n + 1) * 2 → (W1.cell? ⟨w.heap.size,j,none⟩).isSome = true := fun j hj => by
  rw [hW1,World.cell?_alloc_at (w := w.drew) ROW _ w.heap.size j rfl,Array.getElem?_eq_getElem (by omega)]; rfl
 have hNf : ∀ j,W1.frozen? ⟨w.heap.size,j,none⟩ = false := fun j => by rw [hW1]; exact World.frozen?_alloc_at (w := w.drew) ROW _ w.heap.size j rfl
 have hOb : ∀ j v,w.cell? ⟨b,j,none⟩ = some v → W1.cell? ⟨b,j,none⟩ = some v := fun j v h => by rw [hW1,World.cell?_alloc_past (w := w.drew) _ b j hbw]; exact h
 have hOv : ∀ j v,w.cell? ⟨vb,j,none⟩ = some v → W1.cell? ⟨vb,j,none⟩ = some v := fun j v h => by rw [hW1,World.cell?_alloc_past (w := w.drew) _ vb j hvw]; exact h
 have hcpA : ∀ (W : World),(∀ x,W.cell? x = W1.cell? x) → (∀ x,W.frozen? x = W1.frozen? x) → ∀ ty dc,(Builtin.copy_ #[29,29] ty #[.slice (some ⟨w.heap.size,i * 2,none⟩) (n + 1 - i) dc,.slice (some ⟨vb,voff,none⟩) 1 vc]).run Try.prog W = .ok (goInt 1) (W.setCells w.heap.size (i * 2) vs) := fun W hWc hWf ty dc =>
  run_copyZ W _ _ ty 51 w.heap.size (i * 2) (n + 1 - i) dc ⟨vb,voff,none⟩ 1 vc vs 2 1 t0 hsz (by simp only [Nat.min_def]; split <;> omega) (by omega)
   (fun j v hj => by rw [Addr.add_lit,hWc]; exact hOv _ v (hvs j v hj))
   (fun j hj => by rw [hWc]; exact hN _ (by omega)) (fun j hj => by rw [hWf]; exact hNf _) h1v
 have hGn : n + 1 ≤ G := by rw [hG]; exact grownCap_ge w _ _ _
 have hG63 : G ≤ 9223372036854775807 := by
  have := grownCap_le_maxLen w (n + 1) c 51 (by unfold maxLen; omega)
  rw [← hG] at this
  unfold maxLen at this
  omega
 have hGi : ¬ (G = i) := by omega
 have hGim : ¬ (G = i + 1) := by omega
 have hci : ¬ (c = i) := by omega
 have hbN : b ≠ w.heap.size := by omega
 have hdl : (cs.drop (i * 2)).length = (n - i) * 2 := by rw [List.length_drop,hcl]; omega
 have hcpB : ∀ (W : World),(∀ x,W.cell? x = (W1.setCells w.heap.size (i * 2) vs).cell? x) → (∀ x,W.frozen? x = (W1.setCells w.heap.size (i * 2) vs).frozen? x) → ∀ ty dc sc,(Builtin.copy_ #[29,29] ty #[.slice (some ⟨w.heap.size,(i + 1) * 2,none⟩) (n - i) dc,.slice (some ⟨b,off + i * 2,none⟩) (n - i) sc]).run Try.prog W = .ok (goInt (n - i : Nat)) (W.setCells w.heap.size ((i + 1) * 2) (cs.drop (i * 2))) := fun W hWc hWf ty dc sc =>
  run_copyZ W _ _ ty 51 w.heap.size ((i + 1) * 2) (n - i) dc ⟨b,off + i * 2,none⟩ (n - i) sc (cs.drop (i * 2)) 2 (n - i) t0 hsz (by simp only [Nat.min_def]; split <;> omega) hdl
   (fun j v hj => by
    rw [Addr.add_lit,hWc,World.cell?_setCells_out _ _ _ _ _ (fun h _ => absurd h hbN),Nat.add_assoc]
    exact hOb _ v (hcs (i * 2 + j) v (by rwa [List.getElem?_drop] at hj)))
   (fun j hj => by rw [hWc]; exact isSome_setCells _ _ _ _ (fun t ht => hN _ (by omega)) _ (hN _ (by omega)))
   (fun j hj => by rw [hWf,World.frozen?_setCells]; exact hNf _) (fun v hv => h1c v (List.mem_of_mem_drop hv))
 subst hW1
 have hE1 : ∀ x,((w.alloc (.cells ROW 51)).drew).cell? x = (w.drew.alloc (.cells ROW 51)).cell? x := fun x => rfl
 have hE2 : ∀ x,((w.alloc (.cells ROW 51)).drew).frozen? x = (w.drew.alloc (.cells ROW 51)).frozen? x := fun x => rfl
 have hF1 : ∀ x,(((w.alloc (.cells ROW 51)).drew.setCells w.heap.size (i * 2) vs).drew).cell? x = ((w.drew.alloc (.cells ROW 51)).setCells w.heap.size (i * 2) vs).cell? x := fun x => rfl
 have hF2 : ∀ x,(((w.alloc (.cells ROW 51)).drew.setCells w.heap.size (i * 2) vs).drew).frozen? x = ((w.drew.alloc (.cells ROW 51)).setCells w.heap.size (i * 2) vs).frozen? x := fun x => rfl
 have hw1 : IntKind.i64.wrap ((i : Int) + 1) = (i : Int) + 1 := by rw [IntKind.wrap_i64]; omega
 have hw2 : IntKind.i64.wrap ((n : Int) + 1) = (n : Int) + 1 := by rw [IntKind.wrap_i64]; omega
 have hw3 : IntKind.i64.wrap ((n : Int) + 1 - (i : Int)) = (n : Int) + 1 - (i : Int) := by rw [IntKind.wrap_i64]; omega
 have hb1 : (0:Int) ≤ (i : Int) + 1 := by omega
 have hin : i ≤ n := by omega
 have htn : ((i : Int) + 1).toNat = i + 1 := by omega
 have hb3 : (i : Int) ≤ (n : Int) := by omega
 have hb5 : (i : Int) ≤ (n : Int) + 1 := by omega
 have hb6 : (i : Int) ≤ (c : Int) := by omega
 clear hkk hik hold hROW hG hRl
 go_enter Try.func27,Try.ntmps27
 go_wp2_with (first
  | (at_builtin; refine Lib.wpList_append_run _ rfl _ _ _ _ rfl _ _ rfl rfl _ _ (hrz _) ?_)
  | (at_builtin; refine wpList_copy_runI _ rfl _ _ 29 29 rfl _ _ rfl rfl (hcpA _ hE1 hE2 _ _) ?_)
  | (at_builtin; refine wpList_copy_runI _ rfl _ _ 29 29 rfl _ _ rfl rfl (hcpB _ (fun _ => rfl) (fun _ => rfl) _ _ _) ?_))
 go_region_law_o (refine step_copy_runI rfl _ _ 29 29 rfl (.slice (some ⟨w.heap.size,(i + 1) * 2,none⟩) (n - i) (G - (i + 1))) (.slice (some ⟨b,off + i * 2,none⟩) (n - i) (c - i)) (by simp [Act.eval,Act.put]) (by simp [Act.eval,Act.put]) (hcpB _ hF1 hF2 3 (G - (i + 1)) (c - i)) ?_)
 go_wp2
 go_ret
 exact ⟨rfl,rfl⟩
theorem ins_good : Go.Proofs.Ytkmhopbmpeiofaa.Nx.Good Try.prog 27 := ⟨_,Try.func27,by kernel_rfl,by kernel_rfl⟩
end Go.Proofs.InsW
namespace Go.Proofs.Ytkmhopbmpeiofaa.C
open Go Go.Proofs.Ytkmhopbmpeiofaa.Nx Go.RowKit
set_option maxRecDepth 100000
set_option linter.unusedVariables false
noncomputable section
abbrev I : Ty := .i .i64
abbrev tItem : Ty := (.st (.pr .tx .bl))
abbrev tShelf : Ty := (.st (.pr I (.sl tItem)))
abbrev tShelfV : Ty := (.st (.pr I (.sv tItem)))
abbrev tPeer : Ty := (.st (.pr I (.pr .bl (.pr I (.pr (.sl I) (.pr (.sl I) (.sl tShelf)))))))
abbrev tPeerV : Ty := (.st (.pr I (.pr .bl (.pr I (.pr (.sl I) (.pr (.sl I) (.sl tShelfV)))))))
theorem mixed : Try.prog.follows .mixedOrders = true := by kernel_rfl
def x_f28 (N : Nat) (a0 : (List Int)) (a1 : Int) : Option Int :=
 (bif (decide ((wrap64 (a1 - (a0.length : Int))) < (0:Int))) then some (-1:Int) else some (wrap64 (a1 - (a0.length : Int))))
abbrev ct_f28 (N : Nat) : CT := ⟨15,(.pr (.d (.sl I)) (.d I)),(.t I),fun a => x_f28 N a.1 a.2⟩
theorem c_f28 (N : Nat) : CTok Try.prog (ct_f28 N) :=
 CT_ok (Γ := []) (Θ := []) (Λ := ([] : List (LC (DenR (.t I))))) (by kernel_rfl) mixed trivial (by kernel_rfl)
  trivial (by kernel_rfl) (fun a => by kernel_rfl)
def x_f29 (N : Nat) (a0 : (Den tItem)) (a1 : Int) : Option Int :=
 (bif (decide ((wrap64 (a1 - (a0.1.size : Int))) < (0:Int))) then some (-1:Int) else some (wrap64 (a1 - (a0.1.size : Int))))
abbrev ct_f29 (N : Nat) : CT := ⟨17,(.pr (.d tItem) (.d I)),(.t I),fun a => x_f29 N a.1 a.2⟩
theorem c_f29 (N : Nat) : CTok Try.prog (ct_f29 N) :=
 CT_ok (Γ := []) (Θ := []) (Λ := ([] : List (LC (DenR (.t I))))) (by kernel_rfl) mixed trivial (by kernel_rfl)
  trivial (by kernel_rfl) (fun a => by kernel_rfl)
def B_f30_L0 (N : Nat) {Ω : Type} (kx : DenS (.d 1 I) → Option Ω) (kr : Int → Option Ω) (rec_ : DenS (.pr (.d 0 (.sl tItem)) (.pr (.d 1 I) (.d 5 I))) → Option Ω) : DenS (.pr (.d 0 (.sl tItem)) (.pr (.d 1 I) (.d 5 I))) → Option Ω := fun (s0,s1,s5) =>
 (bif (decide (s5 < (s0.length : Int))) then (bif (decide (0 ≤ s5) && decide (s5 < s0.length)) then (x_f29 N (s0.getD s5.toNat (dft tItem)) s1).bind fun r1 => (bif (decide (r1 < (0:Int))) then kr (-1:Int) else rec_ (s0,r1,(wrap64 (s5 + (1:Int))))) else none) else kx s1)
def x_f30 (N : Nat) (a0 : (List (Den tItem))) (a1 : Int) : Option Int :=
 (bif (decide ((wrap64 (a1 - (a0.length : Int))) < (0:Int))) then some (-1:Int) else iter (B_f30_L0 N (fun x2 => some x2) (fun ρ3 => some (ρ3))) N (a0,(wrap64 (a1 - (a0.length : Int))),(0:Int)))
abbrev ct_f30 (N : Nat) : CT := ⟨5,(.pr (.d (.sl tItem)) (.d I)),(.t I),fun a => x_f30 N a.1 a.2⟩
theorem c_f30 (N : Nat) : CTok Try.prog (ct_f30 N) :=
 CT_ok (Γ := [.c (ct_f29 N)]) (Θ := []) (Λ := ([⟨0,0,(.pr (.d 0 (.sl tItem)) (.pr (.d 1 I) (.d 5 I))),(.d 1 I),fun {Ω} kx kr => iter (B_f30_L0 N kx kr) N⟩] : List (LC (DenR (.t I))))) (by kernel_rfl) mixed ⟨c_f29 N,trivial⟩ (by kernel_rfl)
  ⟨LoopEq.mk N (fun Ω kx kr => B_f30_L0 N kx kr) (fun Ω g kx kr s => by kernel_rfl),trivial⟩ (by kernel_rfl) (fun a => by kernel_rfl)
def x_f32 (N : Nat) (a0 : (Den tShelf)) (a1 : Int) : Option Int :=
 (x_f30 N a0.2 a1).bind fun r1 => (bif (decide (r1 < (0:Int))) then some (-1:Int) else some r1)
abbrev ct_f32 (N : Nat) : CT := ⟨38,(.pr (.d tShelf) (.d I)),(.t I),fun a => x_f32 N a.1 a.2⟩
theorem c_f32 (N : Nat) : CTok Try.prog (ct_f32 N) :=
 CT_ok (Γ := [.c (ct_f30 N)]) (Θ := []) (Λ := ([] : List (LC (DenR (.t I))))) (by kernel_rfl) mixed ⟨c_f30 N,trivial⟩ (by kernel_rfl)
  trivial (by kernel_rfl) (fun a => by kernel_rfl)
def B_f33_L0 (N : Nat) {Ω : Type} (kx : DenS (.d 1 I) → Option Ω) (kr : Int → Option Ω) (rec_ : DenS (.pr (.d 0 (.sl tShelf)) (.pr (.d 1 I) (.d 5 I))) → Option Ω) : DenS (.pr (.d 0 (.sl tShelf)) (.pr (.d 1 I) (.d 5 I))) → Option Ω := fun (s0,s1,s5) =>
 (bif (decide (s5 < (s0.length : Int))) then (bif (decide (0 ≤ s5) && decide (s5 < s0.length)) then (x_f32 N (s0.getD s5.toNat (dft tShelf)) s1).bind fun r1 => (bif (decide (r1 < (0:Int))) then kr (-1:Int) else rec_ (s0,r1,(wrap64 (s5 + (1:Int))))) else none) else kx s1)
def x_f33 (N : Nat) (a0 : (List (Den tShelf))) (a1 : Int) : Option Int :=
 (bif (decide ((wrap64 (a1 - (a0.length : Int))) < (0:Int))) then some (-1:Int) else iter (B_f33_L0 N (fun x2 => some x2) (fun ρ3 => some (ρ3))) N (a0,(wrap64 (a1 - (a0.length : Int))),(0:Int)))
abbrev ct_f33 (N : Nat) : CT := ⟨16,(.pr (.d (.sl tShelf)) (.d I)),(.t I),fun a => x_f33 N a.1 a.2⟩
theorem c_f33 (N : Nat) : CTok Try.prog (ct_f33 N) :=
 CT_ok (Γ := [.c (ct_f32 N)]) (Θ := []) (Λ := ([⟨0,0,(.pr (.d 0 (.sl tShelf)) (.pr (.d 1 I) (.d 5 I))),(.d 1 I),fun {Ω} kx kr => iter (B_f33_L0 N kx kr) N⟩] : List (LC (DenR (.t I))))) (by kernel_rfl) mixed ⟨c_f32 N,trivial⟩ (by kernel_rfl)
  ⟨LoopEq.mk N (fun Ω kx kr => B_f33_L0 N kx kr) (fun Ω g kx kr s => by kernel_rfl),trivial⟩ (by kernel_rfl) (fun a => by kernel_rfl)
def x_f31 (N : Nat) (a0 : (Den tPeer)) (a1 : Int) : Option Int :=
 (x_f28 N a0.2.2.2.1 a1).bind fun r1 => (bif (decide (r1 < (0:Int))) then some (-1:Int) else (x_f28 N a0.2.2.2.2.1 r1).bind fun r2 => (bif (decide (r2 < (0:Int))) then some (-1:Int) else (x_f33 N a0.2.2.2.2.2 r2).bind fun r3 => (bif (decide (r3 < (0:Int))) then some (-1:Int) else some r3)))
abbrev ct_f31 (N : Nat) : CT := ⟨4,(.pr (.d tPeer) (.d I)),(.t I),fun a => x_f31 N a.1 a.2⟩
theorem c_f31 (N : Nat) : CTok Try.prog (ct_f31 N) :=
 CT_ok (Γ := [.c (ct_f28 N),.c (ct_f33 N)]) (Θ := []) (Λ := ([] : List (LC (DenR (.t I))))) (by kernel_rfl) mixed ⟨c_f28 N,⟨c_f33 N,trivial⟩⟩ (by kernel_rfl)
  trivial (by kernel_rfl) (fun a => by kernel_rfl)
def B_f34_L0 (N : Nat) {Ω : Type} (kx : DenS (.o 3 I) → Option Ω) (kr : (List Int) → Option Ω) (rec_ : DenS (.pr (.d 0 (.sl I)) (.pr (.o 3 I) (.d 4 I))) → Option Ω) : DenS (.pr (.d 0 (.sl I)) (.pr (.o 3 I) (.d 4 I))) → Option Ω := fun (s0,s3,s4) =>
 (bif (decide (s4 < (s0.length : Int))) then (bif (decide (0 ≤ s4) && decide (s4 < s0.length)) then (bif (decide (0 ≤ s4) && decide (s4 < s3.length)) then rec_ (s0,(s3.set s4.toNat (s0.getD s4.toNat (0:Int))),(wrap64 (s4 + (1:Int)))) else none) else none) else kx s3)
def x_f34 (N : Nat) (a0 : (List Int)) : Option (List Int) :=
 (bif (decide ((a0.length : Int) = (a0.length : Int)) && (decide (0 ≤ (a0.length : Int)) && (decide ((a0.length : Int) * (8 : Nat) ≤ 140737488355328) && decide ((a0.length : Int) ≤ 9223372036854775807)))) then iter (B_f34_L0 N (fun x1 => some x1) (fun ρ2 => some (ρ2))) N (a0,(List.replicate (a0.length : Int).toNat (0:Int)),(0:Int)) else none)
abbrev ct_f34 (N : Nat) : CT := ⟨22,(.d (.sl I)),(.t (.sl I)),fun a => x_f34 N a⟩
theorem c_f34 (N : Nat) : CTok Try.prog (ct_f34 N) :=
 CT_ok (Γ := []) (Θ := [(7,I)]) (Λ := ([⟨0,0,(.pr (.d 0 (.sl I)) (.pr (.o 3 I) (.d 4 I))),(.o 3 I),fun {Ω} kx kr => iter (B_f34_L0 N kx kr) N⟩] : List (LC (DenR (.t (.sl I)))))) (by kernel_rfl) mixed trivial (by kernel_rfl)
  ⟨LoopEq.mk N (fun Ω kx kr => B_f34_L0 N kx kr) (fun Ω g kx kr s => by kernel_rfl),trivial⟩ (by kernel_rfl) (fun a => by kernel_rfl)
def x_f35 (N : Nat) (a0 : (Den tItem)) : Option (Den tItem) :=
 some a0
abbrev ct_f35 (N : Nat) : CT := ⟨24,(.d tItem),(.t tItem),fun a => x_f35 N a⟩
theorem c_f35 (N : Nat) : CTok Try.prog (ct_f35 N) :=
 CT_ok (Γ := []) (Θ := []) (Λ := ([] : List (LC (DenR (.t tItem))))) (by kernel_rfl) mixed trivial (by kernel_rfl)
  trivial (by kernel_rfl) (fun a => by kernel_rfl)
def B_f36_L0 (N : Nat) {Ω : Type} (kx : DenS (.o 3 tItem) → Option Ω) (kr : (List (Den tItem)) → Option Ω) (rec_ : DenS (.pr (.d 0 (.sl tItem)) (.pr (.o 3 tItem) (.d 4 I))) → Option Ω) : DenS (.pr (.d 0 (.sl tItem)) (.pr (.o 3 tItem) (.d 4 I))) → Option Ω := fun (s0,s3,s4) =>
 (bif (decide (s4 < (s0.length : Int))) then (bif (decide (0 ≤ s4) && decide (s4 < s0.length)) then (x_f35 N (s0.getD s4.toNat (dft tItem))).bind fun r1 => (bif (decide (0 ≤ s4) && decide (s4 < s3.length)) then rec_ (s0,(s3.set s4.toNat r1),(wrap64 (s4 + (1:Int)))) else none) else none) else kx s3)
def x_f36 (N : Nat) (a0 : (List (Den tItem))) : Option (List (Den tItem)) :=
 (bif (decide ((a0.length : Int) = (a0.length : Int)) && (decide (0 ≤ (a0.length : Int)) && (decide ((a0.length : Int) * (24 : Nat) ≤ 140737488355328) && decide ((a0.length : Int) ≤ 9223372036854775807)))) then iter (B_f36_L0 N (fun x2 => some x2) (fun ρ3 => some (ρ3))) N (a0,(List.replicate (a0.length : Int).toNat (dft tItem)),(0:Int)) else none)
abbrev ct_f36 (N : Nat) : CT := ⟨8,(.d (.sl tItem)),(.t (.sl tItem)),fun a => x_f36 N a⟩
theorem c_f36 (N : Nat) : CTok Try.prog (ct_f36 N) :=
 CT_ok (Γ := [.c (ct_f35 N)]) (Θ := [(7,tItem)]) (Λ := ([⟨0,0,(.pr (.d 0 (.sl tItem)) (.pr (.o 3 tItem) (.d 4 I))),(.o 3 tItem),fun {Ω} kx kr => iter (B_f36_L0 N kx kr) N⟩] : List (LC (DenR (.t (.sl tItem)))))) (by kernel_rfl) mixed ⟨c_f35 N,trivial⟩ (by kernel_rfl)
  ⟨LoopEq.mk N (fun Ω kx kr => B_f36_L0 N kx kr) (fun Ω g kx kr s => by kernel_rfl),trivial⟩ (by kernel_rfl) (fun a => by kernel_rfl)
def x_f38 (N : Nat) (a0 : (Den tShelf)) : Option (Den tShelf) :=
 (x_f36 N a0.2).bind fun r1 => some (a0.1,r1)
abbrev ct_f38 (N : Nat) : CT := ⟨42,(.d tShelf),(.t tShelf),fun a => x_f38 N a⟩
theorem c_f38 (N : Nat) : CTok Try.prog (ct_f38 N) :=
 CT_ok (Γ := [.c (ct_f36 N)]) (Θ := []) (Λ := ([] : List (LC (DenR (.t tShelf))))) (by kernel_rfl) mixed ⟨c_f36 N,trivial⟩ (by kernel_rfl)
  trivial (by kernel_rfl) (fun a => by kernel_rfl)
def B_f39_L0 (N : Nat) {Ω : Type} (kx : DenS (.o 3 tShelf) → Option Ω) (kr : (List (Den tShelf)) → Option Ω) (rec_ : DenS (.pr (.d 0 (.sl tShelf)) (.pr (.o 3 tShelf) (.d 4 I))) → Option Ω) : DenS (.pr (.d 0 (.sl tShelf)) (.pr (.o 3 tShelf) (.d 4 I))) → Option Ω := fun (s0,s3,s4) =>
 (bif (decide (s4 < (s0.length : Int))) then (bif (decide (0 ≤ s4) && decide (s4 < s0.length)) then (x_f38 N (s0.getD s4.toNat (dft tShelf))).bind fun r1 => (bif (decide (0 ≤ s4) && decide (s4 < s3.length)) then rec_ (s0,(s3.set s4.toNat r1),(wrap64 (s4 + (1:Int)))) else none) else none) else kx s3)
def x_f39 (N : Nat) (a0 : (List (Den tShelf))) : Option (List (Den tShelf)) :=
 (bif (decide ((a0.length : Int) = (a0.length : Int)) && (decide (0 ≤ (a0.length : Int)) && (decide ((a0.length : Int) * (32 : Nat) ≤ 140737488355328) && decide ((a0.length : Int) ≤ 9223372036854775807)))) then iter (B_f39_L0 N (fun x2 => some x2) (fun ρ3 => some (ρ3))) N (a0,(List.replicate (a0.length : Int).toNat (dft tShelf)),(0:Int)) else none)
abbrev ct_f39 (N : Nat) : CT := ⟨23,(.d (.sl tShelf)),(.t (.sl tShelf)),fun a => x_f39 N a⟩
theorem c_f39 (N : Nat) : CTok Try.prog (ct_f39 N) :=
 CT_ok (Γ := [.c (ct_f38 N)]) (Θ := [(7,tShelf)]) (Λ := ([⟨0,0,(.pr (.d 0 (.sl tShelf)) (.pr (.o 3 tShelf) (.d 4 I))),(.o 3 tShelf),fun {Ω} kx kr => iter (B_f39_L0 N kx kr) N⟩] : List (LC (DenR (.t (.sl tShelf)))))) (by kernel_rfl) mixed ⟨c_f38 N,trivial⟩ (by kernel_rfl)
  ⟨LoopEq.mk N (fun Ω kx kr => B_f39_L0 N kx kr) (fun Ω g kx kr s => by kernel_rfl),trivial⟩ (by kernel_rfl) (fun a => by kernel_rfl)
def x_f37 (N : Nat) (a0 : (Den tPeer)) : Option (Den tPeer) :=
 (x_f34 N a0.2.2.2.1).bind fun r1 => (x_f34 N a0.2.2.2.2.1).bind fun r2 => (x_f39 N a0.2.2.2.2.2).bind fun r3 => some (a0.1,a0.2.1,a0.2.2.1,r1,r2,r3)
abbrev ct_f37 (N : Nat) : CT := ⟨7,(.d tPeer),(.t tPeer),fun a => x_f37 N a⟩
theorem c_f37 (N : Nat) : CTok Try.prog (ct_f37 N) :=
 CT_ok (Γ := [.c (ct_f34 N),.c (ct_f39 N)]) (Θ := []) (Λ := ([] : List (LC (DenR (.t tPeer))))) (by kernel_rfl) mixed ⟨c_f34 N,⟨c_f39 N,trivial⟩⟩ (by kernel_rfl)
  trivial (by kernel_rfl) (fun a => by kernel_rfl)
def nf_18 : NF := { body := (.seq (.reg true (.op ⟨some 1,none,(.bx 6 (.tmp 0))⟩ (.op ⟨some 2,none,(.al [(.val (.int .i64 (0))),(.val (.bool false)),(.val (.int .i64 (0))),(.val (.slice none 0 0)),(.val (.slice none 0 0)),(.val (.slice none 0 0))])⟩ .done))) (.seq (.reg true (.op ⟨some 5,none,(.ld 6 true (.tmp 1))⟩ (.op ⟨some 3,none,(.al [(.val (.int .i64 (0))),(.val (.bool false)),(.val (.int .i64 (0))),(.val (.slice none 0 0)),(.val (.slice none 0 0)),(.val (.slice none 0 0))])⟩ (.op ⟨none,none,(.st 6 (.tmp 3) (.tmp 5))⟩ .done)))) (.seq (.reg true (.op ⟨some 6,none,(.bsl 1 0 false [(.val (.int .i64 (0)))] [])⟩ (.op ⟨some 7,none,(.fad 3 (.tmp 1))⟩ (.op ⟨some 8,none,(.ld 1 false (.tmp 7))⟩ (.op ⟨some 9,none,(.app false 1 8 (.tmp 6) (.tmp 8))⟩ (.op ⟨some 10,none,(.fad 3 (.tmp 3))⟩ (.op ⟨none,none,(.st 1 (.tmp 10) (.tmp 9))⟩ .done))))))) (.seq (.reg true (.op ⟨some 11,none,(.bsl 1 0 false [(.val (.int .i64 (0)))] [])⟩ (.op ⟨some 12,none,(.fad 4 (.tmp 1))⟩ (.op ⟨some 13,none,(.ld 1 false (.tmp 12))⟩ (.op ⟨some 14,none,(.app false 1 8 (.tmp 11) (.tmp 13))⟩ (.op ⟨some 15,none,(.fad 4 (.tmp 3))⟩ (.op ⟨none,none,(.st 1 (.tmp 15) (.tmp 14))⟩ .done))))))) (.seq (.reg true (.op ⟨some 16,none,(.bsl 2 0 true [(.val (.int .i64 (0))),(.val (.slice none 0 0))] [])⟩ (.op ⟨some 17,none,(.fad 5 (.tmp 3))⟩ (.op ⟨none,none,(.st 1 (.tmp 17) (.tmp 16))⟩ .done)))) (.seq (.seq (.reg true (.op ⟨some 4,none,(.mv (.const (.int .i64 (0))))⟩ .done)) (.block 0 (.loop (.seq (.seq (.reg true (.op ⟨some 18,none,(.mv (.tmp 4))⟩ (.op ⟨some 19,none,(.fad 5 (.tmp 1))⟩ (.op ⟨some 20,none,(.ld 1 false (.tmp 19))⟩ (.op ⟨some 21,none,(.len (.tmp 20))⟩ (.op ⟨some 22,none,(.bin .lss (.tmp 18) (.tmp 21))⟩ .done)))))) (.cond (.tmp 22) .skip (.exit 0))) (.seq (.block 1 (.reg false (.op ⟨some 25,none,(.fad 5 (.tmp 3))⟩ (.op ⟨some 27,none,(.fad 5 (.tmp 1))⟩ (.op ⟨some 29,none,(.mv (.tmp 4))⟩ (.op ⟨some 34,none,(.fad 5 (.tmp 1))⟩ (.op ⟨some 35,none,(.ld 1 false (.tmp 34))⟩ (.op ⟨some 36,none,(.mv (.tmp 4))⟩ (.op ⟨some 37,none,(.iad 2 (.tmp 35) (.tmp 36))⟩ (.op ⟨some 38,none,(.fad 1 (.tmp 37))⟩ (.op ⟨some 39,none,(.ld 1 false (.tmp 38))⟩ (.both (.op ⟨some 26,none,(.ld 1 false (.tmp 25))⟩ (.both (.op ⟨some 28,none,(.ld 1 false (.tmp 27))⟩ (.op ⟨some 30,none,(.iad 2 (.tmp 28) (.tmp 29))⟩ (.op ⟨some 31,none,(.fad 0 (.tmp 30))⟩ (.both (.op ⟨some 32,none,(.ld 1 false (.tmp 31))⟩ (.op ⟨some 33,none,(.bsl 2 0 true [(.val (.string ⟨#[]⟩)),(.val (.bool false))] [])⟩ (.op ⟨some 40,none,(.app false 2 24 (.tmp 33) (.tmp 39))⟩ (.op ⟨some 41,none,(.bld [(.val (.int .i64 (0))),(.val (.slice none 0 0))] [(0,1,(.tmp 32)),(1,1,(.tmp 40))])⟩ (.op ⟨some 42,none,(.bsl 2 1 true [(.val (.int .i64 (0))),(.val (.slice none 0 0))] [(0,(.tmp 41))])⟩ (.op ⟨some 43,none,(.app false 2 32 (.tmp 26) (.tmp 42))⟩ (.op ⟨some 44,none,(.fad 5 (.tmp 3))⟩ (.op ⟨none,none,(.st 1 (.tmp 44) (.tmp 43))⟩ .done)))))))) (.op ⟨some 33,none,(.bsl 2 0 true [(.val (.string ⟨#[]⟩)),(.val (.bool false))] [])⟩ (.both (.op ⟨some 32,none,(.ld 1 false (.tmp 31))⟩ (.op ⟨some 40,none,(.app false 2 24 (.tmp 33) (.tmp 39))⟩ (.op ⟨some 41,none,(.bld [(.val (.int .i64 (0))),(.val (.slice none 0 0))] [(0,1,(.tmp 32)),(1,1,(.tmp 40))])⟩ (.op ⟨some 42,none,(.bsl 2 1 true [(.val (.int .i64 (0))),(.val (.slice none 0 0))] [(0,(.tmp 41))])⟩ (.op ⟨some 43,none,(.app false 2 32 (.tmp 26) (.tmp 42))⟩ (.op ⟨some 44,none,(.fad 5 (.tmp 3))⟩ (.op ⟨none,none,(.st 1 (.tmp 44) (.tmp 43))⟩ .done))))))) (.op ⟨some 40,none,(.app false 2 24 (.tmp 33) (.tmp 39))⟩ (.op ⟨some 32,none,(.ld 1 false (.tmp 31))⟩ (.op ⟨some 41,none,(.bld [(.val (.int .i64 (0))),(.val (.slice none 0 0))] [(0,1,(.tmp 32)),(1,1,(.tmp 40))])⟩ (.op ⟨some 42,none,(.bsl 2 1 true [(.val (.int .i64 (0))),(.val (.slice none 0 0))] [(0,(.tmp 41))])⟩ (.op ⟨some 43,none,(.app false 2 32 (.tmp 26) (.tmp 42))⟩ (.op ⟨some 44,none,(.fad 5 (.tmp 3))⟩ (.op ⟨none,none,(.st 1 (.tmp 44) (.tmp 43))⟩ .done))))))))))))) (.op ⟨some 33,none,(.bsl 2 0 true [(.val (.string ⟨#[]⟩)),(.val (.bool false))] [])⟩ (.both (.op ⟨some 28,none,(.ld 1 false (.tmp 27))⟩ (.op ⟨some 30,none,(.iad 2 (.tmp 28) (.tmp 29))⟩ (.op ⟨some 31,none,(.fad 0 (.tmp 30))⟩ (.both (.op ⟨some 32,none,(.ld 1 false (.tmp 31))⟩ (.op ⟨some 40,none,(.app false 2 24 (.tmp 33) (.tmp 39))⟩ (.op ⟨some 41,none,(.bld [(.val (.int .i64 (0))),(.val (.slice none 0 0))] [(0,1,(.tmp 32)),(1,1,(.tmp 40))])⟩ (.op ⟨some 42,none,(.bsl 2 1 true [(.val (.int .i64 (0))),(.val (.slice none 0 0))] [(0,(.tmp 41))])⟩ (.op ⟨some 43,none,(.app false 2 32 (.tmp 26) (.tmp 42))⟩ (.op ⟨some 44,none,(.fad 5 (.tmp 3))⟩ (.op ⟨none,none,(.st 1 (.tmp 44) (.tmp 43))⟩ .done))))))) (.op ⟨some 40,none,(.app false 2 24 (.tmp 33) (.tmp 39))⟩ (.op ⟨some 32,none,(.ld 1 false (.tmp 31))⟩ (.op ⟨some 41,none,(.bld [(.val (.int .i64 (0))),(.val (.slice none 0 0))] [(0,1,(.tmp 32)),(1,1,(.tmp 40))])⟩ (.op ⟨some 42,none,(.bsl 2 1 true [(.val (.int .i64 (0))),(.val (.slice none 0 0))] [(0,(.tmp 41))])⟩ (.op ⟨some 43,none,(.app false 2 32 (.tmp 26) (.tmp 42))⟩ (.op ⟨some 44,none,(.fad 5 (.tmp 3))⟩ (.op ⟨none,none,(.st 1 (.tmp 44) (.tmp 43))⟩ .done))))))))))) (.op ⟨some 40,none,(.app false 2 24 (.tmp 33) (.tmp 39))⟩ (.op ⟨some 28,none,(.ld 1 false (.tmp 27))⟩ (.op ⟨some 30,none,(.iad 2 (.tmp 28) (.tmp 29))⟩ (.op ⟨some 31,none,(.fad 0 (.tmp 30))⟩ (.op ⟨some 32,none,(.ld 1 false (.tmp 31))⟩ (.op ⟨some 41,none,(.bld [(.val (.int .i64 (0))),(.val (.slice none 0 0))] [(0,1,(.tmp 32)),(1,1,(.tmp 40))])⟩ (.op ⟨some 42,none,(.bsl 2 1 true [(.val (.int .i64 (0))),(.val (.slice none 0 0))] [(0,(.tmp 41))])⟩ (.op ⟨some 43,none,(.app false 2 32 (.tmp 26) (.tmp 42))⟩ (.op ⟨some 44,none,(.fad 5 (.tmp 3))⟩ (.op ⟨none,none,(.st 1 (.tmp 44) (.tmp 43))⟩ .done)))))))))))))) (.both (.op ⟨some 28,none,(.ld 1 false (.tmp 27))⟩ (.op ⟨some 30,none,(.iad 2 (.tmp 28) (.tmp 29))⟩ (.op ⟨some 31,none,(.fad 0 (.tmp 30))⟩ (.both (.op ⟨some 26,none,(.ld 1 false (.tmp 25))⟩ (.both (.op ⟨some 32,none,(.ld 1 false (.tmp 31))⟩ (.op ⟨some 33,none,(.bsl 2 0 true [(.val (.string ⟨#[]⟩)),(.val (.bool false))] [])⟩ (.op ⟨some 40,none,(.app false 2 24 (.tmp 33) (.tmp 39))⟩ (.op ⟨some 41,none,(.bld [(.val (.int .i64 (0))),(.val (.slice none 0 0))] [(0,1,(.tmp 32)),(1,1,(.tmp 40))])⟩ (.op ⟨some 42,none,(.bsl 2 1 true [(.val (.int .i64 (0))),(.val (.slice none 0 0))] [(0,(.tmp 41))])⟩ (.op ⟨some 43,none,(.app false 2 32 (.tmp 26) (.tmp 42))⟩ (.op ⟨some 44,none,(.fad 5 (.tmp 3))⟩ (.op ⟨none,none,(.st 1 (.tmp 44) (.tmp 43))⟩ .done)))))))) (.op ⟨some 33,none,(.bsl 2 0 true [(.val (.string ⟨#[]⟩)),(.val (.bool false))] [])⟩ (.both (.op ⟨some 32,none,(.ld 1 false (.tmp 31))⟩ (.op ⟨some 40,none,(.app false 2 24 (.tmp 33) (.tmp 39))⟩ (.op ⟨some 41,none,(.bld [(.val (.int .i64 (0))),(.val (.slice none 0 0))] [(0,1,(.tmp 32)),(1,1,(.tmp 40))])⟩ (.op ⟨some 42,none,(.bsl 2 1 true [(.val (.int .i64 (0))),(.val (.slice none 0 0))] [(0,(.tmp 41))])⟩ (.op ⟨some 43,none,(.app false 2 32 (.tmp 26) (.tmp 42))⟩ (.op ⟨some 44,none,(.fad 5 (.tmp 3))⟩ (.op ⟨none,none,(.st 1 (.tmp 44) (.tmp 43))⟩ .done))))))) (.op ⟨some 40,none,(.app false 2 24 (.tmp 33) (.tmp 39))⟩ (.op ⟨some 32,none,(.ld 1 false (.tmp 31))⟩ (.op ⟨some 41,none,(.bld [(.val (.int .i64 (0))),(.val (.slice none 0 0))] [(0,1,(.tmp 32)),(1,1,(.tmp 40))])⟩ (.op ⟨some 42,none,(.bsl 2 1 true [(.val (.int .i64 (0))),(.val (.slice none 0 0))] [(0,(.tmp 41))])⟩ (.op ⟨some 43,none,(.app false 2 32 (.tmp 26) (.tmp 42))⟩ (.op ⟨some 44,none,(.fad 5 (.tmp 3))⟩ (.op ⟨none,none,(.st 1 (.tmp 44) (.tmp 43))⟩ .done))))))))))) (.both (.op ⟨some 32,none,(.ld 1 false (.tmp 31))⟩ (.both (.op ⟨some 26,none,(.ld 1 false (.tmp 25))⟩ (.op ⟨some 33,none,(.bsl 2 0 true [(.val (.string ⟨#[]⟩)),(.val (.bool false))] [])⟩ (.op ⟨some 40,none,(.app false 2 24 (.tmp 33) (.tmp 39))⟩ (.op ⟨some 41,none,(.bld [(.val (.int .i64 (0))),(.val (.slice none 0 0))] [(0,1,(.tmp 32)),(1,1,(.tmp 40))])⟩ (.op ⟨some 42,none,(.bsl 2 1 true [(.val (.int .i64 (0))),(.val (.slice none 0 0))] [(0,(.tmp 41))])⟩ (.op ⟨some 43,none,(.app false 2 32 (.tmp 26) (.tmp 42))⟩ (.op ⟨some 44,none,(.fad 5 (.tmp 3))⟩ (.op ⟨none,none,(.st 1 (.tmp 44) (.tmp 43))⟩ .done)))))))) (.op ⟨some 33,none,(.bsl 2 0 true [(.val (.string ⟨#[]⟩)),(.val (.bool false))] [])⟩ (.both (.op ⟨some 26,none,(.ld 1 false (.tmp 25))⟩ (.op ⟨some 40,none,(.app false 2 24 (.tmp 33) (.tmp 39))⟩ (.op ⟨some 41,none,(.bld [(.val (.int .i64 (0))),(.val (.slice none 0 0))] [(0,1,(.tmp 32)),(1,1,(.tmp 40))])⟩ (.op ⟨some 42,none,(.bsl 2 1 true [(.val (.int .i64 (0))),(.val (.slice none 0 0))] [(0,(.tmp 41))])⟩ (.op ⟨some 43,none,(.app false 2 32 (.tmp 26) (.tmp 42))⟩ (.op ⟨some 44,none,(.fad 5 (.tmp 3))⟩ (.op ⟨none,none,(.st 1 (.tmp 44) (.tmp 43))⟩ .done))))))) (.op ⟨some 40,none,(.app false 2 24 (.tmp 33) (.tmp 39))⟩ (.op ⟨some 26,none,(.ld 1 false (.tmp 25))⟩ (.op ⟨some 41,none,(.bld [(.val (.int .i64 (0))),(.val (.slice none 0 0))] [(0,1,(.tmp 32)),(1,1,(.tmp 40))])⟩ (.op ⟨some 42,none,(.bsl 2 1 true [(.val (.int .i64 (0))),(.val (.slice none 0 0))] [(0,(.tmp 41))])⟩ (.op ⟨some 43,none,(.app false 2 32 (.tmp 26) (.tmp 42))⟩ (.op ⟨some 44,none,(.fad 5 (.tmp 3))⟩ (.op ⟨none,none,(.st 1 (.tmp 44) (.tmp 43))⟩ .done))))))))))) (.op ⟨some 33,none,(.bsl 2 0 true [(.val (.string ⟨#[]⟩)),(.val (.bool false))] [])⟩ (.both (.op ⟨some 26,none,(.ld 1 false (.tmp 25))⟩ (.both (.op ⟨some 32,none,(.ld 1 false (.tmp 31))⟩ (.op ⟨some 40,none,(.app false 2 24 (.tmp 33) (.tmp 39))⟩ (.op ⟨some 41,none,(.bld [(.val (.int .i64 (0))),(.val (.slice none 0 0))] [(0,1,(.tmp 32)),(1,1,(.tmp 40))])⟩ (.op ⟨some 42,none,(.bsl 2 1 true [(.val (.int .i64 (0))),(.val (.slice none 0 0))] [(0,(.tmp 41))])⟩ (.op ⟨some 43,none,(.app false 2 32 (.tmp 26) (.tmp 42))⟩ (.op ⟨some 44,none,(.fad 5 (.tmp 3))⟩ (.op ⟨none,none,(.st 1 (.tmp 44) (.tmp 43))⟩ .done))))))) (.op ⟨some 40,none,(.app false 2 24 (.tmp 33) (.tmp 39))⟩ (.op ⟨some 32,none,(.ld 1 false (.tmp 31))⟩ (.op ⟨some 41,none,(.bld [(.val (.int .i64 (0))),(.val (.slice none 0 0))] [(0,1,(.tmp 32)),(1,1,(.tmp 40))])⟩ (.op ⟨some 42,none,(.bsl 2 1 true [(.val (.int .i64 (0))),(.val (.slice none 0 0))] [(0,(.tmp 41))])⟩ (.op ⟨some 43,none,(.app false 2 32 (.tmp 26) (.tmp 42))⟩ (.op ⟨some 44,none,(.fad 5 (.tmp 3))⟩ (.op ⟨none,none,(.st 1 (.tmp 44) (.tmp 43))⟩ .done))))))))) (.both (.op ⟨some 32,none,(.ld 1 false (.tmp 31))⟩ (.both (.op ⟨some 26,none,(.ld 1 false (.tmp 25))⟩ (.op ⟨some 40,none,(.app false 2 24 (.tmp 33) (.tmp 39))⟩ (.op ⟨some 41,none,(.bld [(.val (.int .i64 (0))),(.val (.slice none 0 0))] [(0,1,(.tmp 32)),(1,1,(.tmp 40))])⟩ (.op ⟨some 42,none,(.bsl 2 1 true [(.val (.int .i64 (0))),(.val (.slice none 0 0))] [(0,(.tmp 41))])⟩ (.op ⟨some 43,none,(.app false 2 32 (.tmp 26) (.tmp 42))⟩ (.op ⟨some 44,none,(.fad 5 (.tmp 3))⟩ (.op ⟨none,none,(.st 1 (.tmp 44) (.tmp 43))⟩ .done))))))) (.op ⟨some 40,none,(.app false 2 24 (.tmp 33) (.tmp 39))⟩ (.op ⟨some 26,none,(.ld 1 false (.tmp 25))⟩ (.op ⟨some 41,none,(.bld [(.val (.int .i64 (0))),(.val (.slice none 0 0))] [(0,1,(.tmp 32)),(1,1,(.tmp 40))])⟩ (.op ⟨some 42,none,(.bsl 2 1 true [(.val (.int .i64 (0))),(.val (.slice none 0 0))] [(0,(.tmp 41))])⟩ (.op ⟨some 43,none,(.app false 2 32 (.tmp 26) (.tmp 42))⟩ (.op ⟨some 44,none,(.fad 5 (.tmp 3))⟩ (.op ⟨none,none,(.st 1 (.tmp 44) (.tmp 43))⟩ .done))))))))) (.op ⟨some 40,none,(.app false 2 24 (.tmp 33) (.tmp 39))⟩ (.op ⟨some 26,none,(.ld 1 false (.tmp 25))⟩ (.op ⟨some 32,none,(.ld 1 false (.tmp 31))⟩ (.op ⟨some 41,none,(.bld [(.val (.int .i64 (0))),(.val (.slice none 0 0))] [(0,1,(.tmp 32)),(1,1,(.tmp 40))])⟩ (.op ⟨some 42,none,(.bsl 2 1 true [(.val (.int .i64 (0))),(.val (.slice none 0 0))] [(0,(.tmp 41))])⟩ (.op ⟨some 43,none,(.app false 2 32 (.tmp 26) (.tmp 42))⟩ (.op ⟨some 44,none,(.fad 5 (.tmp 3))⟩ (.op ⟨none,none,(.st 1 (.tmp 44) (.tmp 43))⟩ .done)))))))))))))))) (.op ⟨some 33,none,(.bsl 2 0 true [(.val (.string ⟨#[]⟩)),(.val (.bool false))] [])⟩ (.both (.op ⟨some 26,none,(.ld 1 false (.tmp 25))⟩ (.both (.op ⟨some 28,none,(.ld 1 false (.tmp 27))⟩ (.op ⟨some 30,none,(.iad 2 (.tmp 28) (.tmp 29))⟩ (.op ⟨some 31,none,(.fad 0 (.tmp 30))⟩ (.both (.op ⟨some 32,none,(.ld 1 false (.tmp 31))⟩ (.op ⟨some 40,none,(.app false 2 24 (.tmp 33) (.tmp 39))⟩ (.op ⟨some 41,none,(.bld [(.val (.int .i64 (0))),(.val (.slice none 0 0))] [(0,1,(.tmp 32)),(1,1,(.tmp 40))])⟩ (.op ⟨some 42,none,(.bsl 2 1 true [(.val (.int .i64 (0))),(.val (.slice none 0 0))] [(0,(.tmp 41))])⟩ (.op ⟨some 43,none,(.app false 2 32 (.tmp 26) (.tmp 42))⟩ (.op ⟨some 44,none,(.fad 5 (.tmp 3))⟩ (.op ⟨none,none,(.st 1 (.tmp 44) (.tmp 43))⟩ .done))))))) (.op ⟨some 40,none,(.app false 2 24 (.tmp 33) (.tmp 39))⟩ (.op ⟨some 32,none,(.ld 1 false (.tmp 31))⟩ (.op ⟨some 41,none,(.bld [(.val (.int .i64 (0))),(.val (.slice none 0 0))] [(0,1,(.tmp 32)),(1,1,(.tmp 40))])⟩ (.op ⟨some 42,none,(.bsl 2 1 true [(.val (.int .i64 (0))),(.val (.slice none 0 0))] [(0,(.tmp 41))])⟩ (.op ⟨some 43,none,(.app false 2 32 (.tmp 26) (.tmp 42))⟩ (.op ⟨some 44,none,(.fad 5 (.tmp 3))⟩ (.op ⟨none,none,(.st 1 (.tmp 44) (.tmp 43))⟩ .done))))))))))) (.op ⟨some 40,none,(.app false 2 24 (.tmp 33) (.tmp 39))⟩ (.op ⟨some 28,none,(.ld 1 false (.tmp 27))⟩ (.op ⟨some 30,none,(.iad 2 (.tmp 28) (.tmp 29))⟩ (.op ⟨some 31,none,(.fad 0 (.tmp 30))⟩ (.op ⟨some 32,none,(.ld 1 false (.tmp 31))⟩ (.op ⟨some 41,none,(.bld [(.val (.int .i64 (0))),(.val (.slice none 0 0))] [(0,1,(.tmp 32)),(1,1,(.tmp 40))])⟩ (.op ⟨some 42,none,(.bsl 2 1 true [(.val (.int .i64 (0))),(.val (.slice none 0 0))] [(0,(.tmp 41))])⟩ (.op ⟨some 43,none,(.app false 2 32 (.tmp 26) (.tmp 42))⟩ (.op ⟨some 44,none,(.fad 5 (.tmp 3))⟩ (.op ⟨none,none,(.st 1 (.tmp 44) (.tmp 43))⟩ .done)))))))))))) (.both (.op ⟨some 28,none,(.ld 1 false (.tmp 27))⟩ (.op ⟨some 30,none,(.iad 2 (.tmp 28) (.tmp 29))⟩ (.op ⟨some 31,none,(.fad 0 (.tmp 30))⟩ (.both (.op ⟨some 26,none,(.ld 1 false (.tmp 25))⟩ (.both (.op ⟨some 32,none,(.ld 1 false (.tmp 31))⟩ (.op ⟨some 40,none,(.app false 2 24 (.tmp 33) (.tmp 39))⟩ (.op ⟨some 41,none,(.bld [(.val (.int .i64 (0))),(.val (.slice none 0 0))] [(0,1,(.tmp 32)),(1,1,(.tmp 40))])⟩ (.op ⟨some 42,none,(.bsl 2 1 true [(.val (.int .i64 (0))),(.val (.slice none 0 0))] [(0,(.tmp 41))])⟩ (.op ⟨some 43,none,(.app false 2 32 (.tmp 26) (.tmp 42))⟩ (.op ⟨some 44,none,(.fad 5 (.tmp 3))⟩ (.op ⟨none,none,(.st 1 (.tmp 44) (.tmp 43))⟩ .done))))))) (.op ⟨some 40,none,(.app false 2 24 (.tmp 33) (.tmp 39))⟩ (.op ⟨some 32,none,(.ld 1 false (.tmp 31))⟩ (.op ⟨some 41,none,(.bld [(.val (.int .i64 (0))),(.val (.slice none 0 0))] [(0,1,(.tmp 32)),(1,1,(.tmp 40))])⟩ (.op ⟨some 42,none,(.bsl 2 1 true [(.val (.int .i64 (0))),(.val (.slice none 0 0))] [(0,(.tmp 41))])⟩ (.op ⟨some 43,none,(.app false 2 32 (.tmp 26) (.tmp 42))⟩ (.op ⟨some 44,none,(.fad 5 (.tmp 3))⟩ (.op ⟨none,none,(.st 1 (.tmp 44) (.tmp 43))⟩ .done))))))))) (.both (.op ⟨some 32,none,(.ld 1 false (.tmp 31))⟩ (.both (.op ⟨some 26,none,(.ld 1 false (.tmp 25))⟩ (.op ⟨some 40,none,(.app false 2 24 (.tmp 33) (.tmp 39))⟩ (.op ⟨some 41,none,(.bld [(.val (.int .i64 (0))),(.val (.slice none 0 0))] [(0,1,(.tmp 32)),(1,1,(.tmp 40))])⟩ (.op ⟨some 42,none,(.bsl 2 1 true [(.val (.int .i64 (0))),(.val (.slice none 0 0))] [(0,(.tmp 41))])⟩ (.op ⟨some 43,none,(.app false 2 32 (.tmp 26) (.tmp 42))⟩ (.op ⟨some 44,none,(.fad 5 (.tmp 3))⟩ (.op ⟨none,none,(.st 1 (.tmp 44) (.tmp 43))⟩ .done))))))) (.op ⟨some 40,none,(.app false 2 24 (.tmp 33) (.tmp 39))⟩ (.op ⟨some 26,none,(.ld 1 false (.tmp 25))⟩ (.op ⟨some 41,none,(.bld [(.val (.int .i64 (0))),(.val (.slice none 0 0))] [(0,1,(.tmp 32)),(1,1,(.tmp 40))])⟩ (.op ⟨some 42,none,(.bsl 2 1 true [(.val (.int .i64 (0))),(.val (.slice none 0 0))] [(0,(.tmp 41))])⟩ (.op ⟨some 43,none,(.app false 2 32 (.tmp 26) (.tmp 42))⟩ (.op ⟨some 44,none,(.fad 5 (.tmp 3))⟩ (.op ⟨none,none,(.st 1 (.tmp 44) (.tmp 43))⟩ .done))))))))) (.op ⟨some 40,none,(.app false 2 24 (.tmp 33) (.tmp 39))⟩ (.op ⟨some 26,none,(.ld 1 false (.tmp 25))⟩ (.op ⟨some 32,none,(.ld 1 false (.tmp 31))⟩ (.op ⟨some 41,none,(.bld [(.val (.int .i64 (0))),(.val (.slice none 0 0))] [(0,1,(.tmp 32)),(1,1,(.tmp 40))])⟩ (.op ⟨some 42,none,(.bsl 2 1 true [(.val (.int .i64 (0))),(.val (.slice none 0 0))] [(0,(.tmp 41))])⟩ (.op ⟨some 43,none,(.app false 2 32 (.tmp 26) (.tmp 42))⟩ (.op ⟨some 44,none,(.fad 5 (.tmp 3))⟩ (.op ⟨none,none,(.st 1 (.tmp 44) (.tmp 43))⟩ .done))))))))))))) (.op ⟨some 40,none,(.app false 2 24 (.tmp 33) (.tmp 39))⟩ (.op ⟨some 26,none,(.ld 1 false (.tmp 25))⟩ (.op ⟨some 28,none,(.ld 1 false (.tmp 27))⟩ (.op ⟨some 30,none,(.iad 2 (.tmp 28) (.tmp 29))⟩ (.op ⟨some 31,none,(.fad 0 (.tmp 30))⟩ (.op ⟨some 32,none,(.ld 1 false (.tmp 31))⟩ (.op ⟨some 41,none,(.bld [(.val (.int .i64 (0))),(.val (.slice none 0 0))] [(0,1,(.tmp 32)),(1,1,(.tmp 40))])⟩ (.op ⟨some 42,none,(.bsl 2 1 true [(.val (.int .i64 (0))),(.val (.slice none 0 0))] [(0,(.tmp 41))])⟩ (.op ⟨some 43,none,(.app false 2 32 (.tmp 26) (.tmp 42))⟩ (.op ⟨some 44,none,(.fad 5 (.tmp 3))⟩ (.op ⟨none,none,(.st 1 (.tmp 44) (.tmp 43))⟩ .done))))))))))))))))))))))))))) (.reg true (.op ⟨some 23,none,(.mv (.tmp 4))⟩ (.op ⟨some 24,none,(.bin .add (.tmp 23) (.const (.int .i64 (1))))⟩ (.op ⟨some 4,none,(.mv (.tmp 24))⟩ .done))))))))) (.seq (.reg true (.op ⟨some 45,none,(.ld 6 true (.tmp 3))⟩ (.op ⟨none,none,(.st 6 (.tmp 2) (.tmp 45))⟩ .done))) .ret))))))),res := [(.c 2 6 true)],n := 46 }
theorem hn_18 : nFn Try.prog 18 = some nf_18 := by kernel_rfl
def B_f59_L0 (N : Nat) {Ω : Type} (kx : DenS (.pr (.bx 2 tPeer) (.bx 3 tPeer)) → Option Ω) (kr : (Den tPeer) → Option Ω) (rec_ : DenS (.pr (.ip 1 tPeer) (.pr (.bx 2 tPeer) (.pr (.bx 3 tPeer) (.d 4 I)))) → Option Ω) : DenS (.pr (.ip 1 tPeer) (.pr (.bx 2 tPeer) (.pr (.bx 3 tPeer) (.d 4 I)))) → Option Ω := fun (s1,s2,s3,s4) =>
 (bif (decide (s4 < (s1.2.2.2.2.2.length : Int))) then (bif (decide (0 ≤ s4) && decide (s4 < s1.2.2.2.2.2.length)) then agree (agree ((bif (decide (0 ≤ s4) && decide (s4 < s1.2.2.2.2.2.length)) then agree ((bif (decide ((([] : List (Den tItem)).length + ((s1.2.2.2.2.2.getD s4.toNat (dft tShelf)).2).length) * 24 ≤ 140737488355328)) then (bif (decide ((s3.2.2.2.2.2.length + ([((s1.2.2.2.2.2.getD s4.toNat (dft tShelf)).1,(([] : List (Den tItem)) ++ ((s1.2.2.2.2.2.getD s4.toNat (dft tShelf)).2)))] : List (Den tShelf)).length) * 32 ≤ 140737488355328)) then rec_ (s1,s2,(s3.1,s3.2.1,s3.2.2.1,s3.2.2.2.1,s3.2.2.2.2.1,(s3.2.2.2.2.2 ++ ([((s1.2.2.2.2.2.getD s4.toNat (dft tShelf)).1,(([] : List (Den tItem)) ++ ((s1.2.2.2.2.2.getD s4.toNat (dft tShelf)).2)))] : List (Den tShelf)))),(wrap64 (s4 + (1:Int)))) else none) else none)) (agree ((bif (decide ((([] : List (Den tItem)).length + ((s1.2.2.2.2.2.getD s4.toNat (dft tShelf)).2).length) * 24 ≤ 140737488355328)) then (bif (decide ((s3.2.2.2.2.2.length + ([((s1.2.2.2.2.2.getD s4.toNat (dft tShelf)).1,(([] : List (Den tItem)) ++ ((s1.2.2.2.2.2.getD s4.toNat (dft tShelf)).2)))] : List (Den tShelf)).length) * 32 ≤ 140737488355328)) then rec_ (s1,s2,(s3.1,s3.2.1,s3.2.2.1,s3.2.2.2.1,s3.2.2.2.2.1,(s3.2.2.2.2.2 ++ ([((s1.2.2.2.2.2.getD s4.toNat (dft tShelf)).1,(([] : List (Den tItem)) ++ ((s1.2.2.2.2.2.getD s4.toNat (dft tShelf)).2)))] : List (Den tShelf)))),(wrap64 (s4 + (1:Int)))) else none) else none)) ((bif (decide ((([] : List (Den tItem)).length + ((s1.2.2.2.2.2.getD s4.toNat (dft tShelf)).2).length) * 24 ≤ 140737488355328)) then (bif (decide ((s3.2.2.2.2.2.length + ([((s1.2.2.2.2.2.getD s4.toNat (dft tShelf)).1,(([] : List (Den tItem)) ++ ((s1.2.2.2.2.2.getD s4.toNat (dft tShelf)).2)))] : List (Den tShelf)).length) * 32 ≤ 140737488355328)) then rec_ (s1,s2,(s3.1,s3.2.1,s3.2.2.1,s3.2.2.2.1,s3.2.2.2.2.1,(s3.2.2.2.2.2 ++ ([((s1.2.2.2.2.2.getD s4.toNat (dft tShelf)).1,(([] : List (Den tItem)) ++ ((s1.2.2.2.2.2.getD s4.toNat (dft tShelf)).2)))] : List (Den tShelf)))),(wrap64 (s4 + (1:Int)))) else none) else none))) else none)) (agree ((bif (decide (0 ≤ s4) && decide (s4 < s1.2.2.2.2.2.length)) then agree ((bif (decide ((([] : List (Den tItem)).length + ((s1.2.2.2.2.2.getD s4.toNat (dft tShelf)).2).length) * 24 ≤ 140737488355328)) then (bif (decide ((s3.2.2.2.2.2.length + ([((s1.2.2.2.2.2.getD s4.toNat (dft tShelf)).1,(([] : List (Den tItem)) ++ ((s1.2.2.2.2.2.getD s4.toNat (dft tShelf)).2)))] : List (Den tShelf)).length) * 32 ≤ 140737488355328)) then rec_ (s1,s2,(s3.1,s3.2.1,s3.2.2.1,s3.2.2.2.1,s3.2.2.2.2.1,(s3.2.2.2.2.2 ++ ([((s1.2.2.2.2.2.getD s4.toNat (dft tShelf)).1,(([] : List (Den tItem)) ++ ((s1.2.2.2.2.2.getD s4.toNat (dft tShelf)).2)))] : List (Den tShelf)))),(wrap64 (s4 + (1:Int)))) else none) else none)) ((bif (decide ((([] : List (Den tItem)).length + ((s1.2.2.2.2.2.getD s4.toNat (dft tShelf)).2).length) * 24 ≤ 140737488355328)) then (bif (decide ((s3.2.2.2.2.2.length + ([((s1.2.2.2.2.2.getD s4.toNat (dft tShelf)).1,(([] : List (Den tItem)) ++ ((s1.2.2.2.2.2.getD s4.toNat (dft tShelf)).2)))] : List (Den tShelf)).length) * 32 ≤ 140737488355328)) then rec_ (s1,s2,(s3.1,s3.2.1,s3.2.2.1,s3.2.2.2.1,s3.2.2.2.2.1,(s3.2.2.2.2.2 ++ ([((s1.2.2.2.2.2.getD s4.toNat (dft tShelf)).1,(([] : List (Den tItem)) ++ ((s1.2.2.2.2.2.getD s4.toNat (dft tShelf)).2)))] : List (Den tShelf)))),(wrap64 (s4 + (1:Int)))) else none) else none)) else none)) ((bif (decide ((([] : List (Den tItem)).length + ((s1.2.2.2.2.2.getD s4.toNat (dft tShelf)).2).length) * 24 ≤ 140737488355328)) then (bif (decide (0 ≤ s4) && decide (s4 < s1.2.2.2.2.2.length)) then (bif (decide ((s3.2.2.2.2.2.length + ([((s1.2.2.2.2.2.getD s4.toNat (dft tShelf)).1,(([] : List (Den tItem)) ++ ((s1.2.2.2.2.2.getD s4.toNat (dft tShelf)).2)))] : List (Den tShelf)).length) * 32 ≤ 140737488355328)) then rec_ (s1,s2,(s3.1,s3.2.1,s3.2.2.1,s3.2.2.2.1,s3.2.2.2.2.1,(s3.2.2.2.2.2 ++ ([((s1.2.2.2.2.2.getD s4.toNat (dft tShelf)).1,(([] : List (Den tItem)) ++ ((s1.2.2.2.2.2.getD s4.toNat (dft tShelf)).2)))] : List (Den tShelf)))),(wrap64 (s4 + (1:Int)))) else none) else none) else none)))) (agree ((bif (decide (0 ≤ s4) && decide (s4 < s1.2.2.2.2.2.length)) then agree (agree ((bif (decide ((([] : List (Den tItem)).length + ((s1.2.2.2.2.2.getD s4.toNat (dft tShelf)).2).length) * 24 ≤ 140737488355328)) then (bif (decide ((s3.2.2.2.2.2.length + ([((s1.2.2.2.2.2.getD s4.toNat (dft tShelf)).1,(([] : List (Den tItem)) ++ ((s1.2.2.2.2.2.getD s4.toNat (dft tShelf)).2)))] : List (Den tShelf)).length) * 32 ≤ 140737488355328)) then rec_ (s1,s2,(s3.1,s3.2.1,s3.2.2.1,s3.2.2.2.1,s3.2.2.2.2.1,(s3.2.2.2.2.2 ++ ([((s1.2.2.2.2.2.getD s4.toNat (dft tShelf)).1,(([] : List (Den tItem)) ++ ((s1.2.2.2.2.2.getD s4.toNat (dft tShelf)).2)))] : List (Den tShelf)))),(wrap64 (s4 + (1:Int)))) else none) else none)) (agree ((bif (decide ((([] : List (Den tItem)).length + ((s1.2.2.2.2.2.getD s4.toNat (dft tShelf)).2).length) * 24 ≤ 140737488355328)) then (bif (decide ((s3.2.2.2.2.2.length + ([((s1.2.2.2.2.2.getD s4.toNat (dft tShelf)).1,(([] : List (Den tItem)) ++ ((s1.2.2.2.2.2.getD s4.toNat (dft tShelf)).2)))] : List (Den tShelf)).length) * 32 ≤ 140737488355328)) then rec_ (s1,s2,(s3.1,s3.2.1,s3.2.2.1,s3.2.2.2.1,s3.2.2.2.2.1,(s3.2.2.2.2.2 ++ ([((s1.2.2.2.2.2.getD s4.toNat (dft tShelf)).1,(([] : List (Den tItem)) ++ ((s1.2.2.2.2.2.getD s4.toNat (dft tShelf)).2)))] : List (Den tShelf)))),(wrap64 (s4 + (1:Int)))) else none) else none)) ((bif (decide ((([] : List (Den tItem)).length + ((s1.2.2.2.2.2.getD s4.toNat (dft tShelf)).2).length) * 24 ≤ 140737488355328)) then (bif (decide ((s3.2.2.2.2.2.length + ([((s1.2.2.2.2.2.getD s4.toNat (dft tShelf)).1,(([] : List (Den tItem)) ++ ((s1.2.2.2.2.2.getD s4.toNat (dft tShelf)).2)))] : List (Den tShelf)).length) * 32 ≤ 140737488355328)) then rec_ (s1,s2,(s3.1,s3.2.1,s3.2.2.1,s3.2.2.2.1,s3.2.2.2.2.1,(s3.2.2.2.2.2 ++ ([((s1.2.2.2.2.2.getD s4.toNat (dft tShelf)).1,(([] : List (Den tItem)) ++ ((s1.2.2.2.2.2.getD s4.toNat (dft tShelf)).2)))] : List (Den tShelf)))),(wrap64 (s4 + (1:Int)))) else none) else none)))) (agree (agree ((bif (decide ((([] : List (Den tItem)).length + ((s1.2.2.2.2.2.getD s4.toNat (dft tShelf)).2).length) * 24 ≤ 140737488355328)) then (bif (decide ((s3.2.2.2.2.2.length + ([((s1.2.2.2.2.2.getD s4.toNat (dft tShelf)).1,(([] : List (Den tItem)) ++ ((s1.2.2.2.2.2.getD s4.toNat (dft tShelf)).2)))] : List (Den tShelf)).length) * 32 ≤ 140737488355328)) then rec_ (s1,s2,(s3.1,s3.2.1,s3.2.2.1,s3.2.2.2.1,s3.2.2.2.2.1,(s3.2.2.2.2.2 ++ ([((s1.2.2.2.2.2.getD s4.toNat (dft tShelf)).1,(([] : List (Den tItem)) ++ ((s1.2.2.2.2.2.getD s4.toNat (dft tShelf)).2)))] : List (Den tShelf)))),(wrap64 (s4 + (1:Int)))) else none) else none)) (agree ((bif (decide ((([] : List (Den tItem)).length + ((s1.2.2.2.2.2.getD s4.toNat (dft tShelf)).2).length) * 24 ≤ 140737488355328)) then (bif (decide ((s3.2.2.2.2.2.length + ([((s1.2.2.2.2.2.getD s4.toNat (dft tShelf)).1,(([] : List (Den tItem)) ++ ((s1.2.2.2.2.2.getD s4.toNat (dft tShelf)).2)))] : List (Den tShelf)).length) * 32 ≤ 140737488355328)) then rec_ (s1,s2,(s3.1,s3.2.1,s3.2.2.1,s3.2.2.2.1,s3.2.2.2.2.1,(s3.2.2.2.2.2 ++ ([((s1.2.2.2.2.2.getD s4.toNat (dft tShelf)).1,(([] : List (Den tItem)) ++ ((s1.2.2.2.2.2.getD s4.toNat (dft tShelf)).2)))] : List (Den tShelf)))),(wrap64 (s4 + (1:Int)))) else none) else none)) ((bif (decide ((([] : List (Den tItem)).length + ((s1.2.2.2.2.2.getD s4.toNat (dft tShelf)).2).length) * 24 ≤ 140737488355328)) then (bif (decide ((s3.2.2.2.2.2.length + ([((s1.2.2.2.2.2.getD s4.toNat (dft tShelf)).1,(([] : List (Den tItem)) ++ ((s1.2.2.2.2.2.getD s4.toNat (dft tShelf)).2)))] : List (Den tShelf)).length) * 32 ≤ 140737488355328)) then rec_ (s1,s2,(s3.1,s3.2.1,s3.2.2.1,s3.2.2.2.1,s3.2.2.2.2.1,(s3.2.2.2.2.2 ++ ([((s1.2.2.2.2.2.getD s4.toNat (dft tShelf)).1,(([] : List (Den tItem)) ++ ((s1.2.2.2.2.2.getD s4.toNat (dft tShelf)).2)))] : List (Den tShelf)))),(wrap64 (s4 + (1:Int)))) else none) else none)))) (agree (agree ((bif (decide ((([] : List (Den tItem)).length + ((s1.2.2.2.2.2.getD s4.toNat (dft tShelf)).2).length) * 24 ≤ 140737488355328)) then (bif (decide ((s3.2.2.2.2.2.length + ([((s1.2.2.2.2.2.getD s4.toNat (dft tShelf)).1,(([] : List (Den tItem)) ++ ((s1.2.2.2.2.2.getD s4.toNat (dft tShelf)).2)))] : List (Den tShelf)).length) * 32 ≤ 140737488355328)) then rec_ (s1,s2,(s3.1,s3.2.1,s3.2.2.1,s3.2.2.2.1,s3.2.2.2.2.1,(s3.2.2.2.2.2 ++ ([((s1.2.2.2.2.2.getD s4.toNat (dft tShelf)).1,(([] : List (Den tItem)) ++ ((s1.2.2.2.2.2.getD s4.toNat (dft tShelf)).2)))] : List (Den tShelf)))),(wrap64 (s4 + (1:Int)))) else none) else none)) ((bif (decide ((([] : List (Den tItem)).length + ((s1.2.2.2.2.2.getD s4.toNat (dft tShelf)).2).length) * 24 ≤ 140737488355328)) then (bif (decide ((s3.2.2.2.2.2.length + ([((s1.2.2.2.2.2.getD s4.toNat (dft tShelf)).1,(([] : List (Den tItem)) ++ ((s1.2.2.2.2.2.getD s4.toNat (dft tShelf)).2)))] : List (Den tShelf)).length) * 32 ≤ 140737488355328)) then rec_ (s1,s2,(s3.1,s3.2.1,s3.2.2.1,s3.2.2.2.1,s3.2.2.2.2.1,(s3.2.2.2.2.2 ++ ([((s1.2.2.2.2.2.getD s4.toNat (dft tShelf)).1,(([] : List (Den tItem)) ++ ((s1.2.2.2.2.2.getD s4.toNat (dft tShelf)).2)))] : List (Den tShelf)))),(wrap64 (s4 + (1:Int)))) else none) else none))) (agree (agree ((bif (decide ((([] : List (Den tItem)).length + ((s1.2.2.2.2.2.getD s4.toNat (dft tShelf)).2).length) * 24 ≤ 140737488355328)) then (bif (decide ((s3.2.2.2.2.2.length + ([((s1.2.2.2.2.2.getD s4.toNat (dft tShelf)).1,(([] : List (Den tItem)) ++ ((s1.2.2.2.2.2.getD s4.toNat (dft tShelf)).2)))] : List (Den tShelf)).length) * 32 ≤ 140737488355328)) then rec_ (s1,s2,(s3.1,s3.2.1,s3.2.2.1,s3.2.2.2.1,s3.2.2.2.2.1,(s3.2.2.2.2.2 ++ ([((s1.2.2.2.2.2.getD s4.toNat (dft tShelf)).1,(([] : List (Den tItem)) ++ ((s1.2.2.2.2.2.getD s4.toNat (dft tShelf)).2)))] : List (Den tShelf)))),(wrap64 (s4 + (1:Int)))) else none) else none)) ((bif (decide ((([] : List (Den tItem)).length + ((s1.2.2.2.2.2.getD s4.toNat (dft tShelf)).2).length) * 24 ≤ 140737488355328)) then (bif (decide ((s3.2.2.2.2.2.length + ([((s1.2.2.2.2.2.getD s4.toNat (dft tShelf)).1,(([] : List (Den tItem)) ++ ((s1.2.2.2.2.2.getD s4.toNat (dft tShelf)).2)))] : List (Den tShelf)).length) * 32 ≤ 140737488355328)) then rec_ (s1,s2,(s3.1,s3.2.1,s3.2.2.1,s3.2.2.2.1,s3.2.2.2.2.1,(s3.2.2.2.2.2 ++ ([((s1.2.2.2.2.2.getD s4.toNat (dft tShelf)).1,(([] : List (Den tItem)) ++ ((s1.2.2.2.2.2.getD s4.toNat (dft tShelf)).2)))] : List (Den tShelf)))),(wrap64 (s4 + (1:Int)))) else none) else none))) ((bif (decide ((([] : List (Den tItem)).length + ((s1.2.2.2.2.2.getD s4.toNat (dft tShelf)).2).length) * 24 ≤ 140737488355328)) then (bif (decide ((s3.2.2.2.2.2.length + ([((s1.2.2.2.2.2.getD s4.toNat (dft tShelf)).1,(([] : List (Den tItem)) ++ ((s1.2.2.2.2.2.getD s4.toNat (dft tShelf)).2)))] : List (Den tShelf)).length) * 32 ≤ 140737488355328)) then rec_ (s1,s2,(s3.1,s3.2.1,s3.2.2.1,s3.2.2.2.1,s3.2.2.2.2.1,(s3.2.2.2.2.2 ++ ([((s1.2.2.2.2.2.getD s4.toNat (dft tShelf)).1,(([] : List (Den tItem)) ++ ((s1.2.2.2.2.2.getD s4.toNat (dft tShelf)).2)))] : List (Den tShelf)))),(wrap64 (s4 + (1:Int)))) else none) else none))))) else none)) (agree (agree ((bif (decide (0 ≤ s4) && decide (s4 < s1.2.2.2.2.2.length)) then agree ((bif (decide ((([] : List (Den tItem)).length + ((s1.2.2.2.2.2.getD s4.toNat (dft tShelf)).2).length) * 24 ≤ 140737488355328)) then (bif (decide ((s3.2.2.2.2.2.length + ([((s1.2.2.2.2.2.getD s4.toNat (dft tShelf)).1,(([] : List (Den tItem)) ++ ((s1.2.2.2.2.2.getD s4.toNat (dft tShelf)).2)))] : List (Den tShelf)).length) * 32 ≤ 140737488355328)) then rec_ (s1,s2,(s3.1,s3.2.1,s3.2.2.1,s3.2.2.2.1,s3.2.2.2.2.1,(s3.2.2.2.2.2 ++ ([((s1.2.2.2.2.2.getD s4.toNat (dft tShelf)).1,(([] : List (Den tItem)) ++ ((s1.2.2.2.2.2.getD s4.toNat (dft tShelf)).2)))] : List (Den tShelf)))),(wrap64 (s4 + (1:Int)))) else none) else none)) ((bif (decide ((([] : List (Den tItem)).length + ((s1.2.2.2.2.2.getD s4.toNat (dft tShelf)).2).length) * 24 ≤ 140737488355328)) then (bif (decide ((s3.2.2.2.2.2.length + ([((s1.2.2.2.2.2.getD s4.toNat (dft tShelf)).1,(([] : List (Den tItem)) ++ ((s1.2.2.2.2.2.getD s4.toNat (dft tShelf)).2)))] : List (Den tShelf)).length) * 32 ≤ 140737488355328)) then rec_ (s1,s2,(s3.1,s3.2.1,s3.2.2.1,s3.2.2.2.1,s3.2.2.2.2.1,(s3.2.2.2.2.2 ++ ([((s1.2.2.2.2.2.getD s4.toNat (dft tShelf)).1,(([] : List (Den tItem)) ++ ((s1.2.2.2.2.2.getD s4.toNat (dft tShelf)).2)))] : List (Den tShelf)))),(wrap64 (s4 + (1:Int)))) else none) else none)) else none)) ((bif (decide ((([] : List (Den tItem)).length + ((s1.2.2.2.2.2.getD s4.toNat (dft tShelf)).2).length) * 24 ≤ 140737488355328)) then (bif (decide (0 ≤ s4) && decide (s4 < s1.2.2.2.2.2.length)) then (bif (decide ((s3.2.2.2.2.2.length + ([((s1.2.2.2.2.2.getD s4.toNat (dft tShelf)).1,(([] : List (Den tItem)) ++ ((s1.2.2.2.2.2.getD s4.toNat (dft tShelf)).2)))] : List (Den tShelf)).length) * 32 ≤ 140737488355328)) then rec_ (s1,s2,(s3.1,s3.2.1,s3.2.2.1,s3.2.2.2.1,s3.2.2.2.2.1,(s3.2.2.2.2.2 ++ ([((s1.2.2.2.2.2.getD s4.toNat (dft tShelf)).1,(([] : List (Den tItem)) ++ ((s1.2.2.2.2.2.getD s4.toNat (dft tShelf)).2)))] : List (Den tShelf)))),(wrap64 (s4 + (1:Int)))) else none) else none) else none))) (agree ((bif (decide (0 ≤ s4) && decide (s4 < s1.2.2.2.2.2.length)) then agree (agree ((bif (decide ((([] : List (Den tItem)).length + ((s1.2.2.2.2.2.getD s4.toNat (dft tShelf)).2).length) * 24 ≤ 140737488355328)) then (bif (decide ((s3.2.2.2.2.2.length + ([((s1.2.2.2.2.2.getD s4.toNat (dft tShelf)).1,(([] : List (Den tItem)) ++ ((s1.2.2.2.2.2.getD s4.toNat (dft tShelf)).2)))] : List (Den tShelf)).length) * 32 ≤ 140737488355328)) then rec_ (s1,s2,(s3.1,s3.2.1,s3.2.2.1,s3.2.2.2.1,s3.2.2.2.2.1,(s3.2.2.2.2.2 ++ ([((s1.2.2.2.2.2.getD s4.toNat (dft tShelf)).1,(([] : List (Den tItem)) ++ ((s1.2.2.2.2.2.getD s4.toNat (dft tShelf)).2)))] : List (Den tShelf)))),(wrap64 (s4 + (1:Int)))) else none) else none)) ((bif (decide ((([] : List (Den tItem)).length + ((s1.2.2.2.2.2.getD s4.toNat (dft tShelf)).2).length) * 24 ≤ 140737488355328)) then (bif (decide ((s3.2.2.2.2.2.length + ([((s1.2.2.2.2.2.getD s4.toNat (dft tShelf)).1,(([] : List (Den tItem)) ++ ((s1.2.2.2.2.2.getD s4.toNat (dft tShelf)).2)))] : List (Den tShelf)).length) * 32 ≤ 140737488355328)) then rec_ (s1,s2,(s3.1,s3.2.1,s3.2.2.1,s3.2.2.2.1,s3.2.2.2.2.1,(s3.2.2.2.2.2 ++ ([((s1.2.2.2.2.2.getD s4.toNat (dft tShelf)).1,(([] : List (Den tItem)) ++ ((s1.2.2.2.2.2.getD s4.toNat (dft tShelf)).2)))] : List (Den tShelf)))),(wrap64 (s4 + (1:Int)))) else none) else none))) (agree (agree ((bif (decide ((([] : List (Den tItem)).length + ((s1.2.2.2.2.2.getD s4.toNat (dft tShelf)).2).length) * 24 ≤ 140737488355328)) then (bif (decide ((s3.2.2.2.2.2.length + ([((s1.2.2.2.2.2.getD s4.toNat (dft tShelf)).1,(([] : List (Den tItem)) ++ ((s1.2.2.2.2.2.getD s4.toNat (dft tShelf)).2)))] : List (Den tShelf)).length) * 32 ≤ 140737488355328)) then rec_ (s1,s2,(s3.1,s3.2.1,s3.2.2.1,s3.2.2.2.1,s3.2.2.2.2.1,(s3.2.2.2.2.2 ++ ([((s1.2.2.2.2.2.getD s4.toNat (dft tShelf)).1,(([] : List (Den tItem)) ++ ((s1.2.2.2.2.2.getD s4.toNat (dft tShelf)).2)))] : List (Den tShelf)))),(wrap64 (s4 + (1:Int)))) else none) else none)) ((bif (decide ((([] : List (Den tItem)).length + ((s1.2.2.2.2.2.getD s4.toNat (dft tShelf)).2).length) * 24 ≤ 140737488355328)) then (bif (decide ((s3.2.2.2.2.2.length + ([((s1.2.2.2.2.2.getD s4.toNat (dft tShelf)).1,(([] : List (Den tItem)) ++ ((s1.2.2.2.2.2.getD s4.toNat (dft tShelf)).2)))] : List (Den tShelf)).length) * 32 ≤ 140737488355328)) then rec_ (s1,s2,(s3.1,s3.2.1,s3.2.2.1,s3.2.2.2.1,s3.2.2.2.2.1,(s3.2.2.2.2.2 ++ ([((s1.2.2.2.2.2.getD s4.toNat (dft tShelf)).1,(([] : List (Den tItem)) ++ ((s1.2.2.2.2.2.getD s4.toNat (dft tShelf)).2)))] : List (Den tShelf)))),(wrap64 (s4 + (1:Int)))) else none) else none))) ((bif (decide ((([] : List (Den tItem)).length + ((s1.2.2.2.2.2.getD s4.toNat (dft tShelf)).2).length) * 24 ≤ 140737488355328)) then (bif (decide ((s3.2.2.2.2.2.length + ([((s1.2.2.2.2.2.getD s4.toNat (dft tShelf)).1,(([] : List (Den tItem)) ++ ((s1.2.2.2.2.2.getD s4.toNat (dft tShelf)).2)))] : List (Den tShelf)).length) * 32 ≤ 140737488355328)) then rec_ (s1,s2,(s3.1,s3.2.1,s3.2.2.1,s3.2.2.2.1,s3.2.2.2.2.1,(s3.2.2.2.2.2 ++ ([((s1.2.2.2.2.2.getD s4.toNat (dft tShelf)).1,(([] : List (Den tItem)) ++ ((s1.2.2.2.2.2.getD s4.toNat (dft tShelf)).2)))] : List (Den tShelf)))),(wrap64 (s4 + (1:Int)))) else none) else none))) else none)) ((bif (decide ((([] : List (Den tItem)).length + ((s1.2.2.2.2.2.getD s4.toNat (dft tShelf)).2).length) * 24 ≤ 140737488355328)) then (bif (decide (0 ≤ s4) && decide (s4 < s1.2.2.2.2.2.length)) then (bif (decide ((s3.2.2.2.2.2.length + ([((s1.2.2.2.2.2.getD s4.toNat (dft tShelf)).1,(([] : List (Den tItem)) ++ ((s1.2.2.2.2.2.getD s4.toNat (dft tShelf)).2)))] : List (Den tShelf)).length) * 32 ≤ 140737488355328)) then rec_ (s1,s2,(s3.1,s3.2.1,s3.2.2.1,s3.2.2.2.1,s3.2.2.2.2.1,(s3.2.2.2.2.2 ++ ([((s1.2.2.2.2.2.getD s4.toNat (dft tShelf)).1,(([] : List (Den tItem)) ++ ((s1.2.2.2.2.2.getD s4.toNat (dft tShelf)).2)))] : List (Den tShelf)))),(wrap64 (s4 + (1:Int)))) else none) else none) else none))))) else none) else kx (s2,s3))
def x_f59 (N : Nat) (a0 : (Den tPeer)) : Option (Den tPeer) :=
 (bif (decide ((([] : List Int).length + a0.2.2.2.1.length) * 8 ≤ 140737488355328)) then (bif (decide ((([] : List Int).length + a0.2.2.2.2.1.length) * 8 ≤ 140737488355328)) then iter (B_f59_L0 N (fun (x1,x2) => some x2) (fun ρ3 => some (ρ3))) N (a0,((0:Int),false,(0:Int),[],[],[]),(a0.1,a0.2.1,a0.2.2.1,(([] : List Int) ++ a0.2.2.2.1),(([] : List Int) ++ a0.2.2.2.2.1),[]),(0:Int)) else none) else none)
abbrev ct_f59 (N : Nat) : CT := ⟨18,(.d tPeer),(.t tPeer),fun a => x_f59 N a⟩
theorem c_f59 (N : Nat) : CTok Try.prog (ct_f59 N) :=
 CT_okN hn_18 (Γ := []) (Θ := [(6,I),(11,I),(16,tShelf),(33,tItem),(42,tShelf)]) (Λ := ([⟨0,0,(.pr (.ip 1 tPeer) (.pr (.bx 2 tPeer) (.pr (.bx 3 tPeer) (.d 4 I)))),(.pr (.bx 2 tPeer) (.bx 3 tPeer)),fun {Ω} kx kr => iter (B_f59_L0 N kx kr) N⟩] : List (LC (DenR (.t tPeer))))) mixed trivial (by kernel_rfl)
  ⟨LoopEq.mk N (fun Ω kx kr => B_f59_L0 N kx kr) (fun Ω g kx kr s => by kernel_rfl),trivial⟩ (by kernel_rfl) (fun a => by kernel_rfl)
def B_f57_L0 (N : Nat) {Ω : Type} (kx : DenS .un → Option Ω) (kr : (List (Den tItem)) → Option Ω) (rec_ : DenS (.pr (.d 1 I) (.pr (.ip 2 tPeer) (.d 5 I))) → Option Ω) : DenS (.pr (.d 1 I) (.pr (.ip 2 tPeer) (.d 5 I))) → Option Ω := fun (s1,s2,s5) =>
 (bif (decide (s5 < (s2.2.2.2.2.2.length : Int))) then (bif (decide (0 ≤ s5) && decide (s5 < s2.2.2.2.2.2.length)) then (bif (decide (((s2.2.2.2.2.2.getD s5.toNat (dft tShelf)).1) = s1)) then (bif (decide (0 ≤ s5) && decide (s5 < s2.2.2.2.2.2.length)) then (bif (decide ((([] : List (Den tItem)).length + ((s2.2.2.2.2.2.getD s5.toNat (dft tShelf)).2).length) * 24 ≤ 140737488355328)) then kr (([] : List (Den tItem)) ++ ((s2.2.2.2.2.2.getD s5.toNat (dft tShelf)).2)) else none) else none) else rec_ (s1,s2,(wrap64 (s5 + (1:Int))))) else none) else kx ())
def x_f57 (N : Nat) (a0 : (Den tPeer)) (a1 : Int) : Option (List (Den tItem)) :=
 iter (B_f57_L0 N (fun _ => some []) (fun ρ1 => some (ρ1))) N (a1,a0,(0:Int))
abbrev ct_f57 (N : Nat) : CT := ⟨20,(.pr (.d tPeer) (.d I)),(.t (.sl tItem)),fun a => x_f57 N a.1 a.2⟩
theorem c_f57 (N : Nat) : CTok Try.prog (ct_f57 N) :=
 CT_ok (Γ := []) (Θ := [(21,tItem),(29,tItem)]) (Λ := ([⟨0,0,(.pr (.d 1 I) (.pr (.ip 2 tPeer) (.d 5 I))),.un,fun {Ω} kx kr => iter (B_f57_L0 N kx kr) N⟩] : List (LC (DenR (.t (.sl tItem)))))) (by kernel_rfl) mixed trivial (by kernel_rfl)
  ⟨LoopEq.mk N (fun Ω kx kr => B_f57_L0 N kx kr) (fun Ω g kx kr s => by kernel_rfl),trivial⟩ (by kernel_rfl) (fun a => by kernel_rfl)
def B_f61_L0 (N : Nat) {Ω : Type} (kx : DenS (.pr (.ip 3 tItem) (.pr (.o 5 tItem) (.d 6 .bl))) → Option Ω) (kr : (List (Den tItem)) → Option Ω) (rec_ : DenS (.pr (.d 0 (.sl tItem)) (.pr (.ip 3 tItem) (.pr (.o 5 tItem) (.pr (.d 6 .bl) (.d 7 I))))) → Option Ω) : DenS (.pr (.d 0 (.sl tItem)) (.pr (.ip 3 tItem) (.pr (.o 5 tItem) (.pr (.d 6 .bl) (.d 7 I))))) → Option Ω := fun (s0,s3,s5,s6,s7) =>
 (bif (decide (s7 < (s0.length : Int))) then (bif (decide (0 ≤ s7) && decide (s7 < s0.length)) then (bif (decide (((s0.getD s7.toNat (dft tItem)).1) = s3.1)) then (bif (s0.getD s7.toNat (dft tItem)).2 then (bif (decide ((s5.length + [((s0.getD s7.toNat (dft tItem)).1,true)].length) * 24 ≤ 140737488355328)) then rec_ (s0,s3,(s5 ++ [((s0.getD s7.toNat (dft tItem)).1,true)]),true,(wrap64 (s7 + (1:Int)))) else none) else (bif (decide ((s5.length + [((s0.getD s7.toNat (dft tItem)).1,s3.2)].length) * 24 ≤ 140737488355328)) then rec_ (s0,s3,(s5 ++ [((s0.getD s7.toNat (dft tItem)).1,s3.2)]),true,(wrap64 (s7 + (1:Int)))) else none)) else (bif (!s6) then (bif (!((Op.bytesLess ((s0.getD s7.toNat (dft tItem)).1).toList s3.1.toList) || decide (((s0.getD s7.toNat (dft tItem)).1) = s3.1))) then (bif (decide ((s5.length + [s3].length) * 24 ≤ 140737488355328)) then (bif (decide (((s5 ++ [s3]).length + [((s0.getD s7.toNat (dft tItem)).1,(s0.getD s7.toNat (dft tItem)).2)].length) * 24 ≤ 140737488355328)) then rec_ (s0,s3,((s5 ++ [s3]) ++ [((s0.getD s7.toNat (dft tItem)).1,(s0.getD s7.toNat (dft tItem)).2)]),true,(wrap64 (s7 + (1:Int)))) else none) else none) else (bif (decide ((s5.length + [((s0.getD s7.toNat (dft tItem)).1,(s0.getD s7.toNat (dft tItem)).2)].length) * 24 ≤ 140737488355328)) then rec_ (s0,s3,(s5 ++ [((s0.getD s7.toNat (dft tItem)).1,(s0.getD s7.toNat (dft tItem)).2)]),s6,(wrap64 (s7 + (1:Int)))) else none)) else (bif (decide ((s5.length + [((s0.getD s7.toNat (dft tItem)).1,(s0.getD s7.toNat (dft tItem)).2)].length) * 24 ≤ 140737488355328)) then rec_ (s0,s3,(s5 ++ [((s0.getD s7.toNat (dft tItem)).1,(s0.getD s7.toNat (dft tItem)).2)]),s6,(wrap64 (s7 + (1:Int)))) else none))) else none) else kx (s3,s5,s6))
def x_f61 (N : Nat) (a0 : (List (Den tItem))) (a1 : (Den tItem)) : Option (List (Den tItem)) :=
 iter (B_f61_L0 N (fun (x1,x2,x3) => (bif (!x3) then (bif (decide ((x2.length + [x1].length) * 24 ≤ 140737488355328)) then some (x2 ++ [x1]) else none) else some x2)) (fun ρ4 => some (ρ4))) N (a0,a1,[],false,(0:Int))
abbrev ct_f61 (N : Nat) : CT := ⟨39,(.pr (.d (.sl tItem)) (.d tItem)),(.t (.sl tItem)),fun a => x_f61 N a.1 a.2⟩
theorem c_f61 (N : Nat) : CTok Try.prog (ct_f61 N) :=
 CT_ok (Γ := []) (Θ := [(9,tItem),(43,tItem),(47,tItem),(53,tItem)]) (Λ := ([⟨0,0,(.pr (.d 0 (.sl tItem)) (.pr (.ip 3 tItem) (.pr (.o 5 tItem) (.pr (.d 6 .bl) (.d 7 I))))),(.pr (.ip 3 tItem) (.pr (.o 5 tItem) (.d 6 .bl))),fun {Ω} kx kr => iter (B_f61_L0 N kx kr) N⟩] : List (LC (DenR (.t (.sl tItem)))))) (by kernel_rfl) mixed trivial (by kernel_rfl)
  ⟨LoopEq.mk N (fun Ω kx kr => B_f61_L0 N kx kr) (fun Ω g kx kr s => by kernel_rfl),trivial⟩ (by kernel_rfl) (fun a => by kernel_rfl)
def B_f54_L0 (N : Nat) {Ω : Type} (kx : DenS (.pr (.d 1 (.sl tItem)) (.o 5 tItem)) → Option Ω) (kr : (List (Den tItem)) → Option Ω) (rec_ : DenS (.pr (.d 0 (.sl tItem)) (.pr (.d 1 (.sl tItem)) (.pr (.o 5 tItem) (.d 6 I)))) → Option Ω) : DenS (.pr (.d 0 (.sl tItem)) (.pr (.d 1 (.sl tItem)) (.pr (.o 5 tItem) (.d 6 I)))) → Option Ω := fun (s0,s1,s5,s6) =>
 (bif (decide (s6 < (s0.length : Int))) then (bif (decide (0 ≤ s6) && decide (s6 < s0.length)) then (x_f61 N s5 (s0.getD s6.toNat (dft tItem))).bind fun r1 => rec_ (s0,s1,r1,(wrap64 (s6 + (1:Int)))) else none) else kx (s1,s5))
def B_f54_L2 (N : Nat) {Ω : Type} (kx : DenS (.o 5 tItem) → Option Ω) (kr : (List (Den tItem)) → Option Ω) (rec_ : DenS (.pr (.d 1 (.sl tItem)) (.pr (.o 5 tItem) (.d 7 I))) → Option Ω) : DenS (.pr (.d 1 (.sl tItem)) (.pr (.o 5 tItem) (.d 7 I))) → Option Ω := fun (s1,s5,s7) =>
 (bif (decide (s7 < (s1.length : Int))) then (bif (decide (0 ≤ s7) && decide (s7 < s1.length)) then (x_f61 N s5 (s1.getD s7.toNat (dft tItem))).bind fun r4 => rec_ (s1,r4,(wrap64 (s7 + (1:Int)))) else none) else kx s5)
def x_f54 (N : Nat) (a0 : (List (Den tItem))) (a1 : (List (Den tItem))) : Option (List (Den tItem)) :=
 iter (B_f54_L0 N (fun (x2,x3) => iter (B_f54_L2 N (fun x5 => some x5) (fun ρ6 => some (ρ6))) N (x2,x3,(0:Int))) (fun ρ7 => some (ρ7))) N (a0,a1,[],(0:Int))
abbrev ct_f54 (N : Nat) : CT := ⟨19,(.pr (.d (.sl tItem)) (.d (.sl tItem))),(.t (.sl tItem)),fun a => x_f54 N a.1 a.2⟩
theorem c_f54 (N : Nat) : CTok Try.prog (ct_f54 N) :=
 CT_ok (Γ := [.c (ct_f61 N)]) (Θ := [(8,tItem)]) (Λ := ([⟨0,0,(.pr (.d 0 (.sl tItem)) (.pr (.d 1 (.sl tItem)) (.pr (.o 5 tItem) (.d 6 I)))),(.pr (.d 1 (.sl tItem)) (.o 5 tItem)),fun {Ω} kx kr => iter (B_f54_L0 N kx kr) N⟩,⟨2,0,(.pr (.d 1 (.sl tItem)) (.pr (.o 5 tItem) (.d 7 I))),(.o 5 tItem),fun {Ω} kx kr => iter (B_f54_L2 N kx kr) N⟩] : List (LC (DenR (.t (.sl tItem)))))) (by kernel_rfl) mixed ⟨c_f61 N,trivial⟩ (by kernel_rfl)
  ⟨LoopEq.mk N (fun Ω kx kr => B_f54_L0 N kx kr) (fun Ω g kx kr s => by kernel_rfl),⟨LoopEq.mk N (fun Ω kx kr => B_f54_L2 N kx kr) (fun Ω g kx kr s => by kernel_rfl),trivial⟩⟩ (by kernel_rfl) (fun a => by kernel_rfl)
def x_f58 (N : Nat) (a0 : Int) (a1 : Int) (a2 : Int) : Option Bool :=
 (bif (decide (a1 ≤ a0)) then some (decide (a0 ≤ a2)) else some false)
abbrev ct_f58 (N : Nat) : CT := ⟨40,(.pr (.d I) (.pr (.d I) (.d I))),(.t .bl),fun a => x_f58 N a.1 a.2.1 a.2.2⟩
theorem c_f58 (N : Nat) : CTok Try.prog (ct_f58 N) :=
 CT_ok (Γ := []) (Θ := []) (Λ := ([] : List (LC (DenR (.t .bl))))) (by kernel_rfl) mixed trivial (by kernel_rfl)
  trivial (by kernel_rfl) (fun a => by kernel_rfl)
def nf_41 : NF := { body := (.seq (.reg true (.op ⟨some 2,none,(.mv (.const (.bool false)))⟩ .done)) (.seq (.seq (.reg true (.op ⟨some 3,none,(.mv (.const (.int .i64 (0))))⟩ .done)) (.block 0 (.loop (.seq (.seq (.reg true (.op ⟨some 4,none,(.mv (.tmp 3))⟩ (.op ⟨some 5,none,(.mv (.tmp 0))⟩ (.op ⟨some 6,none,(.len (.tmp 5))⟩ (.op ⟨some 7,none,(.bin .lss (.tmp 4) (.tmp 6))⟩ .done))))) (.cond (.tmp 7) .skip (.exit 0))) (.seq (.block 1 (.seq (.reg true (.op ⟨some 10,none,(.mv (.tmp 0))⟩ (.op ⟨some 11,none,(.mv (.tmp 3))⟩ (.op ⟨some 12,none,(.iad 2 (.tmp 10) (.tmp 11))⟩ (.op ⟨some 13,none,(.fad 0 (.tmp 12))⟩ (.op ⟨some 14,none,(.ld 1 false (.tmp 13))⟩ (.op ⟨some 15,none,(.lns (.tmp 14))⟩ (.op ⟨some 16,none,(.bin .gtr (.tmp 15) (.const (.int .i64 (600))))⟩ (.op ⟨some 17,none,(.mv (.tmp 16))⟩ (.op ⟨some 18,some (17,false),(.mv (.tmp 3))⟩ (.op ⟨some 19,some (17,false),(.bin .gtr (.tmp 18) (.const (.int .i64 (0))))⟩ (.op ⟨some 20,some (17,false),(.mv (.tmp 19))⟩ (.op ⟨some 21,some (20,true),(.mv (.tmp 0))⟩ (.op ⟨some 22,some (20,true),(.mv (.tmp 3))⟩ (.op ⟨some 23,some (20,true),(.bin .sub (.tmp 22) (.const (.int .i64 (1))))⟩ (.op ⟨some 24,some (20,true),(.iad 2 (.tmp 21) (.tmp 23))⟩ (.op ⟨some 25,some (20,true),(.fad 0 (.tmp 24))⟩ (.op ⟨some 26,some (20,true),(.ld 1 false (.tmp 25))⟩ (.op ⟨some 27,some (20,true),(.mv (.tmp 0))⟩ (.op ⟨some 28,some (20,true),(.mv (.tmp 3))⟩ (.op ⟨some 29,some (20,true),(.iad 2 (.tmp 27) (.tmp 28))⟩ (.op ⟨some 30,some (20,true),(.fad 0 (.tmp 29))⟩ (.op ⟨some 31,some (20,true),(.ld 1 false (.tmp 30))⟩ (.op ⟨some 32,some (20,true),(.bin .geq (.tmp 26) (.tmp 31))⟩ (.op ⟨some 33,some (17,false),(.pick (.tmp 20) (.tmp 32) (.const (.bool false)))⟩ (.op ⟨some 34,none,(.pick (.tmp 17) (.const (.bool true)) (.tmp 33))⟩ .done)))))))))))))))))))))))))) (.cond (.tmp 34) (.seq (.reg true (.op ⟨some 2,none,(.mv (.const (.bool false)))⟩ .done)) .ret) .skip))) (.reg true (.op ⟨some 8,none,(.mv (.tmp 3))⟩ (.op ⟨some 9,none,(.bin .add (.tmp 8) (.const (.int .i64 (1))))⟩ (.op ⟨some 3,none,(.mv (.tmp 9))⟩ .done))))))))) (.seq (.reg true (.op ⟨some 35,none,(.mv (.tmp 0))⟩ (.op ⟨some 36,none,(.len (.tmp 35))⟩ (.op ⟨some 37,none,(.bin .leq (.tmp 36) (.const (.int .i64 (300))))⟩ (.op ⟨some 2,none,(.mv (.tmp 37))⟩ .done))))) .ret))),res := [(.t 2)],n := 38 }
theorem hn_41 : nFn Try.prog 41 = some nf_41 := by kernel_rfl
def B_f60_L0 (N : Nat) {Ω : Type} (kx : DenS (.d 0 (.sl tItem)) → Option Ω) (kr : Bool → Option Ω) (rec_ : DenS (.pr (.d 0 (.sl tItem)) (.d 3 I)) → Option Ω) : DenS (.pr (.d 0 (.sl tItem)) (.d 3 I)) → Option Ω := fun (s0,s3) =>
 (bif (decide (s3 < (s0.length : Int))) then (bif (decide (0 ≤ s3) && decide (s3 < s0.length)) then (bif (decide ((600:Int) < (((s0.getD s3.toNat (dft tItem)).1).size : Int))) then kr false else (bif (decide ((0:Int) < s3)) then (bif (decide (0 ≤ (wrap64 (s3 - (1:Int)))) && decide ((wrap64 (s3 - (1:Int))) < s0.length)) then (bif (decide (0 ≤ s3) && decide (s3 < s0.length)) then (bif (!(Op.bytesLess ((s0.getD (wrap64 (s3 - (1:Int))).toNat (dft tItem)).1).toList ((s0.getD s3.toNat (dft tItem)).1).toList)) then kr false else rec_ (s0,(wrap64 (s3 + (1:Int))))) else none) else none) else rec_ (s0,(wrap64 (s3 + (1:Int)))))) else none) else kx s0)
def x_f60 (N : Nat) (a0 : (List (Den tItem))) : Option Bool :=
 iter (B_f60_L0 N (fun x1 => some (decide ((x1.length : Int) ≤ (300:Int)))) (fun ρ2 => some (ρ2))) N (a0,(0:Int))
abbrev ct_f60 (N : Nat) : CT := ⟨41,(.d (.sl tItem)),(.t .bl),fun a => x_f60 N a⟩
theorem c_f60 (N : Nat) : CTok Try.prog (ct_f60 N) :=
 CT_okN hn_41 (Γ := []) (Θ := []) (Λ := ([⟨0,0,(.pr (.d 0 (.sl tItem)) (.d 3 I)),(.d 0 (.sl tItem)),fun {Ω} kx kr => iter (B_f60_L0 N kx kr) N⟩] : List (LC (DenR (.t .bl))))) mixed trivial (by kernel_rfl)
  ⟨LoopEq.mk N (fun Ω kx kr => B_f60_L0 N kx kr) (fun Ω g kx kr s => by kernel_rfl),trivial⟩ (by kernel_rfl) (fun a => by kernel_rfl)
def nf_21 : NF := { body := (.seq (.reg true (.op ⟨some 1,none,(.bx 6 (.tmp 0))⟩ (.op ⟨some 2,none,(.mv (.const (.bool false)))⟩ .done))) (.seq (.seq (.reg true (.op ⟨some 7,none,(.fad 0 (.tmp 1))⟩ (.op ⟨some 8,none,(.ld 1 false (.tmp 7))⟩ (.op ⟨some 9,none,(.call 40 [(.tmp 8),(.const (.int .i64 (0))),(.const (.int .i64 (255)))])⟩ (.op ⟨some 10,none,(.un .not (.tmp 9))⟩ .done))))) (.cond (.tmp 10) (.seq (.reg true (.op ⟨some 2,none,(.mv (.const (.bool false)))⟩ .done)) .ret) .skip)) (.seq (.seq (.reg true (.op ⟨some 11,none,(.fad 1 (.tmp 1))⟩ (.op ⟨some 12,none,(.ld 1 false (.tmp 11))⟩ (.op ⟨some 13,none,(.un .not (.tmp 12))⟩ .done)))) (.cond (.tmp 13) (.seq (.reg true (.op ⟨some 14,none,(.fad 2 (.tmp 1))⟩ (.op ⟨some 15,none,(.ld 1 false (.tmp 14))⟩ (.op ⟨some 16,none,(.bin .eql (.tmp 15) (.const (.int .i64 (0))))⟩ (.op ⟨some 17,none,(.mv (.tmp 16))⟩ (.op ⟨some 18,some (17,true),(.fad 3 (.tmp 1))⟩ (.op ⟨some 19,some (17,true),(.ld 1 false (.tmp 18))⟩ (.op ⟨some 20,some (17,true),(.len (.tmp 19))⟩ (.op ⟨some 21,some (17,true),(.bin .eql (.tmp 20) (.const (.int .i64 (0))))⟩ (.op ⟨some 22,none,(.pick (.tmp 17) (.tmp 21) (.const (.bool false)))⟩ (.op ⟨some 23,none,(.mv (.tmp 22))⟩ (.op ⟨some 24,some (23,true),(.fad 4 (.tmp 1))⟩ (.op ⟨some 25,some (23,true),(.ld 1 false (.tmp 24))⟩ (.op ⟨some 26,some (23,true),(.len (.tmp 25))⟩ (.op ⟨some 27,some (23,true),(.bin .eql (.tmp 26) (.const (.int .i64 (0))))⟩ (.op ⟨some 28,none,(.pick (.tmp 23) (.tmp 27) (.const (.bool false)))⟩ (.op ⟨some 29,none,(.mv (.tmp 28))⟩ (.op ⟨some 30,some (29,true),(.fad 5 (.tmp 1))⟩ (.op ⟨some 31,some (29,true),(.ld 1 false (.tmp 30))⟩ (.op ⟨some 32,some (29,true),(.len (.tmp 31))⟩ (.op ⟨some 33,some (29,true),(.bin .eql (.tmp 32) (.const (.int .i64 (0))))⟩ (.op ⟨some 34,none,(.pick (.tmp 29) (.tmp 33) (.const (.bool false)))⟩ (.op ⟨some 2,none,(.mv (.tmp 34))⟩ .done))))))))))))))))))))))) .ret) .skip)) (.seq (.seq (.reg true (.op ⟨some 35,none,(.fad 2 (.tmp 1))⟩ (.op ⟨some 36,none,(.ld 1 false (.tmp 35))⟩ (.op ⟨some 37,none,(.call 40 [(.tmp 36),(.const (.int .i64 (-1))),(.const (.int .i64 (255)))])⟩ (.op ⟨some 38,none,(.un .not (.tmp 37))⟩ (.op ⟨some 39,none,(.mv (.tmp 38))⟩ (.op ⟨some 40,some (39,false),(.fad 3 (.tmp 1))⟩ (.op ⟨some 41,some (39,false),(.ld 1 false (.tmp 40))⟩ (.op ⟨some 42,some (39,false),(.len (.tmp 41))⟩ (.op ⟨some 43,some (39,false),(.bin .gtr (.tmp 42) (.const (.int .i64 (3))))⟩ (.op ⟨some 44,none,(.pick (.tmp 39) (.const (.bool true)) (.tmp 43))⟩ (.op ⟨some 45,none,(.mv (.tmp 44))⟩ (.op ⟨some 46,some (45,false),(.fad 4 (.tmp 1))⟩ (.op ⟨some 47,some (45,false),(.ld 1 false (.tmp 46))⟩ (.op ⟨some 48,some (45,false),(.len (.tmp 47))⟩ (.op ⟨some 49,some (45,false),(.bin .neq (.tmp 48) (.const (.int .i64 (8))))⟩ (.op ⟨some 50,none,(.pick (.tmp 45) (.const (.bool true)) (.tmp 49))⟩ (.op ⟨some 51,none,(.mv (.tmp 50))⟩ (.op ⟨some 52,some (51,false),(.fad 5 (.tmp 1))⟩ (.op ⟨some 53,some (51,false),(.ld 1 false (.tmp 52))⟩ (.op ⟨some 54,some (51,false),(.len (.tmp 53))⟩ (.op ⟨some 55,some (51,false),(.bin .gtr (.tmp 54) (.const (.int .i64 (80))))⟩ (.op ⟨some 56,none,(.pick (.tmp 51) (.const (.bool true)) (.tmp 55))⟩ .done))))))))))))))))))))))) (.cond (.tmp 56) (.seq (.reg true (.op ⟨some 2,none,(.mv (.const (.bool false)))⟩ .done)) .ret) .skip)) (.seq (.seq (.reg true (.op ⟨some 3,none,(.mv (.const (.int .i64 (0))))⟩ .done)) (.block 0 (.loop (.seq (.seq (.reg true (.op ⟨some 57,none,(.mv (.tmp 3))⟩ (.op ⟨some 58,none,(.fad 3 (.tmp 1))⟩ (.op ⟨some 59,none,(.ld 1 false (.tmp 58))⟩ (.op ⟨some 60,none,(.len (.tmp 59))⟩ (.op ⟨some 61,none,(.bin .lss (.tmp 57) (.tmp 60))⟩ .done)))))) (.cond (.tmp 61) .skip (.exit 0))) (.seq (.block 1 (.seq (.reg true (.op ⟨some 64,none,(.fad 3 (.tmp 1))⟩ (.op ⟨some 65,none,(.ld 1 false (.tmp 64))⟩ (.op ⟨some 66,none,(.mv (.tmp 3))⟩ (.op ⟨some 67,none,(.iad 1 (.tmp 65) (.tmp 66))⟩ (.op ⟨some 68,none,(.ld 1 false (.tmp 67))⟩ (.op ⟨some 69,none,(.call 40 [(.tmp 68),(.const (.int .i64 (0))),(.const (.int .i64 (255)))])⟩ (.op ⟨some 70,none,(.un .not (.tmp 69))⟩ (.op ⟨some 71,none,(.mv (.tmp 70))⟩ (.op ⟨some 72,some (71,false),(.fad 3 (.tmp 1))⟩ (.op ⟨some 73,some (71,false),(.ld 1 false (.tmp 72))⟩ (.op ⟨some 74,some (71,false),(.mv (.tmp 3))⟩ (.op ⟨some 75,some (71,false),(.iad 1 (.tmp 73) (.tmp 74))⟩ (.op ⟨some 76,some (71,false),(.ld 1 false (.tmp 75))⟩ (.op ⟨some 77,some (71,false),(.fad 0 (.tmp 1))⟩ (.op ⟨some 78,some (71,false),(.ld 1 false (.tmp 77))⟩ (.op ⟨some 79,some (71,false),(.bin .eql (.tmp 76) (.tmp 78))⟩ (.op ⟨some 80,none,(.pick (.tmp 71) (.const (.bool true)) (.tmp 79))⟩ .done)))))))))))))))))) (.cond (.tmp 80) (.seq (.reg true (.op ⟨some 2,none,(.mv (.const (.bool false)))⟩ .done)) .ret) .skip))) (.reg true (.op ⟨some 62,none,(.mv (.tmp 3))⟩ (.op ⟨some 63,none,(.bin .add (.tmp 62) (.const (.int .i64 (1))))⟩ (.op ⟨some 3,none,(.mv (.tmp 63))⟩ .done))))))))) (.seq (.seq (.reg true (.op ⟨some 4,none,(.mv (.const (.int .i64 (0))))⟩ .done)) (.block 2 (.loop (.seq (.seq (.reg true (.op ⟨some 81,none,(.mv (.tmp 4))⟩ (.op ⟨some 82,none,(.fad 4 (.tmp 1))⟩ (.op ⟨some 83,none,(.ld 1 false (.tmp 82))⟩ (.op ⟨some 84,none,(.len (.tmp 83))⟩ (.op ⟨some 85,none,(.bin .lss (.tmp 81) (.tmp 84))⟩ .done)))))) (.cond (.tmp 85) .skip (.exit 2))) (.seq (.block 3 (.seq (.reg true (.op ⟨some 88,none,(.fad 4 (.tmp 1))⟩ (.op ⟨some 89,none,(.ld 1 false (.tmp 88))⟩ (.op ⟨some 90,none,(.mv (.tmp 4))⟩ (.op ⟨some 91,none,(.iad 1 (.tmp 89) (.tmp 90))⟩ (.op ⟨some 92,none,(.ld 1 false (.tmp 91))⟩ (.op ⟨some 93,none,(.call 40 [(.tmp 92),(.const (.int .i64 (-1))),(.const (.int .i64 (255)))])⟩ (.op ⟨some 94,none,(.un .not (.tmp 93))⟩ .done)))))))) (.cond (.tmp 94) (.seq (.reg true (.op ⟨some 2,none,(.mv (.const (.bool false)))⟩ .done)) .ret) .skip))) (.reg true (.op ⟨some 86,none,(.mv (.tmp 4))⟩ (.op ⟨some 87,none,(.bin .add (.tmp 86) (.const (.int .i64 (1))))⟩ (.op ⟨some 4,none,(.mv (.tmp 87))⟩ .done))))))))) (.seq (.seq (.reg true (.op ⟨some 5,none,(.mv (.const (.int .i64 (0))))⟩ .done)) (.block 4 (.loop (.seq (.seq (.reg true (.op ⟨some 95,none,(.mv (.tmp 5))⟩ (.op ⟨some 96,none,(.fad 5 (.tmp 1))⟩ (.op ⟨some 97,none,(.ld 1 false (.tmp 96))⟩ (.op ⟨some 98,none,(.len (.tmp 97))⟩ (.op ⟨some 99,none,(.bin .lss (.tmp 95) (.tmp 98))⟩ .done)))))) (.cond (.tmp 99) .skip (.exit 4))) (.seq (.block 5 (.seq (.reg true (.op ⟨some 102,none,(.fad 5 (.tmp 1))⟩ (.op ⟨some 103,none,(.ld 1 false (.tmp 102))⟩ (.op ⟨some 104,none,(.mv (.tmp 5))⟩ (.op ⟨some 105,none,(.iad 2 (.tmp 103) (.tmp 104))⟩ (.op ⟨some 106,none,(.ld 2 true (.tmp 105))⟩ (.op ⟨some 6,none,(.al [(.val (.int .i64 (0))),(.val (.slice none 0 0))])⟩ (.op ⟨none,none,(.st 2 (.tmp 6) (.tmp 106))⟩ .done)))))))) (.seq (.reg true (.op ⟨some 107,none,(.fad 0 (.tmp 6))⟩ (.op ⟨some 108,none,(.ld 1 false (.tmp 107))⟩ (.op ⟨some 109,none,(.call 40 [(.tmp 108),(.const (.int .i64 (0))),(.const (.int .i64 (255)))])⟩ (.op ⟨some 110,none,(.un .not (.tmp 109))⟩ (.op ⟨some 111,none,(.mv (.tmp 110))⟩ (.op ⟨some 112,some (111,false),(.mv (.tmp 5))⟩ (.op ⟨some 113,some (111,false),(.bin .gtr (.tmp 112) (.const (.int .i64 (0))))⟩ (.op ⟨some 114,some (111,false),(.mv (.tmp 113))⟩ (.op ⟨some 115,some (114,true),(.fad 5 (.tmp 1))⟩ (.op ⟨some 116,some (114,true),(.ld 1 false (.tmp 115))⟩ (.op ⟨some 117,some (114,true),(.mv (.tmp 5))⟩ (.op ⟨some 118,some (114,true),(.bin .sub (.tmp 117) (.const (.int .i64 (1))))⟩ (.op ⟨some 119,some (114,true),(.iad 2 (.tmp 116) (.tmp 118))⟩ (.op ⟨some 120,some (114,true),(.fad 0 (.tmp 119))⟩ (.op ⟨some 121,some (114,true),(.ld 1 false (.tmp 120))⟩ (.op ⟨some 122,some (114,true),(.fad 0 (.tmp 6))⟩ (.op ⟨some 123,some (114,true),(.ld 1 false (.tmp 122))⟩ (.op ⟨some 124,some (114,true),(.bin .geq (.tmp 121) (.tmp 123))⟩ (.op ⟨some 125,some (111,false),(.pick (.tmp 114) (.tmp 124) (.const (.bool false)))⟩ (.op ⟨some 126,none,(.pick (.tmp 111) (.const (.bool true)) (.tmp 125))⟩ (.op ⟨some 127,none,(.mv (.tmp 126))⟩ (.op ⟨some 128,some (127,false),(.fad 1 (.tmp 6))⟩ (.op ⟨some 129,some (127,false),(.ld 1 false (.tmp 128))⟩ (.op ⟨some 130,some (127,false),(.call 41 [(.tmp 129)])⟩ (.op ⟨some 131,some (127,false),(.un .not (.tmp 130))⟩ (.op ⟨some 132,none,(.pick (.tmp 127) (.const (.bool true)) (.tmp 131))⟩ .done))))))))))))))))))))))))))) (.cond (.tmp 132) (.seq (.reg true (.op ⟨some 2,none,(.mv (.const (.bool false)))⟩ .done)) .ret) .skip)))) (.reg true (.op ⟨some 100,none,(.mv (.tmp 5))⟩ (.op ⟨some 101,none,(.bin .add (.tmp 100) (.const (.int .i64 (1))))⟩ (.op ⟨some 5,none,(.mv (.tmp 101))⟩ .done))))))))) (.seq (.reg true (.op ⟨some 2,none,(.mv (.const (.bool true)))⟩ .done)) .ret)))))))),res := [(.t 2)],n := 133 }
theorem hn_21 : nFn Try.prog 21 = some nf_21 := by kernel_rfl
def B_f55_L0 (N : Nat) {Ω : Type} (kx : DenS (.ip 1 tPeer) → Option Ω) (kr : Bool → Option Ω) (rec_ : DenS (.pr (.ip 1 tPeer) (.d 3 I)) → Option Ω) : DenS (.pr (.ip 1 tPeer) (.d 3 I)) → Option Ω := fun (s1,s3) =>
 (bif (decide (s3 < (s1.2.2.2.1.length : Int))) then (bif (decide (0 ≤ s3) && decide (s3 < s1.2.2.2.1.length)) then (x_f58 N (s1.2.2.2.1.getD s3.toNat (0:Int)) (0:Int) (255:Int)).bind fun r3 => (bif (!r3) then kr false else (bif (decide (0 ≤ s3) && decide (s3 < s1.2.2.2.1.length)) then (bif (decide ((s1.2.2.2.1.getD s3.toNat (0:Int)) = s1.1)) then kr false else rec_ (s1,(wrap64 (s3 + (1:Int))))) else none)) else none) else kx s1)
def B_f55_L2 (N : Nat) {Ω : Type} (kx : DenS (.ip 1 tPeer) → Option Ω) (kr : Bool → Option Ω) (rec_ : DenS (.pr (.ip 1 tPeer) (.d 4 I)) → Option Ω) : DenS (.pr (.ip 1 tPeer) (.d 4 I)) → Option Ω := fun (s1,s4) =>
 (bif (decide (s4 < (s1.2.2.2.2.1.length : Int))) then (bif (decide (0 ≤ s4) && decide (s4 < s1.2.2.2.2.1.length)) then (x_f58 N (s1.2.2.2.2.1.getD s4.toNat (0:Int)) (-1:Int) (255:Int)).bind fun r5 => (bif (!r5) then kr false else rec_ (s1,(wrap64 (s4 + (1:Int))))) else none) else kx s1)
def B_f55_L4 (N : Nat) {Ω : Type} (kx : DenS .un → Option Ω) (kr : Bool → Option Ω) (rec_ : DenS (.pr (.ip 1 tPeer) (.d 5 I)) → Option Ω) : DenS (.pr (.ip 1 tPeer) (.d 5 I)) → Option Ω := fun (s1,s5) =>
 (bif (decide (s5 < (s1.2.2.2.2.2.length : Int))) then (bif (decide (0 ≤ s5) && decide (s5 < s1.2.2.2.2.2.length)) then (x_f58 N ((s1.2.2.2.2.2.getD s5.toNat (dft tShelf)).1) (0:Int) (255:Int)).bind fun r7 => (bif (!r7) then kr false else (bif (decide ((0:Int) < s5)) then (bif (decide (0 ≤ (wrap64 (s5 - (1:Int)))) && decide ((wrap64 (s5 - (1:Int))) < s1.2.2.2.2.2.length)) then (bif (decide (((s1.2.2.2.2.2.getD s5.toNat (dft tShelf)).1) ≤ ((s1.2.2.2.2.2.getD (wrap64 (s5 - (1:Int))).toNat (dft tShelf)).1))) then kr false else (x_f60 N ((s1.2.2.2.2.2.getD s5.toNat (dft tShelf)).2)).bind fun r8 => (bif (!r8) then kr false else rec_ (s1,(wrap64 (s5 + (1:Int)))))) else none) else (x_f60 N ((s1.2.2.2.2.2.getD s5.toNat (dft tShelf)).2)).bind fun r9 => (bif (!r9) then kr false else rec_ (s1,(wrap64 (s5 + (1:Int))))))) else none) else kx ())
def x_f55 (N : Nat) (a0 : (Den tPeer)) : Option Bool :=
 (x_f58 N a0.1 (0:Int) (255:Int)).bind fun r1 => (bif (!r1) then some false else (bif (!a0.2.1) then (bif (decide (a0.2.2.1 = (0:Int))) then (bif (decide ((a0.2.2.2.1.length : Int) = (0:Int))) then (bif (decide ((a0.2.2.2.2.1.length : Int) = (0:Int))) then some (decide ((a0.2.2.2.2.2.length : Int) = (0:Int))) else some false) else some false) else some false) else (x_f58 N a0.2.2.1 (-1:Int) (255:Int)).bind fun r2 => (bif (!r2) then some false else (bif (decide ((3:Int) < (a0.2.2.2.1.length : Int))) then some false else (bif (!decide ((a0.2.2.2.2.1.length : Int) = (8:Int))) then some false else (bif (decide ((80:Int) < (a0.2.2.2.2.2.length : Int))) then some false else iter (B_f55_L0 N (fun x4 => iter (B_f55_L2 N (fun x6 => iter (B_f55_L4 N (fun _ => some true) (fun ρ10 => some (ρ10))) N (x6,(0:Int))) (fun ρ11 => some (ρ11))) N (x4,(0:Int))) (fun ρ12 => some (ρ12))) N (a0,(0:Int))))))))
abbrev ct_f55 (N : Nat) : CT := ⟨21,(.d tPeer),(.t .bl),fun a => x_f55 N a⟩
theorem c_f55 (N : Nat) : CTok Try.prog (ct_f55 N) :=
 CT_okN hn_21 (Γ := [.c (ct_f58 N),.c (ct_f60 N)]) (Θ := []) (Λ := ([⟨0,0,(.pr (.ip 1 tPeer) (.d 3 I)),(.ip 1 tPeer),fun {Ω} kx kr => iter (B_f55_L0 N kx kr) N⟩,⟨2,0,(.pr (.ip 1 tPeer) (.d 4 I)),(.ip 1 tPeer),fun {Ω} kx kr => iter (B_f55_L2 N kx kr) N⟩,⟨4,0,(.pr (.ip 1 tPeer) (.d 5 I)),.un,fun {Ω} kx kr => iter (B_f55_L4 N kx kr) N⟩] : List (LC (DenR (.t .bl))))) mixed ⟨c_f58 N,⟨c_f60 N,trivial⟩⟩ (by kernel_rfl)
  ⟨LoopEq.mk N (fun Ω kx kr => B_f55_L0 N kx kr) (fun Ω g kx kr s => by kernel_rfl),⟨LoopEq.mk N (fun Ω kx kr => B_f55_L2 N kx kr) (fun Ω g kx kr s => by kernel_rfl),⟨LoopEq.mk N (fun Ω kx kr => B_f55_L4 N kx kr) (fun Ω g kx kr s => by kernel_rfl),trivial⟩⟩⟩ (by kernel_rfl) (fun a => by kernel_rfl)
def B_f56_L0 (N : Nat) {Ω : Type} (kx : DenS (.pr (.ip 3 tPeer) (.pr (.bx 6 tPeer) (.pr (.bx 8 tPeerV) (.pr (.ip 9 tShelf) (.d 10 .bl))))) → Option Ω) (kr : ((Den tPeer) × Bool) → Option Ω) (rec_ : DenS (.pr (.d 1 I) (.pr (.ip 3 tPeer) (.pr (.bx 6 tPeer) (.pr (.bx 8 tPeerV) (.pr (.ip 9 tShelf) (.pr (.d 10 .bl) (.d 11 I))))))) → Option Ω) : DenS (.pr (.d 1 I) (.pr (.ip 3 tPeer) (.pr (.bx 6 tPeer) (.pr (.bx 8 tPeerV) (.pr (.ip 9 tShelf) (.pr (.d 10 .bl) (.d 11 I))))))) → Option Ω := fun (s1,s3,s6,s8,s9,s10,s11) =>
 (bif (decide (s11 < (s3.2.2.2.2.2.length : Int))) then (bif (!s10) then (bif (decide (0 ≤ s11) && decide (s11 < s3.2.2.2.2.2.length)) then (bif (decide (s1 ≤ ((s3.2.2.2.2.2.getD s11.toNat (dft tShelf)).1))) then (bif (decide ((s8.2.2.2.2.2.length + [s9].length) * 32 ≤ 140737488355328)) then (bif (decide (0 ≤ s11) && decide (s11 < s3.2.2.2.2.2.length)) then (bif (decide (((s3.2.2.2.2.2.getD s11.toNat (dft tShelf)).1) = s1)) then rec_ (s1,s3,s6,(s8.1,s8.2.1,s8.2.2.1,s8.2.2.2.1,s8.2.2.2.2.1,(s8.2.2.2.2.2 ++ [s9])),s9,true,(wrap64 (s11 + (1:Int)))) else (bif (decide (0 ≤ s11) && decide (s11 < s3.2.2.2.2.2.length)) then (bif (decide (((s8.2.2.2.2.2 ++ [s9]).length + [(s3.2.2.2.2.2.getD s11.toNat (dft tShelf))].length) * 32 ≤ 140737488355328)) then rec_ (s1,s3,s6,(s8.1,s8.2.1,s8.2.2.1,s8.2.2.2.1,s8.2.2.2.2.1,((s8.2.2.2.2.2 ++ [s9]) ++ [(s3.2.2.2.2.2.getD s11.toNat (dft tShelf))])),s9,true,(wrap64 (s11 + (1:Int)))) else none) else none)) else none) else none) else (bif (decide (0 ≤ s11) && decide (s11 < s3.2.2.2.2.2.length)) then (bif (decide ((s8.2.2.2.2.2.length + [(s3.2.2.2.2.2.getD s11.toNat (dft tShelf))].length) * 32 ≤ 140737488355328)) then rec_ (s1,s3,s6,(s8.1,s8.2.1,s8.2.2.1,s8.2.2.2.1,s8.2.2.2.2.1,(s8.2.2.2.2.2 ++ [(s3.2.2.2.2.2.getD s11.toNat (dft tShelf))])),s9,s10,(wrap64 (s11 + (1:Int)))) else none) else none)) else none) else (bif (decide (0 ≤ s11) && decide (s11 < s3.2.2.2.2.2.length)) then (bif (decide ((s8.2.2.2.2.2.length + [(s3.2.2.2.2.2.getD s11.toNat (dft tShelf))].length) * 32 ≤ 140737488355328)) then rec_ (s1,s3,s6,(s8.1,s8.2.1,s8.2.2.1,s8.2.2.2.1,s8.2.2.2.2.1,(s8.2.2.2.2.2 ++ [(s3.2.2.2.2.2.getD s11.toNat (dft tShelf))])),s9,s10,(wrap64 (s11 + (1:Int)))) else none) else none)) else kx (s3,s6,s8,s9,s10))
def x_f56 (N : Nat) (a0 : (Den tPeer)) (a1 : Int) (a2 : (List (Den tItem))) : Option ((Den tPeer) × Bool) :=
 (x_f59 N a0).bind fun r1 => (x_f57 N a0 a1).bind fun r2 => (x_f54 N r2 a2).bind fun r3 => iter (B_f56_L0 N (fun (x4,x5,x6,x7,x8) => (bif (!x8) then (bif (decide ((x6.2.2.2.2.2.length + [x7].length) * 32 ≤ 140737488355328)) then (x_f55 N (x6.1,x6.2.1,x6.2.2.1,x6.2.2.2.1,x6.2.2.2.2.1,(x6.2.2.2.2.2 ++ [x7]))).bind fun r9 => (bif (!r9) then (x_f59 N x4).bind fun r10 => some (r10,false) else (x_f59 N (x6.1,x6.2.1,x6.2.2.1,x6.2.2.2.1,x6.2.2.2.2.1,(x6.2.2.2.2.2 ++ [x7]))).bind fun r11 => some (r11,true)) else none) else (x_f55 N x6).bind fun r12 => (bif (!r12) then (x_f59 N x4).bind fun r13 => some (r13,false) else (x_f59 N x6).bind fun r14 => some (r14,true)))) (fun ρ15 => some (ρ15))) N (a1,a0,((0:Int),false,(0:Int),[],[],[]),(r1.1,r1.2.1,r1.2.2.1,r1.2.2.2.1,r1.2.2.2.2.1,[]),(a1,r3),false,(0:Int))
abbrev ct_f56 (N : Nat) : CT := ⟨6,(.pr (.d tPeer) (.pr (.d I) (.d (.sl tItem)))),(.pr (.t tPeer) (.t .bl)),fun a => x_f56 N a.1 a.2.1 a.2.2⟩
theorem c_f56 (N : Nat) : CTok Try.prog (ct_f56 N) :=
 CT_ok (Γ := [.c (ct_f59 N),.c (ct_f57 N),.c (ct_f54 N),.c (ct_f55 N)]) (Θ := [(21,tShelfV),(45,tShelfV),(63,tShelfV),(71,tShelfV)]) (Λ := ([⟨0,0,(.pr (.d 1 I) (.pr (.ip 3 tPeer) (.pr (.bx 6 tPeer) (.pr (.bx 8 tPeerV) (.pr (.ip 9 tShelf) (.pr (.d 10 .bl) (.d 11 I))))))),(.pr (.ip 3 tPeer) (.pr (.bx 6 tPeer) (.pr (.bx 8 tPeerV) (.pr (.ip 9 tShelf) (.d 10 .bl))))),fun {Ω} kx kr => iter (B_f56_L0 N kx kr) N⟩] : List (LC (DenR (.pr (.t tPeer) (.t .bl)))))) (by kernel_rfl) mixed ⟨c_f59 N,⟨c_f57 N,⟨c_f54 N,⟨c_f55 N,trivial⟩⟩⟩⟩ (by kernel_rfl)
  ⟨LoopEq.mk N (fun Ω kx kr => B_f56_L0 N kx kr) (fun Ω g kx kr s => by kernel_rfl),trivial⟩ (by kernel_rfl) (fun a => by kernel_rfl)
def x_f41 (N : Nat) (a0 : (List Int)) : Option (List Int) :=
 (bif (decide (a0.length = 0)) then agree (some []) ((bif (decide ((([] : List Int).length + a0.length) * 8 ≤ 140737488355328)) then some (([] : List Int) ++ a0) else none)) else (bif (decide ((([] : List Int).length + a0.length) * 8 ≤ 140737488355328)) then some (([] : List Int) ++ a0) else none))
abbrev ct_f41 (N : Nat) : CT := ⟨43,(.d (.sl I)),(.t (.sl I)),fun a => x_f41 N a⟩
theorem c_f41 (N : Nat) : CTok Try.prog (ct_f41 N) :=
 CT_ok (Γ := []) (Θ := [(5,I)]) (Λ := ([] : List (LC (DenR (.t (.sl I)))))) (by kernel_rfl) mixed trivial (by kernel_rfl)
  trivial (by kernel_rfl) (fun a => by kernel_rfl)
def x_f40 (N : Nat) (a0 : (List (Den tItem))) : Option (List (Den tItem)) :=
 (bif (decide (a0.length = 0)) then agree (some []) ((bif (decide ((([] : List (Den tItem)).length + a0.length) * 24 ≤ 140737488355328)) then some (([] : List (Den tItem)) ++ a0) else none)) else (bif (decide ((([] : List (Den tItem)).length + a0.length) * 24 ≤ 140737488355328)) then some (([] : List (Den tItem)) ++ a0) else none))
abbrev ct_f40 (N : Nat) : CT := ⟨44,(.d (.sl tItem)),(.t (.sl tItem)),fun a => x_f40 N a⟩
theorem c_f40 (N : Nat) : CTok Try.prog (ct_f40 N) :=
 CT_ok (Γ := []) (Θ := [(5,tItem)]) (Λ := ([] : List (LC (DenR (.t (.sl tItem)))))) (by kernel_rfl) mixed trivial (by kernel_rfl)
  trivial (by kernel_rfl) (fun a => by kernel_rfl)
def B_f6_L0 (N : Nat) {Ω : Type} (kx : DenS (.pr (.bx 1 tPeer) (.bx 2 tPeer)) → Option Ω) (kr : (Den tPeer) → Option Ω) (rec_ : DenS (.pr (.bx 1 tPeer) (.pr (.bx 2 tPeer) (.pr (.d 17 (.sl tShelf)) (.pr (.d 18 I) (.d 19 I))))) → Option Ω) : DenS (.pr (.bx 1 tPeer) (.pr (.bx 2 tPeer) (.pr (.d 17 (.sl tShelf)) (.pr (.d 18 I) (.d 19 I))))) → Option Ω := fun (s1,s2,s17,s18,s19) =>
 (bif (decide (s19 < s18)) then (bif (decide (0 ≤ s19) && decide (s19 < s17.length)) then (x_f40 N ((s17.getD s19.toNat (dft tShelf)).2)).bind fun r3 => (bif (decide ((s1.2.2.2.2.2.length + [((s17.getD s19.toNat (dft tShelf)).1,r3)].length) * 32 ≤ 140737488355328)) then rec_ ((s1.1,s1.2.1,s1.2.2.1,s1.2.2.2.1,s1.2.2.2.2.1,(s1.2.2.2.2.2 ++ [((s17.getD s19.toNat (dft tShelf)).1,r3)])),s2,s17,s18,(wrap64 (s19 + (1:Int)))) else none) else none) else kx (s1,s2))
def x_f6 (N : Nat) (a0 : (Den tPeer)) : Option (Den tPeer) :=
 (x_f41 N a0.2.2.2.1).bind fun r1 => (x_f41 N a0.2.2.2.2.1).bind fun r2 => iter (B_f6_L0 N (fun (x4,x5) => some x4) (fun ρ6 => some (ρ6))) N ((a0.1,a0.2.1,a0.2.2.1,r1,r2,[]),((0:Int),false,(0:Int),[],[],[]),a0.2.2.2.2.2,(a0.2.2.2.2.2.length : Int),(0:Int))
abbrev ct_f6 (N : Nat) : CT := ⟨25,(.d tPeer),(.t tPeer),fun a => x_f6 N a⟩
theorem c_f6 (N : Nat) : CTok Try.prog (ct_f6 N) :=
 CT_ok (Γ := [.c (ct_f41 N),.c (ct_f40 N)]) (Θ := [(31,tShelf)]) (Λ := ([⟨0,0,(.pr (.bx 1 tPeer) (.pr (.bx 2 tPeer) (.pr (.d 17 (.sl tShelf)) (.pr (.d 18 I) (.d 19 I))))),(.pr (.bx 1 tPeer) (.bx 2 tPeer)),fun {Ω} kx kr => iter (B_f6_L0 N kx kr) N⟩] : List (LC (DenR (.t tPeer))))) (by kernel_rfl) mixed ⟨c_f41 N,⟨c_f40 N,trivial⟩⟩ (by kernel_rfl)
  ⟨LoopEq.mk N (fun Ω kx kr => B_f6_L0 N kx kr) (fun Ω g kx kr s => by kernel_rfl),trivial⟩ (by kernel_rfl) (fun a => by kernel_rfl)
def x_f10 (N : Nat) (a0 : (Den tShelf)) (a1 : Int) : Option Bool :=
 some (decide (a0.1 = a1))
abbrev ct_f10 (N : Nat) : CT := ⟨46,(.pr (.d tShelf) (.ip I)),(.t .bl),fun a => x_f10 N a.1 a.2⟩
theorem c_f10 (N : Nat) : CTok Try.prog (ct_f10 N) :=
 CT_ok (Γ := []) (Θ := []) (Λ := ([] : List (LC (DenR (.t .bl))))) (by kernel_rfl) mixed trivial (by kernel_rfl)
  trivial (by kernel_rfl) (fun a => by kernel_rfl)
def B_f44_L0 (N : Nat) {Ω : Type} (kx : DenS .un → Option Ω) (kr : Int → Option Ω) (rec_ : DenS (.pr (.d 0 (.sl tShelf)) (.pr (.fn 1 46 (.ip I)) (.pr (.d 7 I) (.d 8 I)))) → Option Ω) : DenS (.pr (.d 0 (.sl tShelf)) (.pr (.fn 1 46 (.ip I)) (.pr (.d 7 I) (.d 8 I)))) → Option Ω := fun (s0,s1,s7,s8) =>
 (bif (decide (s8 < s7)) then (bif (decide (0 ≤ s8) && decide (s8 < s0.length)) then (x_f10 N (s0.getD s8.toNat (dft tShelf)) s1).bind fun r1 => (bif r1 then kr s8 else rec_ (s0,s1,s7,(wrap64 (s8 + (1:Int))))) else none) else kx ())
def x_f44 (N : Nat) (a0 : (List (Den tShelf))) (a1 : Int) : Option Int :=
 iter (B_f44_L0 N (fun _ => some (-1:Int)) (fun ρ2 => some (ρ2))) N (a0,a1,(a0.length : Int),(0:Int))
abbrev ct_f44 (N : Nat) : CT := ⟨45,(.pr (.d (.sl tShelf)) (.fn 46 (.ip I))),(.t I),fun a => x_f44 N a.1 a.2⟩
theorem c_f44 (N : Nat) : CTok Try.prog (ct_f44 N) :=
 CT_ok (Γ := [.c (ct_f10 N)]) (Θ := []) (Λ := ([⟨0,0,(.pr (.d 0 (.sl tShelf)) (.pr (.fn 1 46 (.ip I)) (.pr (.d 7 I) (.d 8 I)))),.un,fun {Ω} kx kr => iter (B_f44_L0 N kx kr) N⟩] : List (LC (DenR (.t I))))) (by kernel_rfl) mixed ⟨c_f10 N,trivial⟩ (by kernel_rfl)
  ⟨LoopEq.mk N (fun Ω kx kr => B_f44_L0 N kx kr) (fun Ω g kx kr s => by kernel_rfl),trivial⟩ (by kernel_rfl) (fun a => by kernel_rfl)
def x_f9 (N : Nat) (a0 : (Den tPeer)) (a1 : Int) : Option Int :=
 (x_f44 N a0.2.2.2.2.2 a1).bind fun r1 => some r1
abbrev ct_f9 (N : Nat) : CT := ⟨26,(.pr (.d tPeer) (.d I)),(.t I),fun a => x_f9 N a.1 a.2⟩
theorem c_f9 (N : Nat) : CTok Try.prog (ct_f9 N) :=
 CT_ok (Γ := [.c (ct_f44 N)]) (Θ := []) (Λ := ([] : List (LC (DenR (.t I))))) (by kernel_rfl) mixed ⟨c_f44 N,trivial⟩ (by kernel_rfl)
  trivial (by kernel_rfl) (fun a => by kernel_rfl)
def x_f47 (N : Nat) (a0 : List (Den tShelf)) (a1 : Int) (a2 : List (Den tShelf)) : Option (List (Den tShelf) × (Unit × (Unit × Unit))) :=
 bif (decide (0 ≤ a1) && decide (a1 ≤ (a0.length : Int))) && (decide (a0.length ≤ 1000000000) && Nat.beq a2.length 1) then some (insF a0 a1 a2,((),((),()))) else none
abbrev cm_f47 (N : Nat) : CM := ⟨27,.pr (.mo 0 tShelf) (.pr (.d 1 (.i .i64)) (.mo 2 tShelf)),.t (.sl tShelf),fun a => x_f47 N a.1 a.2.1 a.2.2⟩
theorem c_f47 (N : Nat) : CMok Try.prog (cm_f47 N) := ins_CM InsW.ins_good rfl InsW.ins_end_room InsW.ins_end_grow InsW.ins_shift InsW.ins_grow tShelf rfl
def x_f12 (N : Nat) (a0 : ByteArray) (a1 : ByteArray) : Option Int := some (Lib.compareBytes a0.data.toList a1.data.toList)
abbrev ct_f12 (N : Nat) : CT := ⟨61,(.pr (.d .tx) (.d .tx)),(.t I),fun a => x_f12 N a.1 a.2⟩
set_option maxHeartbeats 1000000 in
theorem calls_internal_bytealg_CompareString (a b : ByteArray) (w : World) :
  Calls Try.prog 61 #[.string a,.string b] w fun e w' => e = .returned (.int .i64 (Lib.compareBytes a.data.toList b.data.toList)) ∧ w' = w := by
 go_enter Try.func61,Try.ntmps61
 go_wp2
 rw [run_callFunc_extern Try.func67 (by kernel_rfl) (by kernel_rfl) (by kernel_rfl) (e := Extern.BytealgCompare.compare) (by kernel_rfl),Lib.run_compareString]
 simp only [Result.andThen]
 rw [Oper.upon_value]
 go_wp2
 go_ret
 exact ⟨rfl,rfl⟩
theorem c_f12 (N : Nat) : CTok Try.prog (ct_f12 N) := CT_texts ⟨_,Try.func61,by kernel_rfl,by kernel_rfl⟩ calls_internal_bytealg_CompareString
def x_f62 (N : Nat) (a0 : ByteArray) (a1 : ByteArray) : Option Int :=
 (x_f12 N a0 a1).bind fun r1 => some r1
abbrev ct_f62 (N : Nat) : CT := ⟨51,(.pr (.d .tx) (.d .tx)),(.t I),fun a => x_f62 N a.1 a.2⟩
theorem c_f62 (N : Nat) : CTok Try.prog (ct_f62 N) :=
 CT_ok (Γ := [.c (ct_f12 N)]) (Θ := []) (Λ := ([] : List (LC (DenR (.t I))))) (by kernel_rfl) mixed ⟨c_f12 N,trivial⟩ (by kernel_rfl)
  trivial (by kernel_rfl) (fun a => by kernel_rfl)
def x_f1 (N : Nat) (a0 : (Den tItem)) (a1 : (Den tItem)) : Option Int :=
 (x_f62 N a0.1 a1.1).bind fun r1 => some r1
abbrev ct_f1 (N : Nat) : CT := ⟨50,(.pr (.d tItem) (.d tItem)),(.t I),fun a => x_f1 N a.1 a.2⟩
theorem c_f1 (N : Nat) : CTok Try.prog (ct_f1 N) :=
 CT_ok (Γ := [.c (ct_f62 N)]) (Θ := []) (Λ := ([] : List (LC (DenR (.t I))))) (by kernel_rfl) mixed ⟨c_f62 N,trivial⟩ (by kernel_rfl)
  trivial (by kernel_rfl) (fun a => by kernel_rfl)
def nf_65 : NF := { body := (.seq (.reg true (.op ⟨some 10,none,(.mv (.tmp 1))⟩ (.op ⟨some 11,none,(.bin .add (.tmp 10) (.const (.int .i64 (1))))⟩ (.op ⟨some 8,none,(.mv (.tmp 11))⟩ .done)))) (.block 0 (.loop (.seq (.seq (.reg true (.op ⟨some 12,none,(.mv (.tmp 8))⟩ (.op ⟨some 13,none,(.mv (.tmp 2))⟩ (.op ⟨some 14,none,(.bin .lss (.tmp 12) (.tmp 13))⟩ .done)))) (.cond (.tmp 14) .skip (.exit 0))) (.seq (.block 1 (.seq (.reg true (.op ⟨some 17,none,(.mv (.tmp 8))⟩ (.op ⟨some 9,none,(.mv (.tmp 17))⟩ .done))) (.block 2 (.loop (.seq (.seq (.reg true (.op ⟨some 18,none,(.mv (.tmp 9))⟩ (.op ⟨some 19,none,(.mv (.tmp 1))⟩ (.op ⟨some 20,none,(.bin .gtr (.tmp 18) (.tmp 19))⟩ (.op ⟨some 21,none,(.mv (.tmp 20))⟩ (.op ⟨some 22,some (21,true),(.mv (.tmp 3))⟩ (.op ⟨some 23,some (21,true),(.mv (.tmp 0))⟩ (.op ⟨some 24,some (21,true),(.mv (.tmp 9))⟩ (.op ⟨some 25,some (21,true),(.iad 2 (.tmp 23) (.tmp 24))⟩ (.op ⟨some 26,some (21,true),(.ld 2 true (.tmp 25))⟩ (.op ⟨some 27,some (21,true),(.mv (.tmp 0))⟩ (.op ⟨some 28,some (21,true),(.mv (.tmp 9))⟩ (.op ⟨some 29,some (21,true),(.bin .sub (.tmp 28) (.const (.int .i64 (1))))⟩ (.op ⟨some 30,some (21,true),(.iad 2 (.tmp 27) (.tmp 29))⟩ (.op ⟨some 31,some (21,true),(.ld 2 true (.tmp 30))⟩ (.op ⟨some 32,some (21,true),(.callv (.tmp 22) [(.tmp 26),(.tmp 31)])⟩ (.op ⟨some 33,some (21,true),(.bin .lss (.tmp 32) (.const (.int .i64 (0))))⟩ (.op ⟨some 34,none,(.pick (.tmp 21) (.tmp 33) (.const (.bool false)))⟩ .done)))))))))))))))))) (.cond (.tmp 34) .skip (.exit 2))) (.seq (.block 3 (.reg true (.op ⟨some 37,none,(.mv (.tmp 0))⟩ (.op ⟨some 38,none,(.mv (.tmp 9))⟩ (.op ⟨some 39,none,(.mv (.tmp 0))⟩ (.op ⟨some 40,none,(.mv (.tmp 9))⟩ (.op ⟨some 41,none,(.bin .sub (.tmp 40) (.const (.int .i64 (1))))⟩ (.op ⟨some 42,none,(.mv (.tmp 0))⟩ (.op ⟨some 43,none,(.mv (.tmp 9))⟩ (.op ⟨some 44,none,(.bin .sub (.tmp 43) (.const (.int .i64 (1))))⟩ (.op ⟨some 45,none,(.iad 2 (.tmp 42) (.tmp 44))⟩ (.op ⟨some 46,none,(.ld 2 true (.tmp 45))⟩ (.op ⟨some 47,none,(.mv (.tmp 0))⟩ (.op ⟨some 48,none,(.mv (.tmp 9))⟩ (.op ⟨some 49,none,(.iad 2 (.tmp 47) (.tmp 48))⟩ (.op ⟨some 50,none,(.ld 2 true (.tmp 49))⟩ (.op ⟨some 51,none,(.iad 2 (.tmp 37) (.tmp 38))⟩ (.op ⟨none,none,(.st 2 (.tmp 51) (.tmp 46))⟩ (.op ⟨some 52,none,(.iad 2 (.tmp 39) (.tmp 41))⟩ (.op ⟨none,none,(.st 2 (.tmp 52) (.tmp 50))⟩ .done)))))))))))))))))))) (.reg true (.op ⟨some 35,none,(.mv (.tmp 9))⟩ (.op ⟨some 36,none,(.bin .sub (.tmp 35) (.const (.int .i64 (1))))⟩ (.op ⟨some 9,none,(.mv (.tmp 36))⟩ .done)))))))))) (.reg true (.op ⟨some 15,none,(.mv (.tmp 8))⟩ (.op ⟨some 16,none,(.bin .add (.tmp 15) (.const (.int .i64 (1))))⟩ (.op ⟨some 8,none,(.mv (.tmp 16))⟩ .done))))))))),res := [],n := 53 }
theorem hn_65 : nFn Try.prog 65 = some nf_65 := by kernel_rfl
def B_f49_L2 (N : Nat) {Ω : Type} (kx : DenS (.pr (.o 0 tItem) (.pr (.d 1 I) (.pr (.d 2 I) (.pr (.fn 3 50 .un) (.d 8 I))))) → Option Ω) (kr : (Unit × DenW (.pr (.o 0 tItem) (.pr (.d 1 I) (.pr (.d 2 I) (.fn 3 50 .un))))) → Option Ω) (rec_ : DenS (.pr (.o 0 tItem) (.pr (.d 1 I) (.pr (.d 2 I) (.pr (.fn 3 50 .un) (.pr (.d 8 I) (.d 9 I)))))) → Option Ω) : DenS (.pr (.o 0 tItem) (.pr (.d 1 I) (.pr (.d 2 I) (.pr (.fn 3 50 .un) (.pr (.d 8 I) (.d 9 I)))))) → Option Ω := fun (s0,s1,s2,s3,s8,s9) =>
 (bif (decide (s1 < s9)) then (bif (decide (0 ≤ s9) && decide (s9 < s0.length)) then (bif (decide (0 ≤ (wrap64 (s9 - (1:Int)))) && decide ((wrap64 (s9 - (1:Int))) < s0.length)) then (x_f1 N (s0.getD s9.toNat (dft tItem)) (s0.getD ((wrap64 (s9 - (1:Int))).toNat) (dft tItem))).bind fun r1 => (bif (decide (r1 < (0:Int))) then (bif (decide (0 ≤ (wrap64 (s9 - (1:Int)))) && decide ((wrap64 (s9 - (1:Int))) < s0.length)) then (bif (decide (0 ≤ s9) && decide (s9 < s0.length)) then (bif (decide (0 ≤ s9) && decide (s9 < s0.length)) then (bif (decide (0 ≤ (wrap64 (s9 - (1:Int)))) && decide ((wrap64 (s9 - (1:Int))) < (s0.set s9.toNat (s0.getD ((wrap64 (s9 - (1:Int))).toNat) (dft tItem))).length)) then rec_ (((s0.set s9.toNat (s0.getD ((wrap64 (s9 - (1:Int))).toNat) (dft tItem))).set ((wrap64 (s9 - (1:Int))).toNat) (s0.getD s9.toNat (dft tItem))),s1,s2,(),s8,(wrap64 (s9 - (1:Int)))) else none) else none) else none) else none) else kx (s0,s1,s2,(),s8)) else none) else none) else kx (s0,s1,s2,(),s8))
def B_f49_L0 (N : Nat) {Ω : Type} (kx : DenS (.o 0 tItem) → Option Ω) (kr : (Unit × DenW (.pr (.o 0 tItem) (.pr (.d 1 I) (.pr (.d 2 I) (.fn 3 50 .un))))) → Option Ω) (rec_ : DenS (.pr (.o 0 tItem) (.pr (.d 1 I) (.pr (.d 2 I) (.pr (.fn 3 50 .un) (.d 8 I))))) → Option Ω) : DenS (.pr (.o 0 tItem) (.pr (.d 1 I) (.pr (.d 2 I) (.pr (.fn 3 50 .un) (.d 8 I))))) → Option Ω := fun (s0,s1,s2,s3,s8) =>
 (bif (decide (s8 < s2)) then iter (B_f49_L2 N (fun (x2,x3,x4,x5,x6) => rec_ (x2,x3,x4,(),(wrap64 (x6 + (1:Int))))) (fun ρ7 => kr (ρ7))) N (s0,s1,s2,(),s8,s8) else kx s0)
def x_f49 (N : Nat) (a0 : (List (Den tItem))) (a1 : Int) (a2 : Int) (a3 : (DenP .un)) : Option (Unit × DenW (.pr (.o 0 tItem) (.pr (.d 1 I) (.pr (.d 2 I) (.fn 3 50 .un))))) :=
 (iter (B_f49_L0 N (fun x8 => some ((),x8,(),(),())) (fun ρ9 => some (ρ9))) N (a0,a1,a2,(),(wrap64 (a1 + (1:Int))))).bind fun r => bif (Nat.beq a0.length r.2.1.length && (true && (true && true))) then some r else none
abbrev cm_f49 (N : Nat) : CM := ⟨65,(.pr (.o 0 tItem) (.pr (.d 1 I) (.pr (.d 2 I) (.fn 3 50 .un)))),.un,fun a => x_f49 N a.1 a.2.1 a.2.2.1 a.2.2.2⟩
theorem c_f49 (N : Nat) : CMok Try.prog (cm_f49 N) :=
 CM_okN hn_65 (Γ := [.c (ct_f1 N)]) (Θ := []) (Λ := ([⟨0,1,(.pr (.o 0 tItem) (.pr (.d 1 I) (.pr (.d 2 I) (.pr (.fn 3 50 .un) (.d 8 I))))),(.o 0 tItem),fun {Ω} kx kr => iter (B_f49_L0 N kx kr) N⟩,⟨2,1,(.pr (.o 0 tItem) (.pr (.d 1 I) (.pr (.d 2 I) (.pr (.fn 3 50 .un) (.pr (.d 8 I) (.d 9 I)))))),(.pr (.o 0 tItem) (.pr (.d 1 I) (.pr (.d 2 I) (.pr (.fn 3 50 .un) (.d 8 I))))),fun {Ω} kx kr => iter (B_f49_L2 N kx kr) N⟩] : List (LC (DenR .un × DenW (.pr (.o 0 tItem) (.pr (.d 1 I) (.pr (.d 2 I) (.fn 3 50 .un)))))))) mixed ⟨c_f1 N,trivial⟩ (by kernel_rfl)
  ⟨LoopEq.mk N (fun Ω kx kr => B_f49_L0 N kx kr) (fun Ω g kx kr s => by kernel_rfl),⟨LoopEq.mk N (fun Ω kx kr => B_f49_L2 N kx kr) (fun Ω g kx kr s => by kernel_rfl),trivial⟩⟩ (by kernel_rfl) (fun a => by kernel_rfl)
def nf_69 : NF := { body := (.seq (.reg true (.op ⟨some 10,none,(.mv (.const (.int .i64 (0))))⟩ .done)) (.block 0 (.loop (.seq (.seq (.reg true (.op ⟨some 11,none,(.mv (.tmp 10))⟩ (.op ⟨some 12,none,(.mv (.tmp 3))⟩ (.op ⟨some 13,none,(.bin .lss (.tmp 11) (.tmp 12))⟩ .done)))) (.cond (.tmp 13) .skip (.exit 0))) (.seq (.block 1 (.reg true (.op ⟨some 16,none,(.mv (.tmp 0))⟩ (.op ⟨some 17,none,(.mv (.tmp 1))⟩ (.op ⟨some 18,none,(.mv (.tmp 10))⟩ (.op ⟨some 19,none,(.bin .add (.tmp 17) (.tmp 18))⟩ (.op ⟨some 20,none,(.mv (.tmp 0))⟩ (.op ⟨some 21,none,(.mv (.tmp 2))⟩ (.op ⟨some 22,none,(.mv (.tmp 10))⟩ (.op ⟨some 23,none,(.bin .add (.tmp 21) (.tmp 22))⟩ (.op ⟨some 24,none,(.mv (.tmp 0))⟩ (.op ⟨some 25,none,(.mv (.tmp 2))⟩ (.op ⟨some 26,none,(.mv (.tmp 10))⟩ (.op ⟨some 27,none,(.bin .add (.tmp 25) (.tmp 26))⟩ (.op ⟨some 28,none,(.iad 2 (.tmp 24) (.tmp 27))⟩ (.op ⟨some 29,none,(.ld 2 true (.tmp 28))⟩ (.op ⟨some 30,none,(.mv (.tmp 0))⟩ (.op ⟨some 31,none,(.mv (.tmp 1))⟩ (.op ⟨some 32,none,(.mv (.tmp 10))⟩ (.op ⟨some 33,none,(.bin .add (.tmp 31) (.tmp 32))⟩ (.op ⟨some 34,none,(.iad 2 (.tmp 30) (.tmp 33))⟩ (.op ⟨some 35,none,(.ld 2 true (.tmp 34))⟩ (.op ⟨some 36,none,(.iad 2 (.tmp 16) (.tmp 19))⟩ (.op ⟨none,none,(.st 2 (.tmp 36) (.tmp 29))⟩ (.op ⟨some 37,none,(.iad 2 (.tmp 20) (.tmp 23))⟩ (.op ⟨none,none,(.st 2 (.tmp 37) (.tmp 35))⟩ .done)))))))))))))))))))))))))) (.reg true (.op ⟨some 14,none,(.mv (.tmp 10))⟩ (.op ⟨some 15,none,(.bin .add (.tmp 14) (.const (.int .i64 (1))))⟩ (.op ⟨some 10,none,(.mv (.tmp 15))⟩ .done))))))))),res := [],n := 38 }
theorem hn_69 : nFn Try.prog 69 = some nf_69 := by kernel_rfl
def B_f52_L0 (N : Nat) {Ω : Type} (kx : DenS (.o 0 tItem) → Option Ω) (kr : (Unit × DenW (.pr (.o 0 tItem) (.pr (.d 1 I) (.pr (.d 2 I) (.pr (.d 3 I) (.fn 4 50 .un)))))) → Option Ω) (rec_ : DenS (.pr (.o 0 tItem) (.pr (.d 1 I) (.pr (.d 2 I) (.pr (.d 3 I) (.d 10 I))))) → Option Ω) : DenS (.pr (.o 0 tItem) (.pr (.d 1 I) (.pr (.d 2 I) (.pr (.d 3 I) (.d 10 I))))) → Option Ω := fun (s0,s1,s2,s3,s10) =>
 (bif (decide (s10 < s3)) then (bif (decide (0 ≤ (wrap64 (s2 + s10))) && decide ((wrap64 (s2 + s10)) < s0.length)) then (bif (decide (0 ≤ (wrap64 (s1 + s10))) && decide ((wrap64 (s1 + s10)) < s0.length)) then (bif (decide (0 ≤ (wrap64 (s1 + s10))) && decide ((wrap64 (s1 + s10)) < s0.length)) then (bif (decide (0 ≤ (wrap64 (s2 + s10))) && decide ((wrap64 (s2 + s10)) < (s0.set ((wrap64 (s1 + s10)).toNat) (s0.getD ((wrap64 (s2 + s10)).toNat) (dft tItem))).length)) then (let l1 : List (Den tItem) := ((s0.set ((wrap64 (s1 + s10)).toNat) (s0.getD ((wrap64 (s2 + s10)).toNat) (dft tItem))).set ((wrap64 (s2 + s10)).toNat) (s0.getD ((wrap64 (s1 + s10)).toNat) (dft tItem))); rec_ (l1,s1,s2,s3,(wrap64 (s10 + (1:Int))))) else none) else none) else none) else none) else kx s0)
def x_f52 (N : Nat) (a0 : (List (Den tItem))) (a1 : Int) (a2 : Int) (a3 : Int) (a4 : (DenP .un)) : Option (Unit × DenW (.pr (.o 0 tItem) (.pr (.d 1 I) (.pr (.d 2 I) (.pr (.d 3 I) (.fn 4 50 .un)))))) :=
 (iter (B_f52_L0 N (fun x2 => some ((),x2,(),(),(),())) (fun ρ3 => some (ρ3))) N (a0,a1,a2,a3,(0:Int))).bind fun r => bif (Nat.beq a0.length r.2.1.length && (true && (true && (true && true)))) then some r else none
abbrev cm_f52 (N : Nat) : CM := ⟨69,(.pr (.o 0 tItem) (.pr (.d 1 I) (.pr (.d 2 I) (.pr (.d 3 I) (.fn 4 50 .un))))),.un,fun a => x_f52 N a.1 a.2.1 a.2.2.1 a.2.2.2.1 a.2.2.2.2⟩
theorem c_f52 (N : Nat) : CMok Try.prog (cm_f52 N) :=
 CM_okN hn_69 (Γ := []) (Θ := []) (Λ := ([⟨0,1,(.pr (.o 0 tItem) (.pr (.d 1 I) (.pr (.d 2 I) (.pr (.d 3 I) (.d 10 I))))),(.o 0 tItem),fun {Ω} kx kr => iter (B_f52_L0 N kx kr) N⟩] : List (LC (DenR .un × DenW (.pr (.o 0 tItem) (.pr (.d 1 I) (.pr (.d 2 I) (.pr (.d 3 I) (.fn 4 50 .un))))))))) mixed trivial (by kernel_rfl)
  ⟨LoopEq.mk N (fun Ω kx kr => B_f52_L0 N kx kr) (fun Ω g kx kr s => by kernel_rfl),trivial⟩ (by kernel_rfl) (fun a => by kernel_rfl)
def B_f50_L0 (N : Nat) {Ω : Type} (kx : DenS (.pr (.o 0 tItem) (.pr (.d 2 I) (.pr (.fn 4 50 .un) (.d 10 I)))) → Option Ω) (kr : (Unit × DenW (.pr (.o 0 tItem) (.pr (.d 1 I) (.pr (.d 2 I) (.pr (.d 3 I) (.fn 4 50 .un)))))) → Option Ω) (rec_ : DenS (.pr (.o 0 tItem) (.pr (.d 2 I) (.pr (.fn 4 50 .un) (.pr (.d 10 I) (.d 11 I))))) → Option Ω) : DenS (.pr (.o 0 tItem) (.pr (.d 2 I) (.pr (.fn 4 50 .un) (.pr (.d 10 I) (.d 11 I))))) → Option Ω := fun (s0,s2,s4,s10,s11) =>
 (bif (!decide (s10 = s11)) then (bif (decide (s11 < s10)) then (x_f52 N s0 (wrap64 (s2 - s10)) s2 s11 ()).bind fun r1 => rec_ (r1.2.1,s2,(),(wrap64 (s10 - s11)),s11) else (x_f52 N s0 (wrap64 (s2 - s10)) (wrap64 ((wrap64 (s2 + s11)) - s10)) s10 ()).bind fun r2 => rec_ (r2.2.1,s2,(),s10,(wrap64 (s11 - s10)))) else kx (s0,s2,(),s10))
def x_f50 (N : Nat) (a0 : (List (Den tItem))) (a1 : Int) (a2 : Int) (a3 : Int) (a4 : (DenP .un)) : Option (Unit × DenW (.pr (.o 0 tItem) (.pr (.d 1 I) (.pr (.d 2 I) (.pr (.d 3 I) (.fn 4 50 .un)))))) :=
 (iter (B_f50_L0 N (fun (x3,x4,x5,x6) => (x_f52 N x3 (wrap64 (x4 - x6)) x4 x6 ()).bind fun r7 => some ((),r7.2.1,(),(),(),())) (fun ρ8 => some (ρ8))) N (a0,a2,(),(wrap64 (a2 - a1)),(wrap64 (a3 - a2)))).bind fun r => bif (Nat.beq a0.length r.2.1.length && (true && (true && (true && true)))) then some r else none
abbrev cm_f50 (N : Nat) : CM := ⟨68,(.pr (.o 0 tItem) (.pr (.d 1 I) (.pr (.d 2 I) (.pr (.d 3 I) (.fn 4 50 .un))))),.un,fun a => x_f50 N a.1 a.2.1 a.2.2.1 a.2.2.2.1 a.2.2.2.2⟩
theorem c_f50 (N : Nat) : CMok Try.prog (cm_f50 N) :=
 CM_ok (Γ := [.m (cm_f52 N)]) (Θ := []) (Λ := ([⟨0,1,(.pr (.o 0 tItem) (.pr (.d 2 I) (.pr (.fn 4 50 .un) (.pr (.d 10 I) (.d 11 I))))),(.pr (.o 0 tItem) (.pr (.d 2 I) (.pr (.fn 4 50 .un) (.d 10 I)))),fun {Ω} kx kr => iter (B_f50_L0 N kx kr) N⟩] : List (LC (DenR .un × DenW (.pr (.o 0 tItem) (.pr (.d 1 I) (.pr (.d 2 I) (.pr (.d 3 I) (.fn 4 50 .un))))))))) (by kernel_rfl) mixed ⟨c_f52 N,trivial⟩ (by kernel_rfl)
  ⟨LoopEq.mk N (fun Ω kx kr => B_f50_L0 N kx kr) (fun Ω g kx kr s => by kernel_rfl),trivial⟩ (by kernel_rfl) (fun a => by kernel_rfl)
def nf_66 : NF := { body := (.seq (.seq (.reg true (.op ⟨some 25,none,(.mv (.tmp 2))⟩ (.op ⟨some 26,none,(.mv (.tmp 1))⟩ (.op ⟨some 27,none,(.bin .sub (.tmp 25) (.tmp 26))⟩ (.op ⟨some 28,none,(.bin .eql (.tmp 27) (.const (.int .i64 (1))))⟩ .done))))) (.cond (.tmp 28) (.seq (.reg true (.op ⟨some 29,none,(.mv (.tmp 2))⟩ (.op ⟨some 10,none,(.mv (.tmp 29))⟩ .done))) (.seq (.reg true (.op ⟨some 30,none,(.mv (.tmp 3))⟩ (.op ⟨some 11,none,(.mv (.tmp 30))⟩ .done))) (.seq (.block 0 (.loop (.seq (.seq (.reg true (.op ⟨some 31,none,(.mv (.tmp 10))⟩ (.op ⟨some 32,none,(.mv (.tmp 11))⟩ (.op ⟨some 33,none,(.bin .lss (.tmp 31) (.tmp 32))⟩ .done)))) (.cond (.tmp 33) .skip (.exit 0))) (.block 1 (.seq (.reg true (.op ⟨some 34,none,(.mv (.tmp 10))⟩ (.op ⟨some 35,none,(.mv (.tmp 11))⟩ (.op ⟨some 36,none,(.bin .add (.tmp 34) (.tmp 35))⟩ (.op ⟨some 37,none,(.cvi .u64 (.tmp 36))⟩ (.op ⟨some 38,none,(.bin .shr (.tmp 37) (.const (.int .u64 (1))))⟩ (.op ⟨some 39,none,(.cvi .i64 (.tmp 38))⟩ (.op ⟨some 12,none,(.mv (.tmp 39))⟩ .done)))))))) (.seq (.reg true (.op ⟨some 40,none,(.mv (.tmp 4))⟩ (.op ⟨some 41,none,(.mv (.tmp 0))⟩ (.op ⟨some 42,none,(.mv (.tmp 12))⟩ (.op ⟨some 43,none,(.iad 2 (.tmp 41) (.tmp 42))⟩ (.op ⟨some 44,none,(.ld 2 true (.tmp 43))⟩ (.op ⟨some 45,none,(.mv (.tmp 0))⟩ (.op ⟨some 46,none,(.mv (.tmp 1))⟩ (.op ⟨some 47,none,(.iad 2 (.tmp 45) (.tmp 46))⟩ (.op ⟨some 48,none,(.ld 2 true (.tmp 47))⟩ (.op ⟨some 49,none,(.callv (.tmp 40) [(.tmp 44),(.tmp 48)])⟩ (.op ⟨some 50,none,(.bin .lss (.tmp 49) (.const (.int .i64 (0))))⟩ .done)))))))))))) (.cond (.tmp 50) (.reg true (.op ⟨some 51,none,(.mv (.tmp 12))⟩ (.op ⟨some 52,none,(.bin .add (.tmp 51) (.const (.int .i64 (1))))⟩ (.op ⟨some 10,none,(.mv (.tmp 52))⟩ .done)))) (.reg true (.op ⟨some 53,none,(.mv (.tmp 12))⟩ (.op ⟨some 11,none,(.mv (.tmp 53))⟩ .done)))))))))) (.seq (.seq (.reg true (.op ⟨some 54,none,(.mv (.tmp 1))⟩ (.op ⟨some 13,none,(.mv (.tmp 54))⟩ .done))) (.block 2 (.loop (.seq (.seq (.reg true (.op ⟨some 55,none,(.mv (.tmp 13))⟩ (.op ⟨some 56,none,(.mv (.tmp 10))⟩ (.op ⟨some 57,none,(.bin .sub (.tmp 56) (.const (.int .i64 (1))))⟩ (.op ⟨some 58,none,(.bin .lss (.tmp 55) (.tmp 57))⟩ .done))))) (.cond (.tmp 58) .skip (.exit 2))) (.seq (.block 3 (.reg true (.op ⟨some 61,none,(.mv (.tmp 0))⟩ (.op ⟨some 62,none,(.mv (.tmp 13))⟩ (.op ⟨some 63,none,(.mv (.tmp 0))⟩ (.op ⟨some 64,none,(.mv (.tmp 13))⟩ (.op ⟨some 65,none,(.bin .add (.tmp 64) (.const (.int .i64 (1))))⟩ (.op ⟨some 66,none,(.mv (.tmp 0))⟩ (.op ⟨some 67,none,(.mv (.tmp 13))⟩ (.op ⟨some 68,none,(.bin .add (.tmp 67) (.const (.int .i64 (1))))⟩ (.op ⟨some 69,none,(.iad 2 (.tmp 66) (.tmp 68))⟩ (.op ⟨some 70,none,(.ld 2 true (.tmp 69))⟩ (.op ⟨some 71,none,(.mv (.tmp 0))⟩ (.op ⟨some 72,none,(.mv (.tmp 13))⟩ (.op ⟨some 73,none,(.iad 2 (.tmp 71) (.tmp 72))⟩ (.op ⟨some 74,none,(.ld 2 true (.tmp 73))⟩ (.op ⟨some 75,none,(.iad 2 (.tmp 61) (.tmp 62))⟩ (.op ⟨none,none,(.st 2 (.tmp 75) (.tmp 70))⟩ (.op ⟨some 76,none,(.iad 2 (.tmp 63) (.tmp 65))⟩ (.op ⟨none,none,(.st 2 (.tmp 76) (.tmp 74))⟩ .done)))))))))))))))))))) (.reg true (.op ⟨some 59,none,(.mv (.tmp 13))⟩ (.op ⟨some 60,none,(.bin .add (.tmp 59) (.const (.int .i64 (1))))⟩ (.op ⟨some 13,none,(.mv (.tmp 60))⟩ .done))))))))) .ret)))) .skip)) (.seq (.seq (.reg true (.op ⟨some 77,none,(.mv (.tmp 3))⟩ (.op ⟨some 78,none,(.mv (.tmp 2))⟩ (.op ⟨some 79,none,(.bin .sub (.tmp 77) (.tmp 78))⟩ (.op ⟨some 80,none,(.bin .eql (.tmp 79) (.const (.int .i64 (1))))⟩ .done))))) (.cond (.tmp 80) (.seq (.reg true (.op ⟨some 81,none,(.mv (.tmp 1))⟩ (.op ⟨some 14,none,(.mv (.tmp 81))⟩ .done))) (.seq (.reg true (.op ⟨some 82,none,(.mv (.tmp 2))⟩ (.op ⟨some 15,none,(.mv (.tmp 82))⟩ .done))) (.seq (.block 4 (.loop (.seq (.seq (.reg true (.op ⟨some 83,none,(.mv (.tmp 14))⟩ (.op ⟨some 84,none,(.mv (.tmp 15))⟩ (.op ⟨some 85,none,(.bin .lss (.tmp 83) (.tmp 84))⟩ .done)))) (.cond (.tmp 85) .skip (.exit 4))) (.block 5 (.seq (.reg true (.op ⟨some 86,none,(.mv (.tmp 14))⟩ (.op ⟨some 87,none,(.mv (.tmp 15))⟩ (.op ⟨some 88,none,(.bin .add (.tmp 86) (.tmp 87))⟩ (.op ⟨some 89,none,(.cvi .u64 (.tmp 88))⟩ (.op ⟨some 90,none,(.bin .shr (.tmp 89) (.const (.int .u64 (1))))⟩ (.op ⟨some 91,none,(.cvi .i64 (.tmp 90))⟩ (.op ⟨some 16,none,(.mv (.tmp 91))⟩ .done)))))))) (.seq (.reg true (.op ⟨some 92,none,(.mv (.tmp 4))⟩ (.op ⟨some 93,none,(.mv (.tmp 0))⟩ (.op ⟨some 94,none,(.mv (.tmp 2))⟩ (.op ⟨some 95,none,(.iad 2 (.tmp 93) (.tmp 94))⟩ (.op ⟨some 96,none,(.ld 2 true (.tmp 95))⟩ (.op ⟨some 97,none,(.mv (.tmp 0))⟩ (.op ⟨some 98,none,(.mv (.tmp 16))⟩ (.op ⟨some 99,none,(.iad 2 (.tmp 97) (.tmp 98))⟩ (.op ⟨some 100,none,(.ld 2 true (.tmp 99))⟩ (.op ⟨some 101,none,(.callv (.tmp 92) [(.tmp 96),(.tmp 100)])⟩ (.op ⟨some 102,none,(.bin .lss (.tmp 101) (.const (.int .i64 (0))))⟩ (.op ⟨some 103,none,(.un .not (.tmp 102))⟩ .done))))))))))))) (.cond (.tmp 103) (.reg true (.op ⟨some 104,none,(.mv (.tmp 16))⟩ (.op ⟨some 105,none,(.bin .add (.tmp 104) (.const (.int .i64 (1))))⟩ (.op ⟨some 14,none,(.mv (.tmp 105))⟩ .done)))) (.reg true (.op ⟨some 106,none,(.mv (.tmp 16))⟩ (.op ⟨some 15,none,(.mv (.tmp 106))⟩ .done)))))))))) (.seq (.seq (.reg true (.op ⟨some 107,none,(.mv (.tmp 2))⟩ (.op ⟨some 17,none,(.mv (.tmp 107))⟩ .done))) (.block 6 (.loop (.seq (.seq (.reg true (.op ⟨some 108,none,(.mv (.tmp 17))⟩ (.op ⟨some 109,none,(.mv (.tmp 14))⟩ (.op ⟨some 110,none,(.bin .gtr (.tmp 108) (.tmp 109))⟩ .done)))) (.cond (.tmp 110) .skip (.exit 6))) (.seq (.block 7 (.reg true (.op ⟨some 113,none,(.mv (.tmp 0))⟩ (.op ⟨some 114,none,(.mv (.tmp 17))⟩ (.op ⟨some 115,none,(.mv (.tmp 0))⟩ (.op ⟨some 116,none,(.mv (.tmp 17))⟩ (.op ⟨some 117,none,(.bin .sub (.tmp 116) (.const (.int .i64 (1))))⟩ (.op ⟨some 118,none,(.mv (.tmp 0))⟩ (.op ⟨some 119,none,(.mv (.tmp 17))⟩ (.op ⟨some 120,none,(.bin .sub (.tmp 119) (.const (.int .i64 (1))))⟩ (.op ⟨some 121,none,(.iad 2 (.tmp 118) (.tmp 120))⟩ (.op ⟨some 122,none,(.ld 2 true (.tmp 121))⟩ (.op ⟨some 123,none,(.mv (.tmp 0))⟩ (.op ⟨some 124,none,(.mv (.tmp 17))⟩ (.op ⟨some 125,none,(.iad 2 (.tmp 123) (.tmp 124))⟩ (.op ⟨some 126,none,(.ld 2 true (.tmp 125))⟩ (.op ⟨some 127,none,(.iad 2 (.tmp 113) (.tmp 114))⟩ (.op ⟨none,none,(.st 2 (.tmp 127) (.tmp 122))⟩ (.op ⟨some 128,none,(.iad 2 (.tmp 115) (.tmp 117))⟩ (.op ⟨none,none,(.st 2 (.tmp 128) (.tmp 126))⟩ .done)))))))))))))))))))) (.reg true (.op ⟨some 111,none,(.mv (.tmp 17))⟩ (.op ⟨some 112,none,(.bin .sub (.tmp 111) (.const (.int .i64 (1))))⟩ (.op ⟨some 17,none,(.mv (.tmp 112))⟩ .done))))))))) .ret)))) .skip)) (.seq (.reg true (.op ⟨some 129,none,(.mv (.tmp 1))⟩ (.op ⟨some 130,none,(.mv (.tmp 3))⟩ (.op ⟨some 131,none,(.bin .add (.tmp 129) (.tmp 130))⟩ (.op ⟨some 132,none,(.cvi .u64 (.tmp 131))⟩ (.op ⟨some 133,none,(.bin .shr (.tmp 132) (.const (.int .u64 (1))))⟩ (.op ⟨some 134,none,(.cvi .i64 (.tmp 133))⟩ (.op ⟨some 18,none,(.mv (.tmp 134))⟩ .done)))))))) (.seq (.reg true (.op ⟨some 135,none,(.mv (.tmp 18))⟩ (.op ⟨some 136,none,(.mv (.tmp 2))⟩ (.op ⟨some 137,none,(.bin .add (.tmp 135) (.tmp 136))⟩ (.op ⟨some 19,none,(.mv (.tmp 137))⟩ .done))))) (.seq (.reg true (.op ⟨some 20,none,(.mv (.const (.int .i64 (0))))⟩ (.op ⟨some 21,none,(.mv (.const (.int .i64 (0))))⟩ .done))) (.seq (.seq (.reg true (.op ⟨some 138,none,(.mv (.tmp 2))⟩ (.op ⟨some 139,none,(.mv (.tmp 18))⟩ (.op ⟨some 140,none,(.bin .gtr (.tmp 138) (.tmp 139))⟩ .done)))) (.cond (.tmp 140) (.seq (.reg true (.op ⟨some 141,none,(.mv (.tmp 19))⟩ (.op ⟨some 142,none,(.mv (.tmp 3))⟩ (.op ⟨some 143,none,(.bin .sub (.tmp 141) (.tmp 142))⟩ (.op ⟨some 20,none,(.mv (.tmp 143))⟩ .done))))) (.reg true (.op ⟨some 144,none,(.mv (.tmp 18))⟩ (.op ⟨some 21,none,(.mv (.tmp 144))⟩ .done)))) (.seq (.reg true (.op ⟨some 145,none,(.mv (.tmp 1))⟩ (.op ⟨some 20,none,(.mv (.tmp 145))⟩ .done))) (.reg true (.op ⟨some 146,none,(.mv (.tmp 2))⟩ (.op ⟨some 21,none,(.mv (.tmp 146))⟩ .done)))))) (.seq (.reg true (.op ⟨some 147,none,(.mv (.tmp 19))⟩ (.op ⟨some 148,none,(.bin .sub (.tmp 147) (.const (.int .i64 (1))))⟩ (.op ⟨some 22,none,(.mv (.tmp 148))⟩ .done)))) (.seq (.block 8 (.loop (.seq (.seq (.reg true (.op ⟨some 149,none,(.mv (.tmp 20))⟩ (.op ⟨some 150,none,(.mv (.tmp 21))⟩ (.op ⟨some 151,none,(.bin .lss (.tmp 149) (.tmp 150))⟩ .done)))) (.cond (.tmp 151) .skip (.exit 8))) (.block 9 (.seq (.reg true (.op ⟨some 152,none,(.mv (.tmp 20))⟩ (.op ⟨some 153,none,(.mv (.tmp 21))⟩ (.op ⟨some 154,none,(.bin .add (.tmp 152) (.tmp 153))⟩ (.op ⟨some 155,none,(.cvi .u64 (.tmp 154))⟩ (.op ⟨some 156,none,(.bin .shr (.tmp 155) (.const (.int .u64 (1))))⟩ (.op ⟨some 157,none,(.cvi .i64 (.tmp 156))⟩ (.op ⟨some 23,none,(.mv (.tmp 157))⟩ .done)))))))) (.seq (.reg true (.op ⟨some 158,none,(.mv (.tmp 4))⟩ (.op ⟨some 159,none,(.mv (.tmp 0))⟩ (.op ⟨some 160,none,(.mv (.tmp 22))⟩ (.op ⟨some 161,none,(.mv (.tmp 23))⟩ (.op ⟨some 162,none,(.bin .sub (.tmp 160) (.tmp 161))⟩ (.op ⟨some 163,none,(.iad 2 (.tmp 159) (.tmp 162))⟩ (.op ⟨some 164,none,(.ld 2 true (.tmp 163))⟩ (.op ⟨some 165,none,(.mv (.tmp 0))⟩ (.op ⟨some 166,none,(.mv (.tmp 23))⟩ (.op ⟨some 167,none,(.iad 2 (.tmp 165) (.tmp 166))⟩ (.op ⟨some 168,none,(.ld 2 true (.tmp 167))⟩ (.op ⟨some 169,none,(.callv (.tmp 158) [(.tmp 164),(.tmp 168)])⟩ (.op ⟨some 170,none,(.bin .lss (.tmp 169) (.const (.int .i64 (0))))⟩ (.op ⟨some 171,none,(.un .not (.tmp 170))⟩ .done))))))))))))))) (.cond (.tmp 171) (.reg true (.op ⟨some 172,none,(.mv (.tmp 23))⟩ (.op ⟨some 173,none,(.bin .add (.tmp 172) (.const (.int .i64 (1))))⟩ (.op ⟨some 20,none,(.mv (.tmp 173))⟩ .done)))) (.reg true (.op ⟨some 174,none,(.mv (.tmp 23))⟩ (.op ⟨some 21,none,(.mv (.tmp 174))⟩ .done)))))))))) (.seq (.reg true (.op ⟨some 175,none,(.mv (.tmp 19))⟩ (.op ⟨some 176,none,(.mv (.tmp 20))⟩ (.op ⟨some 177,none,(.bin .sub (.tmp 175) (.tmp 176))⟩ (.op ⟨some 24,none,(.mv (.tmp 177))⟩ .done))))) (.seq (.seq (.reg true (.op ⟨some 178,none,(.mv (.tmp 20))⟩ (.op ⟨some 179,none,(.mv (.tmp 2))⟩ (.op ⟨some 180,none,(.bin .lss (.tmp 178) (.tmp 179))⟩ (.op ⟨some 181,none,(.mv (.tmp 180))⟩ (.op ⟨some 182,some (181,true),(.mv (.tmp 2))⟩ (.op ⟨some 183,some (181,true),(.mv (.tmp 24))⟩ (.op ⟨some 184,some (181,true),(.bin .lss (.tmp 182) (.tmp 183))⟩ (.op ⟨some 185,none,(.pick (.tmp 181) (.tmp 184) (.const (.bool false)))⟩ .done))))))))) (.cond (.tmp 185) (.reg true (.op ⟨some 186,none,(.mv (.tmp 0))⟩ (.op ⟨some 187,none,(.mv (.tmp 20))⟩ (.op ⟨some 188,none,(.mv (.tmp 2))⟩ (.op ⟨some 189,none,(.mv (.tmp 24))⟩ (.op ⟨some 190,none,(.mv (.tmp 4))⟩ (.op ⟨some 191,none,(.call 68 [(.tmp 186),(.tmp 187),(.tmp 188),(.tmp 189),(.tmp 190)])⟩ .done))))))) .skip)) (.seq (.seq (.reg true (.op ⟨some 192,none,(.mv (.tmp 1))⟩ (.op ⟨some 193,none,(.mv (.tmp 20))⟩ (.op ⟨some 194,none,(.bin .lss (.tmp 192) (.tmp 193))⟩ (.op ⟨some 195,none,(.mv (.tmp 194))⟩ (.op ⟨some 196,some (195,true),(.mv (.tmp 20))⟩ (.op ⟨some 197,some (195,true),(.mv (.tmp 18))⟩ (.op ⟨some 198,some (195,true),(.bin .lss (.tmp 196) (.tmp 197))⟩ (.op ⟨some 199,none,(.pick (.tmp 195) (.tmp 198) (.const (.bool false)))⟩ .done))))))))) (.cond (.tmp 199) (.reg true (.op ⟨some 200,none,(.mv (.tmp 0))⟩ (.op ⟨some 201,none,(.mv (.tmp 1))⟩ (.op ⟨some 202,none,(.mv (.tmp 20))⟩ (.op ⟨some 203,none,(.mv (.tmp 18))⟩ (.op ⟨some 204,none,(.mv (.tmp 4))⟩ (.op ⟨some 205,none,(.call 66 [(.tmp 200),(.tmp 201),(.tmp 202),(.tmp 203),(.tmp 204)])⟩ .done))))))) .skip)) (.seq (.reg true (.op ⟨some 206,none,(.mv (.tmp 18))⟩ (.op ⟨some 207,none,(.mv (.tmp 24))⟩ (.op ⟨some 208,none,(.bin .lss (.tmp 206) (.tmp 207))⟩ (.op ⟨some 209,none,(.mv (.tmp 208))⟩ (.op ⟨some 210,some (209,true),(.mv (.tmp 24))⟩ (.op ⟨some 211,some (209,true),(.mv (.tmp 3))⟩ (.op ⟨some 212,some (209,true),(.bin .lss (.tmp 210) (.tmp 211))⟩ (.op ⟨some 213,none,(.pick (.tmp 209) (.tmp 212) (.const (.bool false)))⟩ .done))))))))) (.cond (.tmp 213) (.reg true (.op ⟨some 214,none,(.mv (.tmp 0))⟩ (.op ⟨some 215,none,(.mv (.tmp 18))⟩ (.op ⟨some 216,none,(.mv (.tmp 24))⟩ (.op ⟨some 217,none,(.mv (.tmp 3))⟩ (.op ⟨some 218,none,(.mv (.tmp 4))⟩ (.op ⟨some 219,none,(.call 66 [(.tmp 214),(.tmp 215),(.tmp 216),(.tmp 217),(.tmp 218)])⟩ .done))))))) .skip))))))))))))),res := [],n := 220 }
theorem hn_66 : nFn Try.prog 66 = some nf_66 := by kernel_rfl
def B_f53_L0 (N : Nat) {Ω : Type} (kx : DenS (.pr (.o 0 tItem) (.pr (.d 1 I) (.d 10 I))) → Option Ω) (kr : (Unit × DenW (.pr (.o 0 tItem) (.pr (.d 1 I) (.pr (.d 2 I) (.pr (.d 3 I) (.fn 4 50 .un)))))) → Option Ω) (rec_ : DenS (.pr (.o 0 tItem) (.pr (.d 1 I) (.pr (.fn 4 50 .un) (.pr (.d 10 I) (.d 11 I))))) → Option Ω) : DenS (.pr (.o 0 tItem) (.pr (.d 1 I) (.pr (.fn 4 50 .un) (.pr (.d 10 I) (.d 11 I))))) → Option Ω := fun (s0,s1,s4,s10,s11) =>
 (bif (decide (s10 < s11)) then (bif (decide (0 ≤ (wrap64 (shrI .u64 ((wrap64 (s10 + s11)) % 18446744073709551616) (1:Int)))) && decide ((wrap64 (shrI .u64 ((wrap64 (s10 + s11)) % 18446744073709551616) (1:Int))) < s0.length)) then (bif (decide (0 ≤ s1) && decide (s1 < s0.length)) then (x_f1 N (s0.getD ((wrap64 (shrI .u64 ((wrap64 (s10 + s11)) % 18446744073709551616) (1:Int))).toNat) (dft tItem)) (s0.getD s1.toNat (dft tItem))).bind fun r1 => (bif (decide (r1 < (0:Int))) then rec_ (s0,s1,(),(wrap64 ((wrap64 (shrI .u64 ((wrap64 (s10 + s11)) % 18446744073709551616) (1:Int))) + (1:Int))),s11) else rec_ (s0,s1,(),s10,(wrap64 (shrI .u64 ((wrap64 (s10 + s11)) % 18446744073709551616) (1:Int))))) else none) else none) else kx (s0,s1,s10))
def B_f53_L2 (N : Nat) {Ω : Type} (kx : DenS (.o 0 tItem) → Option Ω) (kr : (Unit × DenW (.pr (.o 0 tItem) (.pr (.d 1 I) (.pr (.d 2 I) (.pr (.d 3 I) (.fn 4 50 .un)))))) → Option Ω) (rec_ : DenS (.pr (.o 0 tItem) (.pr (.d 10 I) (.d 13 I))) → Option Ω) : DenS (.pr (.o 0 tItem) (.pr (.d 10 I) (.d 13 I))) → Option Ω := fun (s0,s10,s13) =>
 (bif (decide (s13 < (wrap64 (s10 - (1:Int))))) then (bif (decide (0 ≤ (wrap64 (s13 + (1:Int)))) && decide ((wrap64 (s13 + (1:Int))) < s0.length)) then (bif (decide (0 ≤ s13) && decide (s13 < s0.length)) then (bif (decide (0 ≤ s13) && decide (s13 < s0.length)) then (bif (decide (0 ≤ (wrap64 (s13 + (1:Int)))) && decide ((wrap64 (s13 + (1:Int))) < (s0.set s13.toNat (s0.getD ((wrap64 (s13 + (1:Int))).toNat) (dft tItem))).length)) then rec_ (((s0.set s13.toNat (s0.getD ((wrap64 (s13 + (1:Int))).toNat) (dft tItem))).set ((wrap64 (s13 + (1:Int))).toNat) (s0.getD s13.toNat (dft tItem))),s10,(wrap64 (s13 + (1:Int)))) else none) else none) else none) else none) else kx s0)
def B_f53_L4 (N : Nat) {Ω : Type} (kx : DenS (.pr (.o 0 tItem) (.pr (.d 2 I) (.d 14 I))) → Option Ω) (kr : (Unit × DenW (.pr (.o 0 tItem) (.pr (.d 1 I) (.pr (.d 2 I) (.pr (.d 3 I) (.fn 4 50 .un)))))) → Option Ω) (rec_ : DenS (.pr (.o 0 tItem) (.pr (.d 2 I) (.pr (.fn 4 50 .un) (.pr (.d 14 I) (.d 15 I))))) → Option Ω) : DenS (.pr (.o 0 tItem) (.pr (.d 2 I) (.pr (.fn 4 50 .un) (.pr (.d 14 I) (.d 15 I))))) → Option Ω := fun (s0,s2,s4,s14,s15) =>
 (bif (decide (s14 < s15)) then (bif (decide (0 ≤ s2) && decide (s2 < s0.length)) then (bif (decide (0 ≤ (wrap64 (shrI .u64 ((wrap64 (s14 + s15)) % 18446744073709551616) (1:Int)))) && decide ((wrap64 (shrI .u64 ((wrap64 (s14 + s15)) % 18446744073709551616) (1:Int))) < s0.length)) then (x_f1 N (s0.getD s2.toNat (dft tItem)) (s0.getD ((wrap64 (shrI .u64 ((wrap64 (s14 + s15)) % 18446744073709551616) (1:Int))).toNat) (dft tItem))).bind fun r8 => (bif (!(decide (r8 < (0:Int)))) then rec_ (s0,s2,(),(wrap64 ((wrap64 (shrI .u64 ((wrap64 (s14 + s15)) % 18446744073709551616) (1:Int))) + (1:Int))),s15) else rec_ (s0,s2,(),s14,(wrap64 (shrI .u64 ((wrap64 (s14 + s15)) % 18446744073709551616) (1:Int))))) else none) else none) else kx (s0,s2,s14))
def B_f53_L6 (N : Nat) {Ω : Type} (kx : DenS (.o 0 tItem) → Option Ω) (kr : (Unit × DenW (.pr (.o 0 tItem) (.pr (.d 1 I) (.pr (.d 2 I) (.pr (.d 3 I) (.fn 4 50 .un)))))) → Option Ω) (rec_ : DenS (.pr (.o 0 tItem) (.pr (.d 14 I) (.d 17 I))) → Option Ω) : DenS (.pr (.o 0 tItem) (.pr (.d 14 I) (.d 17 I))) → Option Ω := fun (s0,s14,s17) =>
 (bif (decide (s14 < s17)) then (bif (decide (0 ≤ (wrap64 (s17 - (1:Int)))) && decide ((wrap64 (s17 - (1:Int))) < s0.length)) then (bif (decide (0 ≤ s17) && decide (s17 < s0.length)) then (bif (decide (0 ≤ s17) && decide (s17 < s0.length)) then (bif (decide (0 ≤ (wrap64 (s17 - (1:Int)))) && decide ((wrap64 (s17 - (1:Int))) < (s0.set s17.toNat (s0.getD ((wrap64 (s17 - (1:Int))).toNat) (dft tItem))).length)) then rec_ (((s0.set s17.toNat (s0.getD ((wrap64 (s17 - (1:Int))).toNat) (dft tItem))).set ((wrap64 (s17 - (1:Int))).toNat) (s0.getD s17.toNat (dft tItem))),s14,(wrap64 (s17 - (1:Int)))) else none) else none) else none) else none) else kx s0)
def B_f53_L8 (N : Nat) {Ω : Type} (kx : DenS (.pr (.o 0 tItem) (.pr (.d 1 I) (.pr (.d 2 I) (.pr (.d 3 I) (.pr (.fn 4 50 .un) (.pr (.d 18 I) (.pr (.d 19 I) (.d 20 I)))))))) → Option Ω) (kr : (Unit × DenW (.pr (.o 0 tItem) (.pr (.d 1 I) (.pr (.d 2 I) (.pr (.d 3 I) (.fn 4 50 .un)))))) → Option Ω) (rec_ : DenS (.pr (.o 0 tItem) (.pr (.d 1 I) (.pr (.d 2 I) (.pr (.d 3 I) (.pr (.fn 4 50 .un) (.pr (.d 18 I) (.pr (.d 19 I) (.pr (.d 20 I) (.pr (.d 21 I) (.d 22 I)))))))))) → Option Ω) : DenS (.pr (.o 0 tItem) (.pr (.d 1 I) (.pr (.d 2 I) (.pr (.d 3 I) (.pr (.fn 4 50 .un) (.pr (.d 18 I) (.pr (.d 19 I) (.pr (.d 20 I) (.pr (.d 21 I) (.d 22 I)))))))))) → Option Ω := fun (s0,s1,s2,s3,s4,s18,s19,s20,s21,s22) =>
 (bif (decide (s20 < s21)) then (bif (decide (0 ≤ (wrap64 (s22 - (wrap64 (shrI .u64 ((wrap64 (s20 + s21)) % 18446744073709551616) (1:Int)))))) && decide ((wrap64 (s22 - (wrap64 (shrI .u64 ((wrap64 (s20 + s21)) % 18446744073709551616) (1:Int))))) < s0.length)) then (bif (decide (0 ≤ (wrap64 (shrI .u64 ((wrap64 (s20 + s21)) % 18446744073709551616) (1:Int)))) && decide ((wrap64 (shrI .u64 ((wrap64 (s20 + s21)) % 18446744073709551616) (1:Int))) < s0.length)) then (x_f1 N (s0.getD ((wrap64 (s22 - (wrap64 (shrI .u64 ((wrap64 (s20 + s21)) % 18446744073709551616) (1:Int))))).toNat) (dft tItem)) (s0.getD ((wrap64 (shrI .u64 ((wrap64 (s20 + s21)) % 18446744073709551616) (1:Int))).toNat) (dft tItem))).bind fun r15 => (bif (!(decide (r15 < (0:Int)))) then rec_ (s0,s1,s2,s3,(),s18,s19,(wrap64 ((wrap64 (shrI .u64 ((wrap64 (s20 + s21)) % 18446744073709551616) (1:Int))) + (1:Int))),s21,s22) else rec_ (s0,s1,s2,s3,(),s18,s19,s20,(wrap64 (shrI .u64 ((wrap64 (s20 + s21)) % 18446744073709551616) (1:Int))),s22)) else none) else none) else kx (s0,s1,s2,s3,(),s18,s19,s20))
def x_f53 : (N : Nat) → (List (Den tItem)) → Int → Int → Int → (DenP .un) → Option (Unit × DenW (.pr (.o 0 tItem) (.pr (.d 1 I) (.pr (.d 2 I) (.pr (.d 3 I) (.fn 4 50 .un))))))
 | 0,_,_,_,_,_ => none
 | N + 1,a0,a1,a2,a3,a4 => ((bif (decide ((wrap64 (a2 - a1)) = (1:Int))) then iter (B_f53_L0 N (fun (x2,x3,x4) => iter (B_f53_L2 N (fun x5 => some ((),x5,(),(),(),())) (fun ρ6 => some (ρ6))) N (x2,x4,x3)) (fun ρ7 => some (ρ7))) N (a0,a1,(),a2,a3) else (bif (decide ((wrap64 (a3 - a2)) = (1:Int))) then iter (B_f53_L4 N (fun (x9,x10,x11) => iter (B_f53_L6 N (fun x12 => some ((),x12,(),(),(),())) (fun ρ13 => some (ρ13))) N (x9,x11,x10)) (fun ρ14 => some (ρ14))) N (a0,a2,(),a1,a2) else (bif (decide ((wrap64 (shrI .u64 ((wrap64 (a1 + a3)) % 18446744073709551616) (1:Int))) < a2)) then iter (B_f53_L8 N (fun (x16,x17,x18,x19,x20,x21,x22,x23) => (bif (decide (x23 < x18)) then (bif (decide (x18 < (wrap64 (x22 - x23)))) then (x_f50 N x16 x23 x18 (wrap64 (x22 - x23)) ()).bind fun r24 => (bif (decide (x17 < x23)) then (bif (decide (x23 < x21)) then (x_f53 N r24.2.1 x17 x23 x21 ()).bind fun r25 => (bif (decide (x21 < (wrap64 (x22 - x23)))) then (bif (decide ((wrap64 (x22 - x23)) < x19)) then (x_f53 N r25.2.1 x21 (wrap64 (x22 - x23)) x19 ()).bind fun r26 => some ((),r26.2.1,(),(),(),()) else some ((),r25.2.1,(),(),(),())) else some ((),r25.2.1,(),(),(),())) else (bif (decide (x21 < (wrap64 (x22 - x23)))) then (bif (decide ((wrap64 (x22 - x23)) < x19)) then (x_f53 N r24.2.1 x21 (wrap64 (x22 - x23)) x19 ()).bind fun r27 => some ((),r27.2.1,(),(),(),()) else some ((),r24.2.1,(),(),(),())) else some ((),r24.2.1,(),(),(),()))) else (bif (decide (x21 < (wrap64 (x22 - x23)))) then (bif (decide ((wrap64 (x22 - x23)) < x19)) then (x_f53 N r24.2.1 x21 (wrap64 (x22 - x23)) x19 ()).bind fun r28 => some ((),r28.2.1,(),(),(),()) else some ((),r24.2.1,(),(),(),())) else some ((),r24.2.1,(),(),(),()))) else (bif (decide (x17 < x23)) then (bif (decide (x23 < x21)) then (x_f53 N x16 x17 x23 x21 ()).bind fun r29 => (bif (decide (x21 < (wrap64 (x22 - x23)))) then (bif (decide ((wrap64 (x22 - x23)) < x19)) then (x_f53 N r29.2.1 x21 (wrap64 (x22 - x23)) x19 ()).bind fun r30 => some ((),r30.2.1,(),(),(),()) else some ((),r29.2.1,(),(),(),())) else some ((),r29.2.1,(),(),(),())) else (bif (decide (x21 < (wrap64 (x22 - x23)))) then (bif (decide ((wrap64 (x22 - x23)) < x19)) then (x_f53 N x16 x21 (wrap64 (x22 - x23)) x19 ()).bind fun r31 => some ((),r31.2.1,(),(),(),()) else some ((),x16,(),(),(),())) else some ((),x16,(),(),(),()))) else (bif (decide (x21 < (wrap64 (x22 - x23)))) then (bif (decide ((wrap64 (x22 - x23)) < x19)) then (x_f53 N x16 x21 (wrap64 (x22 - x23)) x19 ()).bind fun r32 => some ((),r32.2.1,(),(),(),()) else some ((),x16,(),(),(),())) else some ((),x16,(),(),(),())))) else (bif (decide (x17 < x23)) then (bif (decide (x23 < x21)) then (x_f53 N x16 x17 x23 x21 ()).bind fun r33 => (bif (decide (x21 < (wrap64 (x22 - x23)))) then (bif (decide ((wrap64 (x22 - x23)) < x19)) then (x_f53 N r33.2.1 x21 (wrap64 (x22 - x23)) x19 ()).bind fun r34 => some ((),r34.2.1,(),(),(),()) else some ((),r33.2.1,(),(),(),())) else some ((),r33.2.1,(),(),(),())) else (bif (decide (x21 < (wrap64 (x22 - x23)))) then (bif (decide ((wrap64 (x22 - x23)) < x19)) then (x_f53 N x16 x21 (wrap64 (x22 - x23)) x19 ()).bind fun r35 => some ((),r35.2.1,(),(),(),()) else some ((),x16,(),(),(),())) else some ((),x16,(),(),(),()))) else (bif (decide (x21 < (wrap64 (x22 - x23)))) then (bif (decide ((wrap64 (x22 - x23)) < x19)) then (x_f53 N x16 x21 (wrap64 (x22 - x23)) x19 ()).bind fun r36 => some ((),r36.2.1,(),(),(),()) else some ((),x16,(),(),(),())) else some ((),x16,(),(),(),()))))) (fun ρ37 => some (ρ37))) N (a0,a1,a2,a3,(),(wrap64 (shrI .u64 ((wrap64 (a1 + a3)) % 18446744073709551616) (1:Int))),(wrap64 ((wrap64 (shrI .u64 ((wrap64 (a1 + a3)) % 18446744073709551616) (1:Int))) + a2)),(wrap64 ((wrap64 ((wrap64 (shrI .u64 ((wrap64 (a1 + a3)) % 18446744073709551616) (1:Int))) + a2)) - a3)),(wrap64 (shrI .u64 ((wrap64 (a1 + a3)) % 18446744073709551616) (1:Int))),(wrap64 ((wrap64 ((wrap64 (shrI .u64 ((wrap64 (a1 + a3)) % 18446744073709551616) (1:Int))) + a2)) - (1:Int)))) else iter (B_f53_L8 N (fun (x38,x39,x40,x41,x42,x43,x44,x45) => (bif (decide (x45 < x40)) then (bif (decide (x40 < (wrap64 (x44 - x45)))) then (x_f50 N x38 x45 x40 (wrap64 (x44 - x45)) ()).bind fun r46 => (bif (decide (x39 < x45)) then (bif (decide (x45 < x43)) then (x_f53 N r46.2.1 x39 x45 x43 ()).bind fun r47 => (bif (decide (x43 < (wrap64 (x44 - x45)))) then (bif (decide ((wrap64 (x44 - x45)) < x41)) then (x_f53 N r47.2.1 x43 (wrap64 (x44 - x45)) x41 ()).bind fun r48 => some ((),r48.2.1,(),(),(),()) else some ((),r47.2.1,(),(),(),())) else some ((),r47.2.1,(),(),(),())) else (bif (decide (x43 < (wrap64 (x44 - x45)))) then (bif (decide ((wrap64 (x44 - x45)) < x41)) then (x_f53 N r46.2.1 x43 (wrap64 (x44 - x45)) x41 ()).bind fun r49 => some ((),r49.2.1,(),(),(),()) else some ((),r46.2.1,(),(),(),())) else some ((),r46.2.1,(),(),(),()))) else (bif (decide (x43 < (wrap64 (x44 - x45)))) then (bif (decide ((wrap64 (x44 - x45)) < x41)) then (x_f53 N r46.2.1 x43 (wrap64 (x44 - x45)) x41 ()).bind fun r50 => some ((),r50.2.1,(),(),(),()) else some ((),r46.2.1,(),(),(),())) else some ((),r46.2.1,(),(),(),()))) else (bif (decide (x39 < x45)) then (bif (decide (x45 < x43)) then (x_f53 N x38 x39 x45 x43 ()).bind fun r51 => (bif (decide (x43 < (wrap64 (x44 - x45)))) then (bif (decide ((wrap64 (x44 - x45)) < x41)) then (x_f53 N r51.2.1 x43 (wrap64 (x44 - x45)) x41 ()).bind fun r52 => some ((),r52.2.1,(),(),(),()) else some ((),r51.2.1,(),(),(),())) else some ((),r51.2.1,(),(),(),())) else (bif (decide (x43 < (wrap64 (x44 - x45)))) then (bif (decide ((wrap64 (x44 - x45)) < x41)) then (x_f53 N x38 x43 (wrap64 (x44 - x45)) x41 ()).bind fun r53 => some ((),r53.2.1,(),(),(),()) else some ((),x38,(),(),(),())) else some ((),x38,(),(),(),()))) else (bif (decide (x43 < (wrap64 (x44 - x45)))) then (bif (decide ((wrap64 (x44 - x45)) < x41)) then (x_f53 N x38 x43 (wrap64 (x44 - x45)) x41 ()).bind fun r54 => some ((),r54.2.1,(),(),(),()) else some ((),x38,(),(),(),())) else some ((),x38,(),(),(),())))) else (bif (decide (x39 < x45)) then (bif (decide (x45 < x43)) then (x_f53 N x38 x39 x45 x43 ()).bind fun r55 => (bif (decide (x43 < (wrap64 (x44 - x45)))) then (bif (decide ((wrap64 (x44 - x45)) < x41)) then (x_f53 N r55.2.1 x43 (wrap64 (x44 - x45)) x41 ()).bind fun r56 => some ((),r56.2.1,(),(),(),()) else some ((),r55.2.1,(),(),(),())) else some ((),r55.2.1,(),(),(),())) else (bif (decide (x43 < (wrap64 (x44 - x45)))) then (bif (decide ((wrap64 (x44 - x45)) < x41)) then (x_f53 N x38 x43 (wrap64 (x44 - x45)) x41 ()).bind fun r57 => some ((),r57.2.1,(),(),(),()) else some ((),x38,(),(),(),())) else some ((),x38,(),(),(),()))) else (bif (decide (x43 < (wrap64 (x44 - x45)))) then (bif (decide ((wrap64 (x44 - x45)) < x41)) then (x_f53 N x38 x43 (wrap64 (x44 - x45)) x41 ()).bind fun r58 => some ((),r58.2.1,(),(),(),()) else some ((),x38,(),(),(),())) else some ((),x38,(),(),(),()))))) (fun ρ59 => some (ρ59))) N (a0,a1,a2,a3,(),(wrap64 (shrI .u64 ((wrap64 (a1 + a3)) % 18446744073709551616) (1:Int))),(wrap64 ((wrap64 (shrI .u64 ((wrap64 (a1 + a3)) % 18446744073709551616) (1:Int))) + a2)),a1,a2,(wrap64 ((wrap64 ((wrap64 (shrI .u64 ((wrap64 (a1 + a3)) % 18446744073709551616) (1:Int))) + a2)) - (1:Int)))))))).bind fun r => bif (Nat.beq a0.length r.2.1.length && (true && (true && (true && true)))) then some r else none
abbrev cm_f53 (N : Nat) : CM := ⟨66,(.pr (.o 0 tItem) (.pr (.d 1 I) (.pr (.d 2 I) (.pr (.d 3 I) (.fn 4 50 .un))))),.un,fun a => x_f53 N a.1 a.2.1 a.2.2.1 a.2.2.2.1 a.2.2.2.2⟩
theorem c_f53 : ∀ N : Nat,CMok Try.prog (cm_f53 N)
 | 0 => fun x r h => by cases h
 | N + 1 => CM_okN hn_66 (Γ := [.c (ct_f1 N),.m (cm_f50 N),.m (cm_f53 N)]) (Θ := []) (Λ := ([⟨0,1,(.pr (.o 0 tItem) (.pr (.d 1 I) (.pr (.fn 4 50 .un) (.pr (.d 10 I) (.d 11 I))))),(.pr (.o 0 tItem) (.pr (.d 1 I) (.d 10 I))),fun {Ω} kx kr => iter (B_f53_L0 N kx kr) N⟩,⟨2,1,(.pr (.o 0 tItem) (.pr (.d 10 I) (.d 13 I))),(.o 0 tItem),fun {Ω} kx kr => iter (B_f53_L2 N kx kr) N⟩,⟨4,1,(.pr (.o 0 tItem) (.pr (.d 2 I) (.pr (.fn 4 50 .un) (.pr (.d 14 I) (.d 15 I))))),(.pr (.o 0 tItem) (.pr (.d 2 I) (.d 14 I))),fun {Ω} kx kr => iter (B_f53_L4 N kx kr) N⟩,⟨6,1,(.pr (.o 0 tItem) (.pr (.d 14 I) (.d 17 I))),(.o 0 tItem),fun {Ω} kx kr => iter (B_f53_L6 N kx kr) N⟩,⟨8,1,(.pr (.o 0 tItem) (.pr (.d 1 I) (.pr (.d 2 I) (.pr (.d 3 I) (.pr (.fn 4 50 .un) (.pr (.d 18 I) (.pr (.d 19 I) (.pr (.d 20 I) (.pr (.d 21 I) (.d 22 I)))))))))),(.pr (.o 0 tItem) (.pr (.d 1 I) (.pr (.d 2 I) (.pr (.d 3 I) (.pr (.fn 4 50 .un) (.pr (.d 18 I) (.pr (.d 19 I) (.d 20 I)))))))),fun {Ω} kx kr => iter (B_f53_L8 N kx kr) N⟩] : List (LC (DenR .un × DenW (.pr (.o 0 tItem) (.pr (.d 1 I) (.pr (.d 2 I) (.pr (.d 3 I) (.fn 4 50 .un))))))))) mixed ⟨c_f1 N,⟨c_f50 N,⟨c_f53 N,trivial⟩⟩⟩ (by kernel_rfl)
  ⟨LoopEq.mk N (fun Ω kx kr => B_f53_L0 N kx kr) (fun Ω g kx kr s => by kernel_rfl),⟨LoopEq.mk N (fun Ω kx kr => B_f53_L2 N kx kr) (fun Ω g kx kr s => by kernel_rfl),⟨LoopEq.mk N (fun Ω kx kr => B_f53_L4 N kx kr) (fun Ω g kx kr s => by kernel_rfl),⟨LoopEq.mk N (fun Ω kx kr => B_f53_L6 N kx kr) (fun Ω g kx kr s => by kernel_rfl),⟨LoopEq.mk N (fun Ω kx kr => B_f53_L8 N kx kr) (fun Ω g kx kr s => by kernel_rfl),trivial⟩⟩⟩⟩⟩ (by kernel_rfl) (fun a => by kernel_rfl)
def B_f51_L0 (N : Nat) {Ω : Type} (kx : DenS (.pr (.o 0 tItem) (.pr (.d 1 I) (.pr (.fn 2 50 .un) (.pr (.d 6 I) (.d 7 I))))) → Option Ω) (kr : (Unit × DenW (.pr (.o 0 tItem) (.pr (.d 1 I) (.fn 2 50 .un)))) → Option Ω) (rec_ : DenS (.pr (.o 0 tItem) (.pr (.d 1 I) (.pr (.fn 2 50 .un) (.pr (.d 6 I) (.pr (.d 7 I) (.d 8 I)))))) → Option Ω) : DenS (.pr (.o 0 tItem) (.pr (.d 1 I) (.pr (.fn 2 50 .un) (.pr (.d 6 I) (.pr (.d 7 I) (.d 8 I)))))) → Option Ω := fun (s0,s1,s2,s6,s7,s8) =>
 (bif (decide (s8 ≤ s1)) then (x_f49 N s0 s7 s8 ()).bind fun r1 => rec_ (r1.2.1,s1,(),s6,s8,(wrap64 (s8 + s6))) else kx (s0,s1,(),s6,s7))
def B_f51_L4 (N : Nat) {Ω : Type} (kx : DenS (.pr (.o 0 tItem) (.pr (.d 1 I) (.pr (.fn 2 50 .un) (.pr (.d 6 I) (.d 7 I))))) → Option Ω) (kr : (Unit × DenW (.pr (.o 0 tItem) (.pr (.d 1 I) (.fn 2 50 .un)))) → Option Ω) (rec_ : DenS (.pr (.o 0 tItem) (.pr (.d 1 I) (.pr (.fn 2 50 .un) (.pr (.d 6 I) (.pr (.d 7 I) (.d 8 I)))))) → Option Ω) : DenS (.pr (.o 0 tItem) (.pr (.d 1 I) (.pr (.fn 2 50 .un) (.pr (.d 6 I) (.pr (.d 7 I) (.d 8 I)))))) → Option Ω := fun (s0,s1,s2,s6,s7,s8) =>
 (bif (decide (s8 ≤ s1)) then (x_f53 N s0 s7 (wrap64 (s7 + s6)) s8 ()).bind fun r8 => rec_ (r8.2.1,s1,(),s6,s8,(wrap64 (s8 + (wrap64 ((2:Int) * s6))))) else kx (s0,s1,(),s6,s7))
def B_f51_L2 (N : Nat) {Ω : Type} (kx : DenS (.o 0 tItem) → Option Ω) (kr : (Unit × DenW (.pr (.o 0 tItem) (.pr (.d 1 I) (.fn 2 50 .un)))) → Option Ω) (rec_ : DenS (.pr (.o 0 tItem) (.pr (.d 1 I) (.pr (.fn 2 50 .un) (.d 6 I)))) → Option Ω) : DenS (.pr (.o 0 tItem) (.pr (.d 1 I) (.pr (.fn 2 50 .un) (.d 6 I)))) → Option Ω := fun (s0,s1,s2,s6) =>
 (bif (decide (s6 < s1)) then iter (B_f51_L4 N (fun (x9,x10,x11,x12,x13) => (bif (decide ((wrap64 (x13 + x12)) < x10)) then (x_f53 N x9 x13 (wrap64 (x13 + x12)) x10 ()).bind fun r14 => rec_ (r14.2.1,x10,(),(wrap64 (x12 * (2:Int)))) else rec_ (x9,x10,(),(wrap64 (x12 * (2:Int)))))) (fun ρ15 => kr (ρ15))) N (s0,s1,(),s6,(0:Int),(wrap64 ((2:Int) * s6))) else kx s0)
def x_f51 (N : Nat) (a0 : (List (Den tItem))) (a1 : Int) (a2 : (DenP .un)) : Option (Unit × DenW (.pr (.o 0 tItem) (.pr (.d 1 I) (.fn 2 50 .un)))) :=
 (iter (B_f51_L0 N (fun (x2,x3,x4,x5,x6) => (x_f49 N x2 x6 x3 ()).bind fun r7 => iter (B_f51_L2 N (fun x16 => some ((),x16,(),())) (fun ρ17 => some (ρ17))) N (r7.2.1,x3,(),x5)) (fun ρ18 => some (ρ18))) N (a0,a1,(),(20:Int),(0:Int),(20:Int))).bind fun r => bif (Nat.beq a0.length r.2.1.length && (true && true)) then some r else none
abbrev cm_f51 (N : Nat) : CM := ⟨60,(.pr (.o 0 tItem) (.pr (.d 1 I) (.fn 2 50 .un))),.un,fun a => x_f51 N a.1 a.2.1 a.2.2⟩
theorem c_f51 (N : Nat) : CMok Try.prog (cm_f51 N) :=
 CM_ok (Γ := [.m (cm_f49 N),.m (cm_f53 N)]) (Θ := []) (Λ := ([⟨0,1,(.pr (.o 0 tItem) (.pr (.d 1 I) (.pr (.fn 2 50 .un) (.pr (.d 6 I) (.pr (.d 7 I) (.d 8 I)))))),(.pr (.o 0 tItem) (.pr (.d 1 I) (.pr (.fn 2 50 .un) (.pr (.d 6 I) (.d 7 I))))),fun {Ω} kx kr => iter (B_f51_L0 N kx kr) N⟩,⟨2,1,(.pr (.o 0 tItem) (.pr (.d 1 I) (.pr (.fn 2 50 .un) (.d 6 I)))),(.o 0 tItem),fun {Ω} kx kr => iter (B_f51_L2 N kx kr) N⟩,⟨4,1,(.pr (.o 0 tItem) (.pr (.d 1 I) (.pr (.fn 2 50 .un) (.pr (.d 6 I) (.pr (.d 7 I) (.d 8 I)))))),(.pr (.o 0 tItem) (.pr (.d 1 I) (.pr (.fn 2 50 .un) (.pr (.d 6 I) (.d 7 I))))),fun {Ω} kx kr => iter (B_f51_L4 N kx kr) N⟩] : List (LC (DenR .un × DenW (.pr (.o 0 tItem) (.pr (.d 1 I) (.fn 2 50 .un))))))) (by kernel_rfl) mixed ⟨c_f49 N,⟨c_f53 N,trivial⟩⟩ (by kernel_rfl)
  ⟨LoopEq.mk N (fun Ω kx kr => B_f51_L0 N kx kr) (fun Ω g kx kr s => by kernel_rfl),⟨LoopEq.mk N (fun Ω kx kr => B_f51_L2 N kx kr) (fun Ω g kx kr s => by kernel_rfl),⟨LoopEq.mk N (fun Ω kx kr => B_f51_L4 N kx kr) (fun Ω g kx kr s => by kernel_rfl),trivial⟩⟩⟩ (by kernel_rfl) (fun a => by kernel_rfl)
def x_f48 (N : Nat) (a0 : (List (Den tItem))) (a1 : (DenP .un)) : Option (Unit × DenW (.pr (.o 0 tItem) (.fn 1 50 .un))) :=
 ((x_f51 N a0 (a0.length : Int) ()).bind fun r1 => some ((),r1.2.1,())).bind fun r => bif (Nat.beq a0.length r.2.1.length && true) then some r else none
abbrev cm_f48 (N : Nat) : CM := ⟨49,(.pr (.o 0 tItem) (.fn 1 50 .un)),.un,fun a => x_f48 N a.1 a.2⟩
theorem c_f48 (N : Nat) : CMok Try.prog (cm_f48 N) :=
 CM_ok (Γ := [.m (cm_f51 N)]) (Θ := []) (Λ := ([] : List (LC (DenR .un × DenW (.pr (.o 0 tItem) (.fn 1 50 .un)))))) (by kernel_rfl) mixed ⟨c_f51 N,trivial⟩ (by kernel_rfl)
  trivial (by kernel_rfl) (fun a => by kernel_rfl)
def B_f0_L0 (N : Nat) {Ω : Type} (kx : DenS (.o 6 tItem) → Option Ω) (kr : (List (Den tItem)) → Option Ω) (rec_ : DenS (.pr (.o 6 tItem) (.pr (.o 17 tItem) (.pr (.d 18 I) (.d 19 I)))) → Option Ω) : DenS (.pr (.o 6 tItem) (.pr (.o 17 tItem) (.pr (.d 18 I) (.d 19 I)))) → Option Ω := fun (s6,s17,s18,s19) =>
 (bif (decide (s19 < s18)) then (bif (decide (0 ≤ s19) && decide (s19 < s17.length)) then (bif (decide ((0:Int) < (s6.length : Int))) then (bif (decide (0 ≤ (wrap64 ((s6.length : Int) - (1:Int)))) && decide ((wrap64 ((s6.length : Int) - (1:Int))) < s6.length)) then (bif (decide (((s6.getD ((wrap64 ((s6.length : Int) - (1:Int))).toNat) (dft tItem)).1) = ((s17.getD s19.toNat (dft tItem)).1))) then (bif (decide (0 ≤ (wrap64 ((s6.length : Int) - (1:Int)))) && decide ((wrap64 ((s6.length : Int) - (1:Int))) < s6.length)) then (bif (s6.getD ((wrap64 ((s6.length : Int) - (1:Int))).toNat) (dft tItem)).2 then (bif (decide (0 ≤ (wrap64 ((s6.length : Int) - (1:Int)))) && decide ((wrap64 ((s6.length : Int) - (1:Int))) < s6.length)) then rec_ ((s6.set ((wrap64 ((s6.length : Int) - (1:Int))).toNat) ((s6.getD ((wrap64 ((s6.length : Int) - (1:Int))).toNat) (dft tItem)).1,true)),s17,s18,(wrap64 (s19 + (1:Int)))) else none) else (bif (decide (0 ≤ (wrap64 ((s6.length : Int) - (1:Int)))) && decide ((wrap64 ((s6.length : Int) - (1:Int))) < s6.length)) then (let l3 : List (Den tItem) := (s6.set ((wrap64 ((s6.length : Int) - (1:Int))).toNat) ((s6.getD ((wrap64 ((s6.length : Int) - (1:Int))).toNat) (dft tItem)).1,(s17.getD s19.toNat (dft tItem)).2)); rec_ (l3,s17,s18,(wrap64 (s19 + (1:Int))))) else none)) else none) else (bif (decide ((s6.length + [((s17.getD s19.toNat (dft tItem)).1,(s17.getD s19.toNat (dft tItem)).2)].length) * 24 ≤ 140737488355328)) then rec_ ((s6 ++ [((s17.getD s19.toNat (dft tItem)).1,(s17.getD s19.toNat (dft tItem)).2)]),s17,s18,(wrap64 (s19 + (1:Int)))) else none)) else none) else (bif (decide ((s6.length + [((s17.getD s19.toNat (dft tItem)).1,(s17.getD s19.toNat (dft tItem)).2)].length) * 24 ≤ 140737488355328)) then rec_ ((s6 ++ [((s17.getD s19.toNat (dft tItem)).1,(s17.getD s19.toNat (dft tItem)).2)]),s17,s18,(wrap64 (s19 + (1:Int)))) else none)) else none) else kx s6)
def x_f0 (N : Nat) (a0 : (List (Den tItem))) (a1 : (List (Den tItem))) : Option (List (Den tItem)) :=
 (x_f40 N a0).bind fun r1 => (bif (decide ((r1.length + a1.length) * 24 ≤ 140737488355328)) then (x_f48 N (r1 ++ a1) ()).bind fun r2 => iter (B_f0_L0 N (fun x4 => some x4) (fun ρ5 => some (ρ5))) N ([],r2.2.1,(r2.2.1.length : Int),(0:Int)) else none)
abbrev ct_f0 (N : Nat) : CT := ⟨28,(.pr (.d (.sl tItem)) (.d (.sl tItem))),(.t (.sl tItem)),fun a => x_f0 N a.1 a.2⟩
theorem c_f0 (N : Nat) : CTok Try.prog (ct_f0 N) :=
 CT_ok (Γ := [.c (ct_f40 N),.m (cm_f48 N)]) (Θ := [(16,tItem),(55,tItem)]) (Λ := ([⟨0,0,(.pr (.o 6 tItem) (.pr (.o 17 tItem) (.pr (.d 18 I) (.d 19 I)))),(.o 6 tItem),fun {Ω} kx kr => iter (B_f0_L0 N kx kr) N⟩] : List (LC (DenR (.t (.sl tItem)))))) (by kernel_rfl) mixed ⟨c_f40 N,⟨c_f48 N,trivial⟩⟩ (by kernel_rfl)
  ⟨LoopEq.mk N (fun Ω kx kr => B_f0_L0 N kx kr) (fun Ω g kx kr s => by kernel_rfl),trivial⟩ (by kernel_rfl) (fun a => by kernel_rfl)
def x_f7 (N : Nat) (a0 : Int) (a1 : Int) (a2 : Int) : Option Bool :=
 (bif (decide (a1 ≤ a0)) then some (decide (a0 ≤ a2)) else some false)
abbrev ct_f7 (N : Nat) : CT := ⟨62,(.pr (.d I) (.pr (.d I) (.d I))),(.t .bl),fun a => x_f7 N a.1 a.2.1 a.2.2⟩
theorem c_f7 (N : Nat) : CTok Try.prog (ct_f7 N) :=
 CT_ok (Γ := []) (Θ := []) (Λ := ([] : List (LC (DenR (.t .bl))))) (by kernel_rfl) mixed trivial (by kernel_rfl)
  trivial (by kernel_rfl) (fun a => by kernel_rfl)
def x_f8 (N : Nat) (a0 : Int) : Option Bool :=
 (x_f7 N a0 (0:Int) (255:Int)).bind fun r1 => some r1
abbrev ct_f8 (N : Nat) : CT := ⟨52,(.d I),(.t .bl),fun a => x_f8 N a⟩
theorem c_f8 (N : Nat) : CTok Try.prog (ct_f8 N) :=
 CT_ok (Γ := [.c (ct_f7 N)]) (Θ := []) (Λ := ([] : List (LC (DenR (.t .bl))))) (by kernel_rfl) mixed ⟨c_f7 N,trivial⟩ (by kernel_rfl)
  trivial (by kernel_rfl) (fun a => by kernel_rfl)
def x_f3 (N : Nat) (a0 : Int) (a1 : (Den tPeer)) : Option Bool :=
 (x_f8 N a0).bind fun r1 => (bif (!r1) then some true else some (decide (a0 = a1.1)))
abbrev ct_f3 (N : Nat) : CT := ⟨54,(.pr (.d I) (.ip tPeer)),(.t .bl),fun a => x_f3 N a.1 a.2⟩
theorem c_f3 (N : Nat) : CTok Try.prog (ct_f3 N) :=
 CT_ok (Γ := [.c (ct_f8 N)]) (Θ := []) (Λ := ([] : List (LC (DenR (.t .bl))))) (by kernel_rfl) mixed ⟨c_f8 N,trivial⟩ (by kernel_rfl)
  trivial (by kernel_rfl) (fun a => by kernel_rfl)
def B_f45_L0 (N : Nat) {Ω : Type} (kx : DenS .un → Option Ω) (kr : Int → Option Ω) (rec_ : DenS (.pr (.d 0 (.sl I)) (.pr (.fn 1 54 (.ip tPeer)) (.pr (.d 7 I) (.d 8 I)))) → Option Ω) : DenS (.pr (.d 0 (.sl I)) (.pr (.fn 1 54 (.ip tPeer)) (.pr (.d 7 I) (.d 8 I)))) → Option Ω := fun (s0,s1,s7,s8) =>
 (bif (decide (s8 < s7)) then (bif (decide (0 ≤ s8) && decide (s8 < s0.length)) then (x_f3 N (s0.getD s8.toNat (0:Int)) s1).bind fun r1 => (bif r1 then kr s8 else rec_ (s0,s1,s7,(wrap64 (s8 + (1:Int))))) else none) else kx ())
def x_f45 (N : Nat) (a0 : (List Int)) (a1 : (Den tPeer)) : Option Int :=
 iter (B_f45_L0 N (fun _ => some (-1:Int)) (fun ρ2 => some (ρ2))) N (a0,a1,(a0.length : Int),(0:Int))
abbrev ct_f45 (N : Nat) : CT := ⟨63,(.pr (.d (.sl I)) (.fn 54 (.ip tPeer))),(.t I),fun a => x_f45 N a.1 a.2⟩
theorem c_f45 (N : Nat) : CTok Try.prog (ct_f45 N) :=
 CT_ok (Γ := [.c (ct_f3 N)]) (Θ := []) (Λ := ([⟨0,0,(.pr (.d 0 (.sl I)) (.pr (.fn 1 54 (.ip tPeer)) (.pr (.d 7 I) (.d 8 I)))),.un,fun {Ω} kx kr => iter (B_f45_L0 N kx kr) N⟩] : List (LC (DenR (.t I))))) (by kernel_rfl) mixed ⟨c_f3 N,trivial⟩ (by kernel_rfl)
  ⟨LoopEq.mk N (fun Ω kx kr => B_f45_L0 N kx kr) (fun Ω g kx kr s => by kernel_rfl),trivial⟩ (by kernel_rfl) (fun a => by kernel_rfl)
def x_f42 (N : Nat) (a0 : (List Int)) (a1 : (Den tPeer)) : Option Bool :=
 (x_f45 N a0 a1).bind fun r1 => some (decide ((0:Int) ≤ r1))
abbrev ct_f42 (N : Nat) : CT := ⟨53,(.pr (.d (.sl I)) (.fn 54 (.ip tPeer))),(.t .bl),fun a => x_f42 N a.1 a.2⟩
theorem c_f42 (N : Nat) : CTok Try.prog (ct_f42 N) :=
 CT_ok (Γ := [.c (ct_f45 N)]) (Θ := []) (Λ := ([] : List (LC (DenR (.t .bl))))) (by kernel_rfl) mixed ⟨c_f45 N,trivial⟩ (by kernel_rfl)
  trivial (by kernel_rfl) (fun a => by kernel_rfl)
def x_f4 (N : Nat) (a0 : Int) : Option Bool :=
 (bif (!decide (a0 = (-1:Int))) then (x_f8 N a0).bind fun r1 => some (!r1) else some false)
abbrev ct_f4 (N : Nat) : CT := ⟨55,(.d I),(.t .bl),fun a => x_f4 N a⟩
theorem c_f4 (N : Nat) : CTok Try.prog (ct_f4 N) :=
 CT_ok (Γ := [.c (ct_f8 N)]) (Θ := []) (Λ := ([] : List (LC (DenR (.t .bl))))) (by kernel_rfl) mixed ⟨c_f8 N,trivial⟩ (by kernel_rfl)
  trivial (by kernel_rfl) (fun a => by kernel_rfl)
def B_f46_L0 (N : Nat) {Ω : Type} (kx : DenS .un → Option Ω) (kr : Int → Option Ω) (rec_ : DenS (.pr (.d 0 (.sl I)) (.pr (.fn 1 55 .un) (.pr (.d 7 I) (.d 8 I)))) → Option Ω) : DenS (.pr (.d 0 (.sl I)) (.pr (.fn 1 55 .un) (.pr (.d 7 I) (.d 8 I)))) → Option Ω := fun (s0,s1,s7,s8) =>
 (bif (decide (s8 < s7)) then (bif (decide (0 ≤ s8) && decide (s8 < s0.length)) then (x_f4 N (s0.getD s8.toNat (0:Int))).bind fun r1 => (bif r1 then kr s8 else rec_ (s0,(),s7,(wrap64 (s8 + (1:Int))))) else none) else kx ())
def x_f46 (N : Nat) (a0 : (List Int)) : Option Int :=
 iter (B_f46_L0 N (fun _ => some (-1:Int)) (fun ρ2 => some (ρ2))) N (a0,(),(a0.length : Int),(0:Int))
abbrev ct_f46 (N : Nat) : CT := ⟨63,(.pr (.d (.sl I)) (.fn 55 .un)),(.t I),fun a => x_f46 N a.1⟩
theorem c_f46 (N : Nat) : CTok Try.prog (ct_f46 N) :=
 CT_ok (Γ := [.c (ct_f4 N)]) (Θ := []) (Λ := ([⟨0,0,(.pr (.d 0 (.sl I)) (.pr (.fn 1 55 .un) (.pr (.d 7 I) (.d 8 I)))),.un,fun {Ω} kx kr => iter (B_f46_L0 N kx kr) N⟩] : List (LC (DenR (.t I))))) (by kernel_rfl) mixed ⟨c_f4 N,trivial⟩ (by kernel_rfl)
  ⟨LoopEq.mk N (fun Ω kx kr => B_f46_L0 N kx kr) (fun Ω g kx kr s => by kernel_rfl),trivial⟩ (by kernel_rfl) (fun a => by kernel_rfl)
def x_f43 (N : Nat) (a0 : (List Int)) : Option Bool :=
 (x_f46 N a0).bind fun r1 => some (decide ((0:Int) ≤ r1))
abbrev ct_f43 (N : Nat) : CT := ⟨53,(.pr (.d (.sl I)) (.fn 55 .un)),(.t .bl),fun a => x_f43 N a.1⟩
theorem c_f43 (N : Nat) : CTok Try.prog (ct_f43 N) :=
 CT_ok (Γ := [.c (ct_f46 N)]) (Θ := []) (Λ := ([] : List (LC (DenR (.t .bl))))) (by kernel_rfl) mixed ⟨c_f46 N,trivial⟩ (by kernel_rfl)
  trivial (by kernel_rfl) (fun a => by kernel_rfl)
def nf_56 : NF := { body := (.seq (.reg true (.op ⟨some 2,none,(.mv (.const (.bool false)))⟩ .done)) (.seq (.seq (.reg true (.op ⟨some 7,none,(.mv (.tmp 0))⟩ (.op ⟨some 8,none,(.len (.tmp 7))⟩ (.op ⟨some 9,none,(.bin .gtr (.tmp 8) (.const (.int .i64 (80))))⟩ .done)))) (.cond (.tmp 9) (.seq (.reg true (.op ⟨some 2,none,(.mv (.const (.bool false)))⟩ .done)) .ret) .skip)) (.seq (.seq (.reg true (.op ⟨some 10,none,(.mv (.tmp 0))⟩ (.op ⟨some 11,none,(.len (.tmp 10))⟩ (.op ⟨some 12,none,(.mv (.const (.int .i64 (0))))⟩ .done)))) (.block 0 (.loop (.seq (.reg true (.op ⟨some 13,none,(.bin .lss (.tmp 12) (.tmp 11))⟩ .done)) (.seq (.cond (.tmp 13) .skip (.exit 0)) (.seq (.block 1 (.seq (.reg true (.op ⟨some 14,none,(.mv (.tmp 12))⟩ (.op ⟨some 15,none,(.iad 2 (.tmp 10) (.tmp 12))⟩ (.op ⟨some 16,none,(.ld 2 true (.tmp 15))⟩ (.op ⟨some 4,none,(.al [(.val (.int .i64 (0))),(.val (.slice none 0 0))])⟩ (.op ⟨some 3,none,(.mv (.tmp 14))⟩ (.op ⟨none,none,(.st 2 (.tmp 4) (.tmp 16))⟩ .done))))))) (.seq (.seq (.reg true (.op ⟨some 17,none,(.fad 0 (.tmp 4))⟩ (.op ⟨some 18,none,(.ld 1 false (.tmp 17))⟩ (.op ⟨some 19,none,(.call 52 [(.tmp 18)])⟩ (.op ⟨some 20,none,(.un .not (.tmp 19))⟩ (.op ⟨some 21,none,(.mv (.tmp 20))⟩ (.op ⟨some 22,some (21,false),(.mv (.tmp 3))⟩ (.op ⟨some 23,some (21,false),(.bin .gtr (.tmp 22) (.const (.int .i64 (0))))⟩ (.op ⟨some 24,some (21,false),(.mv (.tmp 23))⟩ (.op ⟨some 25,some (24,true),(.mv (.tmp 0))⟩ (.op ⟨some 26,some (24,true),(.mv (.tmp 3))⟩ (.op ⟨some 27,some (24,true),(.bin .sub (.tmp 26) (.const (.int .i64 (1))))⟩ (.op ⟨some 28,some (24,true),(.iad 2 (.tmp 25) (.tmp 27))⟩ (.op ⟨some 29,some (24,true),(.fad 0 (.tmp 28))⟩ (.op ⟨some 30,some (24,true),(.ld 1 false (.tmp 29))⟩ (.op ⟨some 31,some (24,true),(.fad 0 (.tmp 4))⟩ (.op ⟨some 32,some (24,true),(.ld 1 false (.tmp 31))⟩ (.op ⟨some 33,some (24,true),(.bin .geq (.tmp 30) (.tmp 32))⟩ (.op ⟨some 34,some (21,false),(.pick (.tmp 24) (.tmp 33) (.const (.bool false)))⟩ (.op ⟨some 35,none,(.pick (.tmp 21) (.const (.bool true)) (.tmp 34))⟩ (.op ⟨some 36,none,(.mv (.tmp 35))⟩ (.op ⟨some 37,some (36,false),(.fad 1 (.tmp 4))⟩ (.op ⟨some 38,some (36,false),(.ld 1 false (.tmp 37))⟩ (.op ⟨some 39,some (36,false),(.len (.tmp 38))⟩ (.op ⟨some 40,some (36,false),(.bin .gtr (.tmp 39) (.const (.int .i64 (300))))⟩ (.op ⟨some 41,none,(.pick (.tmp 36) (.const (.bool true)) (.tmp 40))⟩ .done)))))))))))))))))))))))))) (.cond (.tmp 41) (.seq (.reg true (.op ⟨some 2,none,(.mv (.const (.bool false)))⟩ .done)) .ret) .skip)) (.seq (.reg true (.op ⟨some 42,none,(.fad 1 (.tmp 4))⟩ (.op ⟨some 43,none,(.ld 1 false (.tmp 42))⟩ (.op ⟨some 44,none,(.len (.tmp 43))⟩ (.op ⟨some 45,none,(.mv (.const (.int .i64 (0))))⟩ .done))))) (.block 2 (.loop (.seq (.reg true (.op ⟨some 46,none,(.bin .lss (.tmp 45) (.tmp 44))⟩ .done)) (.seq (.cond (.tmp 46) .skip (.exit 2)) (.seq (.block 3 (.seq (.reg true (.op ⟨some 47,none,(.mv (.tmp 45))⟩ (.op ⟨some 48,none,(.iad 2 (.tmp 43) (.tmp 45))⟩ (.op ⟨some 49,none,(.ld 2 true (.tmp 48))⟩ (.op ⟨some 6,none,(.al [(.val (.string ⟨#[]⟩)),(.val (.bool false))])⟩ (.op ⟨some 5,none,(.mv (.tmp 47))⟩ (.op ⟨none,none,(.st 2 (.tmp 6) (.tmp 49))⟩ .done))))))) (.seq (.reg true (.op ⟨some 50,none,(.fad 0 (.tmp 6))⟩ (.op ⟨some 51,none,(.ld 1 false (.tmp 50))⟩ (.op ⟨some 52,none,(.lns (.tmp 51))⟩ (.op ⟨some 53,none,(.bin .gtr (.tmp 52) (.const (.int .i64 (600))))⟩ (.op ⟨some 54,none,(.mv (.tmp 53))⟩ (.op ⟨some 55,some (54,false),(.mv (.tmp 5))⟩ (.op ⟨some 56,some (54,false),(.bin .gtr (.tmp 55) (.const (.int .i64 (0))))⟩ (.op ⟨some 57,some (54,false),(.mv (.tmp 56))⟩ (.op ⟨some 58,some (57,true),(.fad 1 (.tmp 4))⟩ (.op ⟨some 59,some (57,true),(.ld 1 false (.tmp 58))⟩ (.op ⟨some 60,some (57,true),(.mv (.tmp 5))⟩ (.op ⟨some 61,some (57,true),(.bin .sub (.tmp 60) (.const (.int .i64 (1))))⟩ (.op ⟨some 62,some (57,true),(.iad 2 (.tmp 59) (.tmp 61))⟩ (.op ⟨some 63,some (57,true),(.fad 0 (.tmp 62))⟩ (.op ⟨some 64,some (57,true),(.ld 1 false (.tmp 63))⟩ (.op ⟨some 65,some (57,true),(.fad 0 (.tmp 6))⟩ (.op ⟨some 66,some (57,true),(.ld 1 false (.tmp 65))⟩ (.op ⟨some 67,some (57,true),(.bin .geq (.tmp 64) (.tmp 66))⟩ (.op ⟨some 68,some (54,false),(.pick (.tmp 57) (.tmp 67) (.const (.bool false)))⟩ (.op ⟨some 69,none,(.pick (.tmp 54) (.const (.bool true)) (.tmp 68))⟩ .done))))))))))))))))))))) (.cond (.tmp 69) (.seq (.reg true (.op ⟨some 2,none,(.mv (.const (.bool false)))⟩ .done)) .ret) .skip)))) (.reg true (.op ⟨some 70,none,(.bin .add (.tmp 45) (.const (.int .i64 (1))))⟩ (.op ⟨some 45,none,(.mv (.tmp 70))⟩ .done)))))))))))) (.reg true (.op ⟨some 71,none,(.bin .add (.tmp 12) (.const (.int .i64 (1))))⟩ (.op ⟨some 12,none,(.mv (.tmp 71))⟩ .done))))))))) (.seq (.reg true (.op ⟨some 2,none,(.mv (.const (.bool true)))⟩ .done)) .ret)))),res := [(.t 2)],n := 72 }
theorem hn_56 : nFn Try.prog 56 = some nf_56 := by kernel_rfl
def B_f11_L2 (N : Nat) {Ω : Type} (kx : DenS (.pr (.d 0 (.sl tShelf)) (.pr (.d 10 (.sl tShelf)) (.pr (.d 11 I) (.d 12 I)))) → Option Ω) (kr : Bool → Option Ω) (rec_ : DenS (.pr (.d 0 (.sl tShelf)) (.pr (.bv 4 tShelf) (.pr (.d 10 (.sl tShelf)) (.pr (.d 11 I) (.pr (.d 12 I) (.pr (.d 43 (.sl tItem)) (.pr (.d 44 I) (.d 45 I)))))))) → Option Ω) : DenS (.pr (.d 0 (.sl tShelf)) (.pr (.bv 4 tShelf) (.pr (.d 10 (.sl tShelf)) (.pr (.d 11 I) (.pr (.d 12 I) (.pr (.d 43 (.sl tItem)) (.pr (.d 44 I) (.d 45 I)))))))) → Option Ω := fun (s0,s4,s10,s11,s12,s43,s44,s45) =>
 (bif (decide (s45 < s44)) then (bif (decide (0 ≤ s45) && decide (s45 < s43.length)) then (bif (decide ((600:Int) < (((s43.getD s45.toNat (dft tItem)).1).size : Int))) then kr false else (bif (decide ((0:Int) < s45)) then (bif (decide (0 ≤ (wrap64 (s45 - (1:Int)))) && decide ((wrap64 (s45 - (1:Int))) < s4.2.length)) then (bif (!(Op.bytesLess ((s4.2.getD (wrap64 (s45 - (1:Int))).toNat (dft tItem)).1).toList ((s43.getD s45.toNat (dft tItem)).1).toList)) then kr false else rec_ (s0,s4,s10,s11,s12,s43,s44,(wrap64 (s45 + (1:Int))))) else none) else rec_ (s0,s4,s10,s11,s12,s43,s44,(wrap64 (s45 + (1:Int)))))) else none) else kx (s0,s10,s11,s12))
def B_f11_L0 (N : Nat) {Ω : Type} (kx : DenS .un → Option Ω) (kr : Bool → Option Ω) (rec_ : DenS (.pr (.d 0 (.sl tShelf)) (.pr (.d 10 (.sl tShelf)) (.pr (.d 11 I) (.d 12 I)))) → Option Ω) : DenS (.pr (.d 0 (.sl tShelf)) (.pr (.d 10 (.sl tShelf)) (.pr (.d 11 I) (.d 12 I)))) → Option Ω := fun (s0,s10,s11,s12) =>
 (bif (decide (s12 < s11)) then (bif (decide (0 ≤ s12) && decide (s12 < s10.length)) then (x_f8 N ((s10.getD s12.toNat (dft tShelf)).1)).bind fun r1 => (bif (!r1) then kr false else (bif (decide ((0:Int) < s12)) then (bif (decide (0 ≤ (wrap64 (s12 - (1:Int)))) && decide ((wrap64 (s12 - (1:Int))) < s0.length)) then (bif (decide (((s10.getD s12.toNat (dft tShelf)).1) ≤ ((s0.getD (wrap64 (s12 - (1:Int))).toNat (dft tShelf)).1))) then kr false else (bif (decide ((300:Int) < (((s10.getD s12.toNat (dft tShelf)).2).length : Int))) then kr false else iter (B_f11_L2 N (fun (x2,x3,x4,x5) => rec_ (x2,x3,x4,(wrap64 (x5 + (1:Int))))) (fun ρ6 => kr (ρ6))) N (s0,((s10.getD s12.toNat (dft tShelf)).1,(s10.getD s12.toNat (dft tShelf)).2),s10,s11,s12,(s10.getD s12.toNat (dft tShelf)).2,(((s10.getD s12.toNat (dft tShelf)).2).length : Int),(0:Int)))) else none) else (bif (decide ((300:Int) < (((s10.getD s12.toNat (dft tShelf)).2).length : Int))) then kr false else iter (B_f11_L2 N (fun (x7,x8,x9,x10) => rec_ (x7,x8,x9,(wrap64 (x10 + (1:Int))))) (fun ρ11 => kr (ρ11))) N (s0,((s10.getD s12.toNat (dft tShelf)).1,(s10.getD s12.toNat (dft tShelf)).2),s10,s11,s12,(s10.getD s12.toNat (dft tShelf)).2,(((s10.getD s12.toNat (dft tShelf)).2).length : Int),(0:Int))))) else none) else kx ())
def x_f11 (N : Nat) (a0 : (List (Den tShelf))) : Option Bool :=
 (bif (decide ((80:Int) < (a0.length : Int))) then some false else iter (B_f11_L0 N (fun _ => some true) (fun ρ12 => some (ρ12))) N (a0,a0,(a0.length : Int),(0:Int)))
abbrev ct_f11 (N : Nat) : CT := ⟨56,(.d (.sl tShelf)),(.t .bl),fun a => x_f11 N a⟩
theorem c_f11 (N : Nat) : CTok Try.prog (ct_f11 N) :=
 CT_okN hn_56 (Γ := [.c (ct_f8 N)]) (Θ := []) (Λ := ([⟨0,0,(.pr (.d 0 (.sl tShelf)) (.pr (.d 10 (.sl tShelf)) (.pr (.d 11 I) (.d 12 I)))),.un,fun {Ω} kx kr => iter (B_f11_L0 N kx kr) N⟩,⟨2,0,(.pr (.d 0 (.sl tShelf)) (.pr (.bv 4 tShelf) (.pr (.d 10 (.sl tShelf)) (.pr (.d 11 I) (.pr (.d 12 I) (.pr (.d 43 (.sl tItem)) (.pr (.d 44 I) (.d 45 I)))))))),(.pr (.d 0 (.sl tShelf)) (.pr (.d 10 (.sl tShelf)) (.pr (.d 11 I) (.d 12 I)))),fun {Ω} kx kr => iter (B_f11_L2 N kx kr) N⟩] : List (LC (DenR (.t .bl))))) mixed ⟨c_f8 N,trivial⟩ (by kernel_rfl)
  ⟨LoopEq.mk N (fun Ω kx kr => B_f11_L0 N kx kr) (fun Ω g kx kr s => by kernel_rfl),⟨LoopEq.mk N (fun Ω kx kr => B_f11_L2 N kx kr) (fun Ω g kx kr s => by kernel_rfl),trivial⟩⟩ (by kernel_rfl) (fun a => by kernel_rfl)
def nf_29 : NF := { body := (.seq (.reg true (.op ⟨some 1,none,(.bx 6 (.tmp 0))⟩ (.op ⟨some 2,none,(.mv (.const (.bool false)))⟩ .done))) (.seq (.seq (.reg true (.op ⟨some 3,none,(.fad 0 (.tmp 1))⟩ (.op ⟨some 4,none,(.ld 1 false (.tmp 3))⟩ (.op ⟨some 5,none,(.call 52 [(.tmp 4)])⟩ (.op ⟨some 6,none,(.un .not (.tmp 5))⟩ .done))))) (.cond (.tmp 6) (.seq (.reg true (.op ⟨some 2,none,(.mv (.const (.bool false)))⟩ .done)) .ret) .skip)) (.seq (.seq (.reg true (.op ⟨some 7,none,(.fad 1 (.tmp 1))⟩ (.op ⟨some 8,none,(.ld 1 false (.tmp 7))⟩ (.op ⟨some 9,none,(.un .not (.tmp 8))⟩ .done)))) (.cond (.tmp 9) (.seq (.reg true (.op ⟨some 10,none,(.fad 2 (.tmp 1))⟩ (.op ⟨some 11,none,(.ld 1 false (.tmp 10))⟩ (.op ⟨some 12,none,(.bin .eql (.tmp 11) (.const (.int .i64 (0))))⟩ (.op ⟨some 13,none,(.mv (.tmp 12))⟩ (.op ⟨some 14,some (13,true),(.fad 3 (.tmp 1))⟩ (.op ⟨some 15,some (13,true),(.ld 1 false (.tmp 14))⟩ (.op ⟨some 16,some (13,true),(.len (.tmp 15))⟩ (.op ⟨some 17,some (13,true),(.bin .eql (.tmp 16) (.const (.int .i64 (0))))⟩ (.op ⟨some 18,none,(.pick (.tmp 13) (.tmp 17) (.const (.bool false)))⟩ (.op ⟨some 19,none,(.mv (.tmp 18))⟩ (.op ⟨some 20,some (19,true),(.fad 4 (.tmp 1))⟩ (.op ⟨some 21,some (19,true),(.ld 1 false (.tmp 20))⟩ (.op ⟨some 22,some (19,true),(.len (.tmp 21))⟩ (.op ⟨some 23,some (19,true),(.bin .eql (.tmp 22) (.const (.int .i64 (0))))⟩ (.op ⟨some 24,none,(.pick (.tmp 19) (.tmp 23) (.const (.bool false)))⟩ (.op ⟨some 25,none,(.mv (.tmp 24))⟩ (.op ⟨some 26,some (25,true),(.fad 5 (.tmp 1))⟩ (.op ⟨some 27,some (25,true),(.ld 1 false (.tmp 26))⟩ (.op ⟨some 28,some (25,true),(.len (.tmp 27))⟩ (.op ⟨some 29,some (25,true),(.bin .eql (.tmp 28) (.const (.int .i64 (0))))⟩ (.op ⟨some 30,none,(.pick (.tmp 25) (.tmp 29) (.const (.bool false)))⟩ (.op ⟨some 2,none,(.mv (.tmp 30))⟩ .done))))))))))))))))))))))) .ret) .skip)) (.seq (.seq (.reg true (.op ⟨some 31,none,(.fad 2 (.tmp 1))⟩ (.op ⟨some 32,none,(.ld 1 false (.tmp 31))⟩ (.op ⟨some 33,none,(.bin .neq (.tmp 32) (.const (.int .i64 (-1))))⟩ (.op ⟨some 34,none,(.mv (.tmp 33))⟩ (.op ⟨some 35,some (34,true),(.fad 2 (.tmp 1))⟩ (.op ⟨some 36,some (34,true),(.ld 1 false (.tmp 35))⟩ (.op ⟨some 37,some (34,true),(.call 52 [(.tmp 36)])⟩ (.op ⟨some 38,some (34,true),(.un .not (.tmp 37))⟩ (.op ⟨some 39,none,(.pick (.tmp 34) (.tmp 38) (.const (.bool false)))⟩ (.op ⟨some 40,none,(.mv (.tmp 39))⟩ (.op ⟨some 41,some (40,false),(.fad 3 (.tmp 1))⟩ (.op ⟨some 42,some (40,false),(.ld 1 false (.tmp 41))⟩ (.op ⟨some 43,some (40,false),(.len (.tmp 42))⟩ (.op ⟨some 44,some (40,false),(.bin .gtr (.tmp 43) (.const (.int .i64 (3))))⟩ (.op ⟨some 45,none,(.pick (.tmp 40) (.const (.bool true)) (.tmp 44))⟩ (.op ⟨some 46,none,(.mv (.tmp 45))⟩ (.op ⟨some 47,some (46,false),(.fad 4 (.tmp 1))⟩ (.op ⟨some 48,some (46,false),(.ld 1 false (.tmp 47))⟩ (.op ⟨some 49,some (46,false),(.len (.tmp 48))⟩ (.op ⟨some 50,some (46,false),(.bin .neq (.tmp 49) (.const (.int .i64 (8))))⟩ (.op ⟨some 51,none,(.pick (.tmp 46) (.const (.bool true)) (.tmp 50))⟩ .done)))))))))))))))))))))) (.cond (.tmp 51) (.seq (.reg true (.op ⟨some 2,none,(.mv (.const (.bool false)))⟩ .done)) .ret) .skip)) (.seq (.seq (.reg true (.op ⟨some 52,none,(.fad 3 (.tmp 1))⟩ (.op ⟨some 53,none,(.ld 1 false (.tmp 52))⟩ (.op ⟨some 54,none,(.mkf 54 [(.tmp 1)])⟩ (.op ⟨some 55,none,(.call 53 [(.tmp 53),(.tmp 54)])⟩ .done))))) (.cond (.tmp 55) (.seq (.reg true (.op ⟨some 2,none,(.mv (.const (.bool false)))⟩ .done)) .ret) .skip)) (.seq (.reg true (.op ⟨some 56,none,(.fad 4 (.tmp 1))⟩ (.op ⟨some 57,none,(.ld 1 false (.tmp 56))⟩ (.op ⟨some 58,none,(.call 53 [(.tmp 57),(.func 55)])⟩ (.op ⟨some 59,none,(.un .not (.tmp 58))⟩ (.op ⟨some 60,none,(.mv (.tmp 59))⟩ (.op ⟨some 61,some (60,true),(.fad 5 (.tmp 1))⟩ (.op ⟨some 62,some (60,true),(.ld 1 false (.tmp 61))⟩ (.op ⟨some 63,some (60,true),(.call 56 [(.tmp 62)])⟩ (.op ⟨some 64,none,(.pick (.tmp 60) (.tmp 63) (.const (.bool false)))⟩ (.op ⟨some 2,none,(.mv (.tmp 64))⟩ .done))))))))))) .ret)))))),res := [(.t 2)],n := 65 }
theorem hn_29 : nFn Try.prog 29 = some nf_29 := by kernel_rfl
def x_f2 (N : Nat) (a0 : (Den tPeer)) : Option Bool :=
 (x_f8 N a0.1).bind fun r1 => (bif (!r1) then some false else (bif (!a0.2.1) then (bif (decide (a0.2.2.1 = (0:Int))) then (bif (decide ((a0.2.2.2.1.length : Int) = (0:Int))) then (bif (decide ((a0.2.2.2.2.1.length : Int) = (0:Int))) then some (decide ((a0.2.2.2.2.2.length : Int) = (0:Int))) else some false) else some false) else some false) else (bif (!decide (a0.2.2.1 = (-1:Int))) then (x_f8 N a0.2.2.1).bind fun r2 => (bif (!r2) then some false else (bif (decide ((3:Int) < (a0.2.2.2.1.length : Int))) then some false else (bif (!decide ((a0.2.2.2.2.1.length : Int) = (8:Int))) then some false else (x_f42 N a0.2.2.2.1 a0).bind fun r3 => (bif r3 then some false else (x_f43 N a0.2.2.2.2.1).bind fun r4 => (bif (!r4) then (x_f11 N a0.2.2.2.2.2).bind fun r5 => some r5 else some false))))) else (bif (decide ((3:Int) < (a0.2.2.2.1.length : Int))) then some false else (bif (!decide ((a0.2.2.2.2.1.length : Int) = (8:Int))) then some false else (x_f42 N a0.2.2.2.1 a0).bind fun r6 => (bif r6 then some false else (x_f43 N a0.2.2.2.2.1).bind fun r7 => (bif (!r7) then (x_f11 N a0.2.2.2.2.2).bind fun r8 => some r8 else some false)))))))
abbrev ct_f2 (N : Nat) : CT := ⟨29,(.d tPeer),(.t .bl),fun a => x_f2 N a⟩
theorem c_f2 (N : Nat) : CTok Try.prog (ct_f2 N) :=
 CT_okN hn_29 (Γ := [.c (ct_f8 N),.c (ct_f42 N),.c (ct_f43 N),.c (ct_f11 N)]) (Θ := []) (Λ := ([] : List (LC (DenR (.t .bl))))) mixed ⟨c_f8 N,⟨c_f42 N,⟨c_f43 N,⟨c_f11 N,trivial⟩⟩⟩⟩ (by kernel_rfl)
  trivial (by kernel_rfl) (fun a => by kernel_rfl)
def B_f5_L0 (N : Nat) {Ω : Type} (kx : DenS (.pr (.d 1 I) (.pr (.d 2 (.sl tItem)) (.pr (.ip 3 tPeer) (.pr (.bx 6 tPeer) (.pr (.bx 8 tPeer) (.d 9 I)))))) → Option Ω) (kr : ((Den tPeer) × Bool) → Option Ω) (rec_ : DenS (.pr (.d 1 I) (.pr (.d 2 (.sl tItem)) (.pr (.ip 3 tPeer) (.pr (.bx 6 tPeer) (.pr (.bx 8 tPeer) (.d 9 I)))))) → Option Ω) : DenS (.pr (.d 1 I) (.pr (.d 2 (.sl tItem)) (.pr (.ip 3 tPeer) (.pr (.bx 6 tPeer) (.pr (.bx 8 tPeer) (.d 9 I)))))) → Option Ω := fun (s1,s2,s3,s6,s8,s9) =>
 (bif (decide (s9 < (s8.2.2.2.2.2.length : Int))) then (bif (decide (0 ≤ s9) && decide (s9 < s8.2.2.2.2.2.length)) then (bif (decide (((s8.2.2.2.2.2.getD s9.toNat (dft tShelf)).1) < s1)) then rec_ (s1,s2,s3,s6,s8,(wrap64 (s9 + (1:Int)))) else kx (s1,s2,s3,s6,s8,s9)) else none) else kx (s1,s2,s3,s6,s8,s9))
def x_f5 (N : Nat) (a0 : (Den tPeer)) (a1 : Int) (a2 : (List (Den tItem))) : Option ((Den tPeer) × Bool) :=
 (x_f6 N a0).bind fun r1 => (x_f9 N a0 a1).bind fun r2 => (bif (decide (r2 < (0:Int))) then iter (B_f5_L0 N (fun (x3,x4,x5,x6,x7,x8) => (x_f47 N x7.2.2.2.2.2 x8 ([(x3,[])])).bind fun r9 => (bif (decide (0 ≤ x8) && decide (x8 < r9.1.length)) then (bif (Nat.beq x8.toNat x8.toNat) then (x_f0 N ((r9.1.getD x8.toNat (dft tShelf)).2) x4).bind fun r10 => (bif (decide (0 ≤ x8) && decide (x8 < (r9.1.set x8.toNat ((r9.1.getD x8.toNat (dft tShelf)).1,(r9.1.getD x8.toNat (dft tShelf)).2)).length)) then (let l11 : List (Den tShelf) := ((r9.1.set x8.toNat ((r9.1.getD x8.toNat (dft tShelf)).1,(r9.1.getD x8.toNat (dft tShelf)).2)).set x8.toNat (((r9.1.set x8.toNat ((r9.1.getD x8.toNat (dft tShelf)).1,(r9.1.getD x8.toNat (dft tShelf)).2)).getD x8.toNat (dft tShelf)).1,r10)); (x_f2 N (x7.1,x7.2.1,x7.2.2.1,x7.2.2.2.1,x7.2.2.2.2.1,l11)).bind fun r12 => (bif (!r12) then (x_f6 N x5).bind fun r13 => some (r13,false) else some ((x7.1,x7.2.1,x7.2.2.1,x7.2.2.2.1,x7.2.2.2.2.1,l11),true))) else none) else none) else none)) (fun ρ14 => some (ρ14))) N (a1,a2,a0,((0:Int),false,(0:Int),[],[],[]),r1,(0:Int)) else (bif (decide (0 ≤ r2) && decide (r2 < r1.2.2.2.2.2.length)) then (bif (Nat.beq r2.toNat r2.toNat) then (x_f0 N ((r1.2.2.2.2.2.getD r2.toNat (dft tShelf)).2) a2).bind fun r15 => (bif (decide (0 ≤ r2) && decide (r2 < (r1.2.2.2.2.2.set r2.toNat ((r1.2.2.2.2.2.getD r2.toNat (dft tShelf)).1,(r1.2.2.2.2.2.getD r2.toNat (dft tShelf)).2)).length)) then (let l16 : List (Den tShelf) := ((r1.2.2.2.2.2.set r2.toNat ((r1.2.2.2.2.2.getD r2.toNat (dft tShelf)).1,(r1.2.2.2.2.2.getD r2.toNat (dft tShelf)).2)).set r2.toNat (((r1.2.2.2.2.2.set r2.toNat ((r1.2.2.2.2.2.getD r2.toNat (dft tShelf)).1,(r1.2.2.2.2.2.getD r2.toNat (dft tShelf)).2)).getD r2.toNat (dft tShelf)).1,r15)); (x_f2 N (r1.1,r1.2.1,r1.2.2.1,r1.2.2.2.1,r1.2.2.2.2.1,l16)).bind fun r17 => (bif (!r17) then (x_f6 N a0).bind fun r18 => some (r18,false) else some ((r1.1,r1.2.1,r1.2.2.1,r1.2.2.2.1,r1.2.2.2.2.1,l16),true))) else none) else none) else none))
abbrev ct_f5 (N : Nat) : CT := ⟨9,(.pr (.d tPeer) (.pr (.d I) (.d (.sl tItem)))),(.pr (.t tPeer) (.t .bl)),fun a => x_f5 N a.1 a.2.1 a.2.2⟩
theorem c_f5 (N : Nat) : CTok Try.prog (ct_f5 N) :=
 CT_ok (Γ := [.c (ct_f6 N),.c (ct_f9 N),.m (cm_f47 N),.c (ct_f0 N),.c (ct_f2 N)]) (Θ := [(39,tShelf)]) (Λ := ([⟨0,0,(.pr (.d 1 I) (.pr (.d 2 (.sl tItem)) (.pr (.ip 3 tPeer) (.pr (.bx 6 tPeer) (.pr (.bx 8 tPeer) (.d 9 I)))))),(.pr (.d 1 I) (.pr (.d 2 (.sl tItem)) (.pr (.ip 3 tPeer) (.pr (.bx 6 tPeer) (.pr (.bx 8 tPeer) (.d 9 I)))))),fun {Ω} kx kr => iter (B_f5_L0 N kx kr) N⟩] : List (LC (DenR (.pr (.t tPeer) (.t .bl)))))) (by kernel_rfl) mixed ⟨c_f6 N,⟨c_f9 N,⟨c_f47 N,⟨c_f0 N,⟨c_f2 N,trivial⟩⟩⟩⟩⟩ (by kernel_rfl)
  ⟨LoopEq.mk N (fun Ω kx kr => B_f5_L0 N kx kr) (fun Ω g kx kr s => by kernel_rfl),trivial⟩ (by kernel_rfl) (fun a => by kernel_rfl)
def B_f13_L0 (N : Nat) {Ω : Type} (kx : DenS .un → Option Ω) (kr : Bool → Option Ω) (rec_ : DenS (.pr (.d 0 (.sl I)) (.pr (.d 1 (.sl I)) (.d 5 I))) → Option Ω) : DenS (.pr (.d 0 (.sl I)) (.pr (.d 1 (.sl I)) (.d 5 I))) → Option Ω := fun (s0,s1,s5) =>
 (bif (decide (s5 < (s0.length : Int))) then (bif (decide (0 ≤ s5) && decide (s5 < s0.length)) then (bif (decide (0 ≤ s5) && decide (s5 < s1.length)) then (bif (!decide ((s0.getD s5.toNat (0:Int)) = (s1.getD s5.toNat (0:Int)))) then kr false else rec_ (s0,s1,(wrap64 (s5 + (1:Int))))) else none) else none) else kx ())
def x_f13 (N : Nat) (a0 : (List Int)) (a1 : (List Int)) : Option Bool :=
 (bif (!decide ((a0.length : Int) = (a1.length : Int))) then some false else iter (B_f13_L0 N (fun _ => some true) (fun ρ1 => some (ρ1))) N (a0,a1,(0:Int)))
abbrev ct_f13 (N : Nat) : CT := ⟨30,(.pr (.d (.sl I)) (.d (.sl I))),(.t .bl),fun a => x_f13 N a.1 a.2⟩
theorem c_f13 (N : Nat) : CTok Try.prog (ct_f13 N) :=
 CT_ok (Γ := []) (Θ := []) (Λ := ([⟨0,0,(.pr (.d 0 (.sl I)) (.pr (.d 1 (.sl I)) (.d 5 I))),.un,fun {Ω} kx kr => iter (B_f13_L0 N kx kr) N⟩] : List (LC (DenR (.t .bl))))) (by kernel_rfl) mixed trivial (by kernel_rfl)
  ⟨LoopEq.mk N (fun Ω kx kr => B_f13_L0 N kx kr) (fun Ω g kx kr s => by kernel_rfl),trivial⟩ (by kernel_rfl) (fun a => by kernel_rfl)
def x_f14 (N : Nat) (a0 : (Den tItem)) (a1 : (Den tItem)) : Option Bool :=
 (bif (!decide (a0.1 = a1.1)) then some false else (bif (!(a0.2 == a1.2)) then some false else some true))
abbrev ct_f14 (N : Nat) : CT := ⟨32,(.pr (.d tItem) (.d tItem)),(.t .bl),fun a => x_f14 N a.1 a.2⟩
theorem c_f14 (N : Nat) : CTok Try.prog (ct_f14 N) :=
 CT_ok (Γ := []) (Θ := []) (Λ := ([] : List (LC (DenR (.t .bl))))) (by kernel_rfl) mixed trivial (by kernel_rfl)
  trivial (by kernel_rfl) (fun a => by kernel_rfl)
def B_f15_L0 (N : Nat) {Ω : Type} (kx : DenS .un → Option Ω) (kr : Bool → Option Ω) (rec_ : DenS (.pr (.d 0 (.sl tItem)) (.pr (.d 1 (.sl tItem)) (.d 5 I))) → Option Ω) : DenS (.pr (.d 0 (.sl tItem)) (.pr (.d 1 (.sl tItem)) (.d 5 I))) → Option Ω := fun (s0,s1,s5) =>
 (bif (decide (s5 < (s0.length : Int))) then (bif (decide (0 ≤ s5) && decide (s5 < s0.length)) then (bif (decide (0 ≤ s5) && decide (s5 < s1.length)) then (x_f14 N (s0.getD s5.toNat (dft tItem)) (s1.getD s5.toNat (dft tItem))).bind fun r1 => (bif (!r1) then kr false else rec_ (s0,s1,(wrap64 (s5 + (1:Int))))) else none) else none) else kx ())
def x_f15 (N : Nat) (a0 : (List (Den tItem))) (a1 : (List (Den tItem))) : Option Bool :=
 (bif (!decide ((a0.length : Int) = (a1.length : Int))) then some false else iter (B_f15_L0 N (fun _ => some true) (fun ρ2 => some (ρ2))) N (a0,a1,(0:Int)))
abbrev ct_f15 (N : Nat) : CT := ⟨11,(.pr (.d (.sl tItem)) (.d (.sl tItem))),(.t .bl),fun a => x_f15 N a.1 a.2⟩
theorem c_f15 (N : Nat) : CTok Try.prog (ct_f15 N) :=
 CT_ok (Γ := [.c (ct_f14 N)]) (Θ := []) (Λ := ([⟨0,0,(.pr (.d 0 (.sl tItem)) (.pr (.d 1 (.sl tItem)) (.d 5 I))),.un,fun {Ω} kx kr => iter (B_f15_L0 N kx kr) N⟩] : List (LC (DenR (.t .bl))))) (by kernel_rfl) mixed ⟨c_f14 N,trivial⟩ (by kernel_rfl)
  ⟨LoopEq.mk N (fun Ω kx kr => B_f15_L0 N kx kr) (fun Ω g kx kr s => by kernel_rfl),trivial⟩ (by kernel_rfl) (fun a => by kernel_rfl)
def x_f17 (N : Nat) (a0 : (Den tShelf)) (a1 : (Den tShelf)) : Option Bool :=
 (bif (!decide (a0.1 = a1.1)) then some false else (x_f15 N a0.2 a1.2).bind fun r1 => (bif (!r1) then some false else some true))
abbrev ct_f17 (N : Nat) : CT := ⟨57,(.pr (.d tShelf) (.d tShelf)),(.t .bl),fun a => x_f17 N a.1 a.2⟩
theorem c_f17 (N : Nat) : CTok Try.prog (ct_f17 N) :=
 CT_ok (Γ := [.c (ct_f15 N)]) (Θ := []) (Λ := ([] : List (LC (DenR (.t .bl))))) (by kernel_rfl) mixed ⟨c_f15 N,trivial⟩ (by kernel_rfl)
  trivial (by kernel_rfl) (fun a => by kernel_rfl)
def B_f18_L0 (N : Nat) {Ω : Type} (kx : DenS .un → Option Ω) (kr : Bool → Option Ω) (rec_ : DenS (.pr (.d 0 (.sl tShelf)) (.pr (.d 1 (.sl tShelf)) (.d 5 I))) → Option Ω) : DenS (.pr (.d 0 (.sl tShelf)) (.pr (.d 1 (.sl tShelf)) (.d 5 I))) → Option Ω := fun (s0,s1,s5) =>
 (bif (decide (s5 < (s0.length : Int))) then (bif (decide (0 ≤ s5) && decide (s5 < s0.length)) then (bif (decide (0 ≤ s5) && decide (s5 < s1.length)) then (x_f17 N (s0.getD s5.toNat (dft tShelf)) (s1.getD s5.toNat (dft tShelf))).bind fun r1 => (bif (!r1) then kr false else rec_ (s0,s1,(wrap64 (s5 + (1:Int))))) else none) else none) else kx ())
def x_f18 (N : Nat) (a0 : (List (Den tShelf))) (a1 : (List (Den tShelf))) : Option Bool :=
 (bif (!decide ((a0.length : Int) = (a1.length : Int))) then some false else iter (B_f18_L0 N (fun _ => some true) (fun ρ2 => some (ρ2))) N (a0,a1,(0:Int)))
abbrev ct_f18 (N : Nat) : CT := ⟨31,(.pr (.d (.sl tShelf)) (.d (.sl tShelf))),(.t .bl),fun a => x_f18 N a.1 a.2⟩
theorem c_f18 (N : Nat) : CTok Try.prog (ct_f18 N) :=
 CT_ok (Γ := [.c (ct_f17 N)]) (Θ := []) (Λ := ([⟨0,0,(.pr (.d 0 (.sl tShelf)) (.pr (.d 1 (.sl tShelf)) (.d 5 I))),.un,fun {Ω} kx kr => iter (B_f18_L0 N kx kr) N⟩] : List (LC (DenR (.t .bl))))) (by kernel_rfl) mixed ⟨c_f17 N,trivial⟩ (by kernel_rfl)
  ⟨LoopEq.mk N (fun Ω kx kr => B_f18_L0 N kx kr) (fun Ω g kx kr s => by kernel_rfl),trivial⟩ (by kernel_rfl) (fun a => by kernel_rfl)
def x_f16 (N : Nat) (a0 : (Den tPeer)) (a1 : (Den tPeer)) : Option Bool :=
 (bif (!decide (a0.1 = a1.1)) then some false else (bif (!(a0.2.1 == a1.2.1)) then some false else (bif (!decide (a0.2.2.1 = a1.2.2.1)) then some false else (x_f13 N a0.2.2.2.1 a1.2.2.2.1).bind fun r1 => (bif (!r1) then some false else (x_f13 N a0.2.2.2.2.1 a1.2.2.2.2.1).bind fun r2 => (bif (!r2) then some false else (x_f18 N a0.2.2.2.2.2 a1.2.2.2.2.2).bind fun r3 => (bif (!r3) then some false else some true))))))
abbrev ct_f16 (N : Nat) : CT := ⟨10,(.pr (.d tPeer) (.d tPeer)),(.t .bl),fun a => x_f16 N a.1 a.2⟩
theorem c_f16 (N : Nat) : CTok Try.prog (ct_f16 N) :=
 CT_ok (Γ := [.c (ct_f13 N),.c (ct_f18 N)]) (Θ := []) (Λ := ([] : List (LC (DenR (.t .bl))))) (by kernel_rfl) mixed ⟨c_f13 N,⟨c_f18 N,trivial⟩⟩ (by kernel_rfl)
  trivial (by kernel_rfl) (fun a => by kernel_rfl)
def B_f23_L0 (N : Nat) {Ω : Type} (kx : DenS (.pr (.o 0 I) (.d 1 I)) → Option Ω) (kr : (Int × DenW (.pr (.o 0 I) (.d 1 I))) → Option Ω) (rec_ : DenS (.pr (.o 0 I) (.pr (.d 1 I) (.d 5 I))) → Option Ω) : DenS (.pr (.o 0 I) (.pr (.d 1 I) (.d 5 I))) → Option Ω := fun (s0,s1,s5) =>
 (bif (decide (s5 < (s0.length : Int))) then (bif (decide (0 ≤ s5) && decide (s5 < s0.length)) then rec_ ((s0.set s5.toNat s1),(wrap64 (s1 + (1:Int))),(wrap64 (s5 + (1:Int)))) else none) else kx (s0,s1))
def x_f23 (N : Nat) (a0 : (List Int)) (a1 : Int) : Option (Int × DenW (.pr (.o 0 I) (.d 1 I))) :=
 (iter (B_f23_L0 N (fun (x1,x2) => some (x2,x1,())) (fun ρ3 => some (ρ3))) N (a0,a1,(0:Int))).bind fun r => bif (Nat.beq a0.length r.2.1.length && true) then some r else none
abbrev cm_f23 (N : Nat) : CM := ⟨33,(.pr (.o 0 I) (.d 1 I)),(.t I),fun a => x_f23 N a.1 a.2⟩
theorem c_f23 (N : Nat) : CMok Try.prog (cm_f23 N) :=
 CM_ok (Γ := []) (Θ := []) (Λ := ([⟨0,1,(.pr (.o 0 I) (.pr (.d 1 I) (.d 5 I))),(.pr (.o 0 I) (.d 1 I)),fun {Ω} kx kr => iter (B_f23_L0 N kx kr) N⟩] : List (LC (DenR (.t I) × DenW (.pr (.o 0 I) (.d 1 I)))))) (by kernel_rfl) mixed trivial (by kernel_rfl)
  ⟨LoopEq.mk N (fun Ω kx kr => B_f23_L0 N kx kr) (fun Ω g kx kr s => by kernel_rfl),trivial⟩ (by kernel_rfl) (fun a => by kernel_rfl)
def B_f27_L0 (N : Nat) {Ω : Type} (kx : DenS (.d 3 .tx) → Option Ω) (kr : ByteArray → Option Ω) (rec_ : DenS (.pr (.d 0 I) (.d 3 .tx)) → Option Ω) : DenS (.pr (.d 0 I) (.d 3 .tx)) → Option Ω := fun (s0,s3) =>
 (bif (decide ((0:Int) < s0)) then (bif (decide ((txt [((wrap64 ((48:Int) + (s0.tmod (10:Int)))) % 256)]).size + s3.size ≤ 4611686018427387904)) then rec_ ((wrap64 (s0.tdiv (10:Int))),((txt [((wrap64 ((48:Int) + (s0.tmod (10:Int)))) % 256)]) ++ s3)) else none) else kx s3)
def x_f27 (N : Nat) (a0 : Int) : Option ByteArray :=
 (bif (decide (a0 ≤ (0:Int))) then some (⟨#[109,48]⟩ : ByteArray) else iter (B_f27_L0 N (fun x1 => (bif (decide ((⟨#[109]⟩ : ByteArray).size + x1.size ≤ 4611686018427387904)) then some ((⟨#[109]⟩ : ByteArray) ++ x1) else none)) (fun ρ2 => some (ρ2))) N (a0,ByteArray.empty))
abbrev ct_f27 (N : Nat) : CT := ⟨35,(.d I),(.t .tx),fun a => x_f27 N a⟩
theorem c_f27 (N : Nat) : CTok Try.prog (ct_f27 N) :=
 CT_ok (Γ := []) (Θ := [(12,(.i .u8))]) (Λ := ([⟨0,0,(.pr (.d 0 I) (.d 3 .tx)),(.d 3 .tx),fun {Ω} kx kr => iter (B_f27_L0 N kx kr) N⟩] : List (LC (DenR (.t .tx))))) (by kernel_rfl) mixed trivial (by kernel_rfl)
  ⟨LoopEq.mk N (fun Ω kx kr => B_f27_L0 N kx kr) (fun Ω g kx kr s => by kernel_rfl),trivial⟩ (by kernel_rfl) (fun a => by kernel_rfl)
def B_f24_L0 (N : Nat) {Ω : Type} (kx : DenS (.pr (.o 0 tItem) (.d 1 I)) → Option Ω) (kr : (Int × DenW (.pr (.o 0 tItem) (.d 1 I))) → Option Ω) (rec_ : DenS (.pr (.o 0 tItem) (.pr (.d 1 I) (.d 5 I))) → Option Ω) : DenS (.pr (.o 0 tItem) (.pr (.d 1 I) (.d 5 I))) → Option Ω := fun (s0,s1,s5) =>
 (bif (decide (s5 < (s0.length : Int))) then (x_f27 N s1).bind fun r1 => (bif (decide (0 ≤ s5) && decide (s5 < s0.length)) then (bif (decide (0 ≤ s5) && decide (s5 < (s0.set s5.toNat (r1,(s0.getD s5.toNat (dft tItem)).2)).length)) then (let l2 : List (Den tItem) := ((s0.set s5.toNat (r1,(s0.getD s5.toNat (dft tItem)).2)).set s5.toNat (((s0.set s5.toNat (r1,(s0.getD s5.toNat (dft tItem)).2)).getD s5.toNat (dft tItem)).1,(decide (((wrap64 (s1 + (1:Int))).tmod (3:Int)) = (0:Int))))); rec_ (l2,(wrap64 ((wrap64 (s1 + (1:Int))) + (1:Int))),(wrap64 (s5 + (1:Int))))) else none) else none) else kx (s0,s1))
def x_f24 (N : Nat) (a0 : (List (Den tItem))) (a1 : Int) : Option (Int × DenW (.pr (.o 0 tItem) (.d 1 I))) :=
 (iter (B_f24_L0 N (fun (x3,x4) => some (x4,x3,())) (fun ρ5 => some (ρ5))) N (a0,a1,(0:Int))).bind fun r => bif (Nat.beq a0.length r.2.1.length && true) then some r else none
abbrev cm_f24 (N : Nat) : CM := ⟨13,(.pr (.o 0 tItem) (.d 1 I)),(.t I),fun a => x_f24 N a.1 a.2⟩
theorem c_f24 (N : Nat) : CMok Try.prog (cm_f24 N) :=
 CM_ok (Γ := [.c (ct_f27 N)]) (Θ := []) (Λ := ([⟨0,1,(.pr (.o 0 tItem) (.pr (.d 1 I) (.d 5 I))),(.pr (.o 0 tItem) (.d 1 I)),fun {Ω} kx kr => iter (B_f24_L0 N kx kr) N⟩] : List (LC (DenR (.t I) × DenW (.pr (.o 0 tItem) (.d 1 I)))))) (by kernel_rfl) mixed ⟨c_f27 N,trivial⟩ (by kernel_rfl)
  ⟨LoopEq.mk N (fun Ω kx kr => B_f24_L0 N kx kr) (fun Ω g kx kr s => by kernel_rfl),trivial⟩ (by kernel_rfl) (fun a => by kernel_rfl)
def B_f26_L0 (N : Nat) {Ω : Type} (kx : DenS (.pr (.o 0 tShelf) (.d 1 I)) → Option Ω) (kr : (Int × DenW (.pr (.o 0 tShelf) (.d 1 I))) → Option Ω) (rec_ : DenS (.pr (.o 0 tShelf) (.pr (.d 1 I) (.d 5 I))) → Option Ω) : DenS (.pr (.o 0 tShelf) (.pr (.d 1 I) (.d 5 I))) → Option Ω := fun (s0,s1,s5) =>
 (bif (decide (s5 < (s0.length : Int))) then (bif (decide (0 ≤ s5) && decide (s5 < s0.length)) then (bif (decide (0 ≤ s5) && decide (s5 < (s0.set s5.toNat (s1,(s0.getD s5.toNat (dft tShelf)).2)).length)) then (bif (Nat.beq s5.toNat s5.toNat) then (x_f24 N (((s0.set s5.toNat (s1,(s0.getD s5.toNat (dft tShelf)).2)).getD s5.toNat (dft tShelf)).2) (wrap64 (s1 + (1:Int)))).bind fun r1 => rec_ (((s0.set s5.toNat (s1,(s0.getD s5.toNat (dft tShelf)).2)).set s5.toNat (((s0.set s5.toNat (s1,(s0.getD s5.toNat (dft tShelf)).2)).getD s5.toNat (dft tShelf)).1,r1.2.1)),r1.1,(wrap64 (s5 + (1:Int)))) else none) else none) else none) else kx (s0,s1))
def x_f26 (N : Nat) (a0 : (List (Den tShelf))) (a1 : Int) : Option (Int × DenW (.pr (.o 0 tShelf) (.d 1 I))) :=
 (iter (B_f26_L0 N (fun (x2,x3) => some (x3,x2,())) (fun ρ4 => some (ρ4))) N (a0,a1,(0:Int))).bind fun r => bif (Nat.beq a0.length r.2.1.length && true) then some r else none
abbrev cm_f26 (N : Nat) : CM := ⟨34,(.pr (.o 0 tShelf) (.d 1 I)),(.t I),fun a => x_f26 N a.1 a.2⟩
theorem c_f26 (N : Nat) : CMok Try.prog (cm_f26 N) :=
 CM_ok (Γ := [.m (cm_f24 N)]) (Θ := []) (Λ := ([⟨0,1,(.pr (.o 0 tShelf) (.pr (.d 1 I) (.d 5 I))),(.pr (.o 0 tShelf) (.d 1 I)),fun {Ω} kx kr => iter (B_f26_L0 N kx kr) N⟩] : List (LC (DenR (.t I) × DenW (.pr (.o 0 tShelf) (.d 1 I)))))) (by kernel_rfl) mixed ⟨c_f24 N,trivial⟩ (by kernel_rfl)
  ⟨LoopEq.mk N (fun Ω kx kr => B_f26_L0 N kx kr) (fun Ω g kx kr s => by kernel_rfl),trivial⟩ (by kernel_rfl) (fun a => by kernel_rfl)
def x_f25 (N : Nat) (a0 : (Den tPeer)) (a1 : Int) : Option (Int × DenW (.pr (.ow 0 tPeer) (.d 1 I))) :=
 ((x_f23 N a0.2.2.2.1 a1).bind fun r1 => (x_f23 N a0.2.2.2.2.1 r1.1).bind fun r2 => (x_f26 N a0.2.2.2.2.2 r2.1).bind fun r3 => some (r3.1,((),(),(),r1.2.1,r2.2.1,r3.2.1),())).bind fun r => bif ((true && (true && (true && (Nat.beq a0.2.2.2.1.length r.2.1.2.2.2.1.length && (Nat.beq a0.2.2.2.2.1.length r.2.1.2.2.2.2.1.length && Nat.beq a0.2.2.2.2.2.length r.2.1.2.2.2.2.2.length))))) && true) then some r else none
abbrev cm_f25 (N : Nat) : CM := ⟨12,(.pr (.ow 0 tPeer) (.d 1 I)),(.t I),fun a => x_f25 N a.1 a.2⟩
theorem c_f25 (N : Nat) : CMok Try.prog (cm_f25 N) :=
 CM_ok (Γ := [.m (cm_f23 N),.m (cm_f26 N)]) (Θ := []) (Λ := ([] : List (LC (DenR (.t I) × DenW (.pr (.ow 0 tPeer) (.d 1 I)))))) (by kernel_rfl) mixed ⟨c_f23 N,⟨c_f26 N,trivial⟩⟩ (by kernel_rfl)
  trivial (by kernel_rfl) (fun a => by kernel_rfl)
def B_f19_L0 (N : Nat) {Ω : Type} (kx : DenS (.d 1 I) → Option Ω) (kr : Int → Option Ω) (rec_ : DenS (.pr (.d 0 (.sl I)) (.pr (.d 1 I) (.d 5 I))) → Option Ω) : DenS (.pr (.d 0 (.sl I)) (.pr (.d 1 I) (.d 5 I))) → Option Ω := fun (s0,s1,s5) =>
 (bif (decide (s5 < (s0.length : Int))) then (bif (decide (0 ≤ s5) && decide (s5 < s0.length)) then (bif (!decide ((s0.getD s5.toNat (0:Int)) = s1)) then kr (-1:Int) else rec_ (s0,(wrap64 (s1 + (1:Int))),(wrap64 (s5 + (1:Int))))) else none) else kx s1)
def x_f19 (N : Nat) (a0 : (List Int)) (a1 : Int) : Option Int :=
 iter (B_f19_L0 N (fun x1 => some x1) (fun ρ2 => some (ρ2))) N (a0,a1,(0:Int))
abbrev ct_f19 (N : Nat) : CT := ⟨36,(.pr (.d (.sl I)) (.d I)),(.t I),fun a => x_f19 N a.1 a.2⟩
theorem c_f19 (N : Nat) : CTok Try.prog (ct_f19 N) :=
 CT_ok (Γ := []) (Θ := []) (Λ := ([⟨0,0,(.pr (.d 0 (.sl I)) (.pr (.d 1 I) (.d 5 I))),(.d 1 I),fun {Ω} kx kr => iter (B_f19_L0 N kx kr) N⟩] : List (LC (DenR (.t I))))) (by kernel_rfl) mixed trivial (by kernel_rfl)
  ⟨LoopEq.mk N (fun Ω kx kr => B_f19_L0 N kx kr) (fun Ω g kx kr s => by kernel_rfl),trivial⟩ (by kernel_rfl) (fun a => by kernel_rfl)
def B_f20_L0 (N : Nat) {Ω : Type} (kx : DenS (.d 1 I) → Option Ω) (kr : Int → Option Ω) (rec_ : DenS (.pr (.d 0 (.sl tItem)) (.pr (.d 1 I) (.d 5 I))) → Option Ω) : DenS (.pr (.d 0 (.sl tItem)) (.pr (.d 1 I) (.d 5 I))) → Option Ω := fun (s0,s1,s5) =>
 (bif (decide (s5 < (s0.length : Int))) then (bif (decide (0 ≤ s5) && decide (s5 < s0.length)) then (x_f27 N s1).bind fun r1 => (bif (!decide (((s0.getD s5.toNat (dft tItem)).1) = r1)) then kr (-1:Int) else (bif (decide (0 ≤ s5) && decide (s5 < s0.length)) then (bif (!(((s0.getD s5.toNat (dft tItem)).2) == (decide (((wrap64 (s1 + (1:Int))).tmod (3:Int)) = (0:Int))))) then kr (-1:Int) else rec_ (s0,(wrap64 ((wrap64 (s1 + (1:Int))) + (1:Int))),(wrap64 (s5 + (1:Int))))) else none)) else none) else kx s1)
def x_f20 (N : Nat) (a0 : (List (Den tItem))) (a1 : Int) : Option Int :=
 iter (B_f20_L0 N (fun x2 => some x2) (fun ρ3 => some (ρ3))) N (a0,a1,(0:Int))
abbrev ct_f20 (N : Nat) : CT := ⟨58,(.pr (.d (.sl tItem)) (.d I)),(.t I),fun a => x_f20 N a.1 a.2⟩
theorem c_f20 (N : Nat) : CTok Try.prog (ct_f20 N) :=
 CT_ok (Γ := [.c (ct_f27 N)]) (Θ := []) (Λ := ([⟨0,0,(.pr (.d 0 (.sl tItem)) (.pr (.d 1 I) (.d 5 I))),(.d 1 I),fun {Ω} kx kr => iter (B_f20_L0 N kx kr) N⟩] : List (LC (DenR (.t I))))) (by kernel_rfl) mixed ⟨c_f27 N,trivial⟩ (by kernel_rfl)
  ⟨LoopEq.mk N (fun Ω kx kr => B_f20_L0 N kx kr) (fun Ω g kx kr s => by kernel_rfl),trivial⟩ (by kernel_rfl) (fun a => by kernel_rfl)
def B_f22_L0 (N : Nat) {Ω : Type} (kx : DenS (.d 1 I) → Option Ω) (kr : Int → Option Ω) (rec_ : DenS (.pr (.d 0 (.sl tShelf)) (.pr (.d 1 I) (.d 5 I))) → Option Ω) : DenS (.pr (.d 0 (.sl tShelf)) (.pr (.d 1 I) (.d 5 I))) → Option Ω := fun (s0,s1,s5) =>
 (bif (decide (s5 < (s0.length : Int))) then (bif (decide (0 ≤ s5) && decide (s5 < s0.length)) then (bif (!decide (((s0.getD s5.toNat (dft tShelf)).1) = s1)) then kr (-1:Int) else (bif (decide (0 ≤ s5) && decide (s5 < s0.length)) then (x_f20 N ((s0.getD s5.toNat (dft tShelf)).2) (wrap64 (s1 + (1:Int)))).bind fun r1 => (bif (decide (r1 < (0:Int))) then kr (-1:Int) else rec_ (s0,r1,(wrap64 (s5 + (1:Int))))) else none)) else none) else kx s1)
def x_f22 (N : Nat) (a0 : (List (Den tShelf))) (a1 : Int) : Option Int :=
 iter (B_f22_L0 N (fun x2 => some x2) (fun ρ3 => some (ρ3))) N (a0,a1,(0:Int))
abbrev ct_f22 (N : Nat) : CT := ⟨37,(.pr (.d (.sl tShelf)) (.d I)),(.t I),fun a => x_f22 N a.1 a.2⟩
theorem c_f22 (N : Nat) : CTok Try.prog (ct_f22 N) :=
 CT_ok (Γ := [.c (ct_f20 N)]) (Θ := []) (Λ := ([⟨0,0,(.pr (.d 0 (.sl tShelf)) (.pr (.d 1 I) (.d 5 I))),(.d 1 I),fun {Ω} kx kr => iter (B_f22_L0 N kx kr) N⟩] : List (LC (DenR (.t I))))) (by kernel_rfl) mixed ⟨c_f20 N,trivial⟩ (by kernel_rfl)
  ⟨LoopEq.mk N (fun Ω kx kr => B_f22_L0 N kx kr) (fun Ω g kx kr s => by kernel_rfl),trivial⟩ (by kernel_rfl) (fun a => by kernel_rfl)
def x_f21 (N : Nat) (a0 : (Den tPeer)) (a1 : Int) : Option Int :=
 (x_f19 N a0.2.2.2.1 a1).bind fun r1 => (bif (decide (r1 < (0:Int))) then some (-1:Int) else (x_f19 N a0.2.2.2.2.1 r1).bind fun r2 => (bif (decide (r2 < (0:Int))) then some (-1:Int) else (x_f22 N a0.2.2.2.2.2 r2).bind fun r3 => (bif (decide (r3 < (0:Int))) then some (-1:Int) else some r3)))
abbrev ct_f21 (N : Nat) : CT := ⟨14,(.pr (.d tPeer) (.d I)),(.t I),fun a => x_f21 N a.1 a.2⟩
theorem c_f21 (N : Nat) : CTok Try.prog (ct_f21 N) :=
 CT_ok (Γ := [.c (ct_f19 N),.c (ct_f22 N)]) (Θ := []) (Λ := ([] : List (LC (DenR (.t I))))) (by kernel_rfl) mixed ⟨c_f19 N,⟨c_f22 N,trivial⟩⟩ (by kernel_rfl)
  trivial (by kernel_rfl) (fun a => by kernel_rfl)
def x_laws_FnExactPut (N : Nat) (a0 : (Den tPeer)) (a1 : Int) (a2 : (List (Den tItem))) : Option Bool :=
 (x_f31 N a0 (1048576:Int)).bind fun r1 => (bif (decide (r1 < (0:Int))) then some true else (x_f30 N a2 r1).bind fun r2 => (bif (decide (r2 < (0:Int))) then some true else (x_f37 N a0).bind fun r3 => (x_f36 N a2).bind fun r4 => (x_f56 N r3 a1 r4).bind fun r5 => (x_f37 N a0).bind fun r6 => (x_f36 N a2).bind fun r7 => (x_f5 N r6 a1 r7).bind fun r8 => (x_f16 N r8.1 r5.1).bind fun r9 => (bif (!r9) then some false else (bif (!(r8.2 == r5.2)) then some false else (x_f37 N a0).bind fun r10 => (x_f16 N r6 r10).bind fun r11 => (bif (!r11) then some false else (x_f36 N a2).bind fun r12 => (x_f15 N r7 r12).bind fun r13 => (bif (!r13) then some false else (x_f25 N r6 (1:Int)).bind fun r14 => (x_f24 N r7 r14.1).bind fun r15 => (bif (decide (r15.1 < (0:Int))) then some false else (x_f16 N r8.1 r5.1).bind fun r16 => (bif (!r16) then some false else (bif (!(r8.2 == r5.2)) then some false else (x_f25 N r8.1 (1:Int)).bind fun r17 => (x_f21 N (r8.1.1,r8.1.2.1,r8.1.2.2.1,r17.2.1.2.2.2) (1:Int)).bind fun r18 => (bif (decide (r18 < (0:Int))) then some false else (bif (!decide (r18 = r17.1)) then some false else (x_f37 N a0).bind fun r19 => (x_f36 N a2).bind fun r20 => (x_f5 N r19 a1 r20).bind fun r21 => (x_f16 N r21.1 r5.1).bind fun r22 => (bif (!r22) then some false else (bif (!(r21.2 == r5.2)) then some false else (x_f21 N (r8.1.1,r8.1.2.1,r8.1.2.2.1,r17.2.1.2.2.2) (1:Int)).bind fun r23 => (bif (decide (r23 < (0:Int))) then some false else (bif (!decide (r23 = r17.1)) then some false else some true)))))))))))))))
abbrev ct_laws_FnExactPut (N : Nat) : CT := ⟨3,(.pr (.d tPeer) (.pr (.d I) (.d (.sl tItem)))),(.t .bl),fun a => x_laws_FnExactPut N a.1 a.2.1 a.2.2⟩
theorem c_laws_FnExactPut (N : Nat) : CTok Try.prog (ct_laws_FnExactPut N) :=
 CT_ok (Γ := [.c (ct_f31 N),.c (ct_f30 N),.c (ct_f37 N),.c (ct_f36 N),.c (ct_f56 N),.c (ct_f5 N),.c (ct_f16 N),.c (ct_f15 N),.m (cm_f25 N),.m (cm_f24 N),.c (ct_f21 N)]) (Θ := []) (Λ := ([] : List (LC (DenR (.t .bl))))) (by kernel_rfl) mixed ⟨c_f31 N,⟨c_f30 N,⟨c_f37 N,⟨c_f36 N,⟨c_f56 N,⟨c_f5 N,⟨c_f16 N,⟨c_f15 N,⟨c_f25 N,⟨c_f24 N,⟨c_f21 N,trivial⟩⟩⟩⟩⟩⟩⟩⟩⟩⟩⟩ (by kernel_rfl)
  trivial (by kernel_rfl) (fun a => by kernel_rfl)
end
end Go.Proofs.Ytkmhopbmpeiofaa.C
