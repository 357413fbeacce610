/- Each function of the program that is reached computes the datum printed here: no condition beyond the arguments that its contract names. -/
import Derived.Test.YtfmlmdnaeonobaaNxq
import Derived.Test.YtfmlmdnaeonobaaChecked
import Derived.KernelRfl
import Derived.Shelf.Sort.Plain
import Derived.Shelf.Lay
import Derived.Ground.NamesProg
namespace Go.Proofs.Ytfmlmdnaeonobaa.Nx
open Go Go.RowKit Go.Sort Go.Shelf
set_option linter.unusedVariables false
set_option linter.unusedSimpArgs false
def sortI (x : List Int) : List Int := x.mergeSort fun x y => decide (x ≤ y)
theorem sortI_len (x : List Int) : (sortI x).length = x.length := List.length_mergeSort _
theorem repC_ints {w : World} {N : NT} {M : MT} {b : Nat} : ∀ {x : List Int} {o : Nat} {L : List Nat},RepC w N M b o ((x.map (enc true (.i .i64))).flatMap AV.cells) L → L = [] ∧ ∀ j,j < x.length → w.cell? ⟨b,o + j,none⟩ = some (Value.int .i64 x[j]!)
 | [],o,L,h => by
  simp only [List.map_nil,List.flatMap_nil] at h
  cases h
  exact ⟨rfl,fun j hj => absurd hj (by simp)⟩
 | y :: ys,o,L,h => by
  simp only [List.map_cons,List.flatMap_cons] at h
  rw [enc_cells] at h
  simp only [cls,List.singleton_append] at h
  cases h with
  | cons h1 h2 h3 =>
   obtain ⟨e,h4⟩ := repC_ints h3
   cases h2 with
   | val v =>
    refine ⟨by rw [e]; rfl,fun j hj => ?_⟩
    cases j with
    | zero => simpa using h1
    | succ j =>
     have := h4 j (by simpa using hj)
     rw [show o + (j + 1) = o + 1 + j from by omega,this]
     simp
theorem repC_of_ints {w : World} {N : NT} {M : MT} {b : Nat} : ∀ {x : List Int} {o : Nat},(∀ j,j < x.length → w.cell? ⟨b,o + j,none⟩ = some (Value.int .i64 x[j]!)) → RepC w N M b o ((x.map (enc true (.i .i64))).flatMap AV.cells) []
 | [],o,h => by simp only [List.map_nil,List.flatMap_nil]; exact .nil _ _
 | y :: ys,o,h => by
  simp only [List.map_cons,List.flatMap_cons]
  rw [enc_cells]
  simp only [cls,List.singleton_append]
  have h0 := h 0 (by simp)
  refine .cons (L1 := []) (L2 := []) (v := Value.int .i64 y) (by simpa using h0) (.val _) (repC_of_ints fun j hj => ?_)
  have := h (j + 1) (by simpa using hj)
  rw [show o + 1 + j = o + (j + 1) from by omega,this]
  simp
theorem sort_CM {P : Program} {ρ : Ren} (Ly : Lays.n189 P ρ) (hg : Good P (ρ.f 189)) (F0 : List Int → Option (Unit × List Int)) (h0 : F0 [] = some ((),[])) (hc : CMok P ⟨ρ.f 189,.o 0 (.i .i64),.un,F0⟩) :
  CMok P ⟨ρ.f 189,.o 0 (.i .i64),.un,fun x => bif decide (List.length (α := Int) x ≤ 140737488355328) then some ((),sortI x) else none⟩ := by
 intro x r hr
 change List Int at x
 cases x with
 | nil =>
  have : r = ((),[]) := by
   have e : (some ((),sortI []) : Option (Unit × List Int)) = some r := hr
   simpa [sortI] using e.symm
  subst this
  exact hc [] ((),[]) h0
 | cons y ys =>
  obtain ⟨x,hx⟩ : ∃ x,x = y :: ys := ⟨_,rfl⟩
  rw [← hx] at hr ⊢
  have hpos : 0 < x.length := by rw [hx]; simp
  clear hx
  have hlen : x.length ≤ 140737488355328 := by
   refine Decidable.byContradiction fun hn => ?_
   have : (bif decide (x.length ≤ 140737488355328) then some ((),sortI x) else none : Option (Unit × List Int)) = some r := hr
   rw [dF hn] at this
   cases this
  have hr' : r = ((),sortI x) := by
   have : (bif decide (x.length ≤ 140737488355328) then some ((),sortI x) else none : Option (Unit × List Int)) = some r := hr
   rw [dT hlen] at this
   exact (Option.some.inj this).symm
  subst hr'
  refine ⟨by show Nat.beq x.length (sortI x).length = true; rw [sortI_len,Nat.beq_eq],hg,fun w N M L vs henv hrep => ?_⟩
  have hh := henv.hr
  have hh : HR w N M 0 [some (tb [] (.arr (.i .i64) true x))] L := hh
  cases hh with
  | live hm hb hnil =>
   rename_i m L1 L2
   cases hnil
   have hb : BR w N M ⟨1,0,x.map (enc true (.i .i64)),0⟩ m L1 := hb
   have hml : m.len = x.length := by rw [hb.len]; simp
   obtain ⟨hL1,hcells⟩ := repC_ints hb.rep
   have hsl : RepL w N M [.ref 0 x.length 0 x.length] vs [] := hrep
   generalize hLe : ([] : List Nat) = Le at hsl
   cases hsl with
   | cons h1 h2 =>
    cases h2
    generalize hax : AV.ref 0 x.length 0 x.length = ax at h1
    generalize hLf : ([] : List Nat) = Lf at h1
    cases h1 with
    | ref mm hmm hre =>
     cases hax
     rename_i a cap
     rw [hm] at hmm
     cases hmm
     obtain ⟨_,hre⟩ := hre m rfl
     obtain ⟨hle,hre⟩ := hre hml.symm
     rcases hre with ⟨hz,_⟩ | ⟨hv,ha,hcap,hroom⟩
     ·omega
     ·have hsz : m.sz = 1 := hb.sz
      have ha : a = some ⟨m.b,m.o,none⟩ := by rw [ha]; simp
      subst ha
      have hown : ownOf m L1 = [(m.b,m.fr)] := by simp [ownOf,hv,hL1]
      have hfr : m.fr ≤ m.o := by have := hb.fr; simpa using this
      have hLL : ownOf m L1 ++ [] = [(m.b,m.fr)] := by rw [hown]; rfl
      rw [hLL] at henv ⊢
      have hbs : m.b < w.heap.size := (henv.own (m.b,m.fr) (by simp)).1
      have hN : ∀ o,N m.b o → o < m.fr := (henv.own (m.b,m.fr) (by simp)).2
      have hrm := hb.rm hv
      rw [hml,hsz,Nat.mul_one] at hrm
      have hH : Holds (Value.int .i64) w m.b m.o x.toArray := fun j hj => by
       have hj' : j < x.length := by simpa using hj
       refine ⟨by rw [hcells j hj']; simp,(hrm.cell (by omega)).2⟩
      have hs : (sortI x).length = x.length := sortI_len x
      refine (Any.slices_Sort_int Ly m.b m.o cap x w hH hbs (by omega)).mono fun e w' ⟨he,n,os,hw⟩ => ?_
      have hw : w' = grow (putRow (Value.int .i64) (Sort.ahead w n) m.b m.o (sortI x).toArray) os := hw
      have hsize : (putRow (Value.int .i64) (Sort.ahead w n) m.b m.o (sortI x).toArray).heap.size = w.heap.size := by simp
      have hnew : ∀ j,j < (sortI x).length → w'.cell? ⟨m.b,m.o + j,none⟩ = some (Value.int .i64 (sortI x)[j]!) := fun j hj => by
       rw [hw,cell?_grow _ _ _ (by rw [hsize]; exact hbs)]
       rw [cell?_putRow (Value.int .i64) (Sort.ahead w n) m.b m.o x.toArray (sortI x).toArray (holds_ahead _ _ _ _ _ _ hH) (by simp [hs]) j (by simpa using hj)]
       simp
      have hold : ∀ a : Addr,a.block < w.heap.size → (a.block ≠ m.b ∨ a.off < m.o) → w'.cell? a = w.cell? a := fun a h1 h2 => by
       rw [hw,cell?_grow _ _ _ (by rw [hsize]; exact h1),cell?_putRow_other _ _ _ _ _ _ (by rcases h2 with h | h; exact .inl h; exact .inr (.inl h))]
       rfl
      have hblk : ∀ k,k < w.heap.size → k ≠ m.b → w'.heap[k]? = w.heap[k]? := fun k h1 h2 => by
       rw [hw]
       show ((putRow (Value.int .i64) (Sort.ahead w n) m.b m.o (sortI x).toArray).heap ++ os)[k]? = _
       rw [Array.getElem?_append,if_pos (by rw [hsize]; exact h1)]
       show ((mapBlock (Sort.ahead w n) m.b _).heap)[k]? = _
       simp only [mapBlock,Array.getElem?_modify,if_neg (Ne.symm h2),heap_ahead]
      have hshp : Shp w w' := fun b c e fz h => by
       have hb' : b < w.heap.size := by
        rcases Nat.lt_or_ge b w.heap.size with h' | h'
        ·exact h'
        ·rw [Array.getElem?_eq_none h'] at h; cases h
       by_cases hk : b = m.b
       ·subst hk
        refine ⟨putCells (Value.int .i64) m.o (sortI x).toArray c,?_,by simp [putCells]⟩
        rw [hw]
        show ((putRow (Value.int .i64) (Sort.ahead w n) m.b m.o (sortI x).toArray).heap ++ os)[m.b]? = _
        rw [Array.getElem?_append,if_pos (by rw [hsize]; exact hb')]
        show ((mapBlock (Sort.ahead w n) m.b _).heap)[m.b]? = _
        simp only [mapBlock,Array.getElem?_modify,if_true,heap_ahead,h,Option.map_some,onCells]
       ·exact ⟨c,by rw [hblk b hb' hk]; exact h,rfl⟩
      have hfrn : FrN N [m.b] w w' := by
       refine ⟨⟨by rw [hw]; rfl,by rw [hw]; rfl,by rw [hw]; rfl,by rw [hw,size_grow,hsize]; omega,fun k h1 h2 => hblk k h1 (by simpa using h2),hshp⟩,fun b o hn => ?_⟩
       refine hold _ (henv.nlt b o hn) ?_
       by_cases hk : b = m.b
       ·subst hk; exact .inr (Nat.lt_of_lt_of_le (hN o hn) hfr)
       ·exact .inl hk
      have hbr : BR w' N M ⟨1,0,(sortI x).map (enc true (.i .i64)),0⟩ m [] := by
       refine ⟨by rw [hml]; simp [hs],hsz,by simpa using hfr,fun y hy => ?_,repC_of_ints hnew,fun e => (by rw [hv] at e; cases e),fun _ => (hb.rm hv).gr hshp,Nat.zero_le _,fun i hi => absurd hi (by simp),fun h => hb.f0 rfl⟩
       obtain ⟨q,_,rfl⟩ := List.mem_map.1 hy
       rw [enc_cells,cls_len]; rfl
      have hown' : ownOf m [] = [(m.b,m.fr)] := by simp [ownOf,hv]
      have hhr : HR w' N M 0 [some (tb [] (.arr (.i .i64) true (sortI x)))] [(m.b,m.fr)] := by
       have := HR.live (hs := []) (L2 := []) hm hbr (.nil 1)
       rw [hown'] at this
       exact this
      refine ⟨.tuple #[],he,N,M,[(m.b,m.fr)],⟨.tup .nil,?_,hfrn,fun _ _ h => h,fun _ _ h => .inl h,fun p hp => .inr (by simpa using List.mem_map_of_mem hp),fun k m' m0 h1 h2 => ?_⟩⟩
      ·exact ⟨hhr,henv.nd,fun p hp => by
        have := henv.own p hp
        exact ⟨by rw [hw,size_grow,hsize]; omega,this.2⟩,fun b o h => by have := henv.nlt b o h; rw [hw,size_grow,hsize]; omega,fun k hk => henv.un k hk⟩
      ·have h1 : M (0 + k) = some (some m') := h1
       rw [Nat.zero_add,h2] at h1
       cases h1
       exact ⟨Nat.le_refl _,fun _ => rfl⟩
    | _ => cases hax
theorem xrun_noloop {R Ω : Type} {Γ : List CX} {Θ : TyO} {Λ Λ' : List (LC R)} {n : Nat} {res : TS → Option R} (nc : NC) : loopsOf nc = [] → ∀ (kn : TS → Option Ω) (ke : Nat → TS → Option Ω) (kr : R → Option Ω) (t : TS),xrun Γ Θ Λ n res nc kn ke kr t = xrun Γ Θ Λ' n res nc kn ke kr t := by
 induction nc with
 | seq a b iha ihb =>
  intro h kn ke kr t
  simp only [loopsOf,List.append_eq_nil_iff] at h
  simp only [xrun]
  rw [iha h.1]
  congr 1
  funext t
  exact ihb h.2 kn ke kr t
 | cond c a b iha ihb =>
  intro h kn ke kr t
  simp only [loopsOf,List.append_eq_nil_iff] at h
  simp only [xrun]
  rw [iha h.1,ihb h.2]
 | block id b ih =>
  intro h kn ke kr t
  cases b with
  | loop c => simp [loopsOf] at h
  | _ => exact ih h kn (fun i t => bif Nat.beq i id then kn t else ke i t) kr t
 | _ => intro _ _ _ _ _; rfl
noncomputable def rawLoop {R : Type} (Γ : List CX) (n : Nat) (res : TS → Option R) (id q : Nat) (s x : SK) (B : NC) (N : Nat) : LC R :=
 ⟨id,q,s,x,fun kx kr => iter (fun g v => splitL (xrun Γ [] [] n res B (fun t => (maskL n q s t).bind g) (fun i t => bif Nat.beq i id then (maskL n q x t).bind kx else none) kr) s v) N⟩
theorem LoopEq.raw {R : Type} {Γ : List CX} {Λ : List (LC R)} {n : Nat} {res : TS → Option R} {id q : Nat} {s x : SK} {B : NC} {N : Nat} (h : loopsOf B = []) : LoopEq Γ [] Λ n res (rawLoop Γ n res id q s x B N) B :=
 ⟨N,fun Ω kx kr g v => splitL (xrun Γ [] [] n res B (fun t => (maskL n q s t).bind g) (fun i t => bif Nat.beq i id then (maskL n q x t).bind kx else none) kr) s v,fun _ _ _ _ => rfl,fun Ω g kx kr v => by
  show splitL (xrun Γ [] Λ n res B _ _ kr) s v = _
  congr 1
  funext t
  exact xrun_noloop B h _ _ kr t⟩
noncomputable def rawM (P : Program) (Γ : List CX) (f : FuncId) (s sl sx : SK) (x : DenS s) : Option (DenR .un × DenW s) :=
 xfnM Γ [] (nfOf P f) s .un [rawLoop Γ (nfOf P f).n (resOfM (nfOf P f).n .un (nfOf P f).res s) 0 (blen s) sl sx ((loopsOf (nfOf P f).body).headD (0,.skip)).2 2] x
theorem rawM_ok {P : Program} {Γ : List CX} {f : FuncId} {s sl sx : SK} (hs : (nFn P f).isSome = true) (hm : P.follows .mixedOrders = true) (hΓ : AllOk P Γ) (hi : (loopsOf (nfOf P f).body).map Prod.fst = [0]) (hB : loopsOf ((loopsOf (nfOf P f).body).headD (0,.skip)).2 = [])
  (hp : (Nat.ble (slotsS s).length (nfOf P f).n && slotsOk s) = true) : CMok P ⟨f,s,.un,rawM P Γ f s sl sx⟩ := by
 rw [Bool.and_eq_true] at hp
 exact CM_ok (Θ := []) (Λ := [rawLoop Γ (nfOf P f).n (resOfM (nfOf P f).n .un (nfOf P f).res s) 0 (blen s) sl sx ((loopsOf (nfOf P f).body).headD (0,.skip)).2 2]) hs hm hΓ
  (by unfold idsOk; rw [hi]; rfl) ⟨LoopEq.raw hB,trivial⟩ (by rw [hp.1,hp.2,Bool.true_and,Bool.true_and]; show (Nat.ble (blen s) (blen s) && true) = true; rw [Bool.and_true]; exact Nat.ble_eq_true_of_le (Nat.le_refl _)) (fun _ => rfl)
noncomputable def rawC (P : Program) (Γ : List CX) (f : FuncId) (p : PK) (R : RK) (a : DenP p) : Option (DenR R) := xfn Γ [] (nfOf P f) p R [] a
theorem rawC_ok {P : Program} {Γ : List CX} {f : FuncId} {p : PK} {R : RK} (hs : (nFn P f).isSome = true) (hm : P.follows .mixedOrders = true) (hΓ : AllOk P Γ) (hi : (loopsOf (nfOf P f).body).isEmpty = true) (hp : Nat.ble (lenP p) (nfOf P f).n = true) : CTok P ⟨f,p,R,rawC P Γ f p R⟩ :=
 CT_ok (Θ := []) (Λ := []) hs hm hΓ (by unfold idsOk; rw [List.isEmpty_iff.1 hi]; rfl) trivial hp fun _ => rfl
noncomputable def rawM0 (P : Program) (Γ : List CX) (f : FuncId) (s : SK) (x : DenS s) : Option (DenR .un × DenW s) := xfnM Γ [] (nfOf P f) s .un [] x
theorem rawM0_ok {P : Program} {Γ : List CX} {f : FuncId} {s : SK} (hs : (nFn P f).isSome = true) (hm : P.follows .mixedOrders = true) (hΓ : AllOk P Γ) (hi : (loopsOf (nfOf P f).body).isEmpty = true) (hp : (Nat.ble (slotsS s).length (nfOf P f).n && (slotsOk s && true)) = true) : CMok P ⟨f,s,.un,rawM0 P Γ f s⟩ :=
 CM_ok (Θ := []) (Λ := []) hs hm hΓ (by unfold idsOk; rw [List.isEmpty_iff.1 hi]; rfl) trivial hp fun _ => rfl
end Go.Proofs.Ytfmlmdnaeonobaa.Nx
namespace Go.Proofs
open Go.Shelf
shelf_lay Lays.n189 Nm 189 at Try as Try.laysSort
end Go.Proofs
namespace Go.Proofs.Ytfmlmdnaeonobaa.C
open Go Go.Proofs.Ytfmlmdnaeonobaa.Nx Go.RowKit
set_option maxRecDepth 100000
set_option linter.unusedVariables false
noncomputable section
abbrev I : Ty := .i .i64
abbrev tRole : Ty := (.st (.pr I I))
abbrev tFact : Ty := (.st (.pr tRole I))
abbrev tFoundV : Ty := (.st (.pr tFact (.pr I (.sv I))))
abbrev tCred : Ty := (.st (.pr I (.pr tRole (.pr I (.pr tRole (.pr tRole (.pr I I)))))))
abbrev tDerived : Ty := (.st (.pr tFact (.sl I)))
theorem mixed : Try.prog.follows .mixedOrders = true := by kernel_rfl
def x_f22 (N : Nat) (a0 : (List (Den tCred))) (a1 : Int) : Option Int :=
 (bif (decide ((wrap64 (a1 - (a0.length : Int))) < (0:Int))) then some (-1:Int) else some (wrap64 (a1 - (a0.length : Int))))
abbrev ct_f22 (N : Nat) : CT := ⟨32,(.pr (.d (.sl tCred)) (.d I)),(.t I),fun a => x_f22 N a.1 a.2⟩
theorem c_f22 (N : Nat) : CTok Try.prog (ct_f22 N) :=
 CT_ok (Γ := []) (Θ := []) (Λ := ([] : List (LC (DenR (.t I))))) (by kernel_rfl) mixed trivial (by kernel_rfl)
  trivial (by kernel_rfl) (fun a => by kernel_rfl)
def x_f25 (N : Nat) (a0 : (Den tRole)) : Option (Den tRole) :=
 some a0
abbrev ct_f25 (N : Nat) : CT := ⟨35,(.d tRole),(.t tRole),fun a => x_f25 N a⟩
theorem c_f25 (N : Nat) : CTok Try.prog (ct_f25 N) :=
 CT_ok (Γ := []) (Θ := []) (Λ := ([] : List (LC (DenR (.t tRole))))) (by kernel_rfl) mixed trivial (by kernel_rfl)
  trivial (by kernel_rfl) (fun a => by kernel_rfl)
def x_f23 (N : Nat) (a0 : (Den tCred)) : Option (Den tCred) :=
 (x_f25 N a0.2.1).bind fun r1 => (x_f25 N a0.2.2.2.1).bind fun r2 => (x_f25 N a0.2.2.2.2.1).bind fun r3 => some (a0.1,r1,a0.2.2.1,r2,r3,a0.2.2.2.2.2)
abbrev ct_f23 (N : Nat) : CT := ⟨107,(.d tCred),(.t tCred),fun a => x_f23 N a⟩
theorem c_f23 (N : Nat) : CTok Try.prog (ct_f23 N) :=
 CT_ok (Γ := [.c (ct_f25 N)]) (Θ := []) (Λ := ([] : List (LC (DenR (.t tCred))))) (by kernel_rfl) mixed ⟨c_f25 N,trivial⟩ (by kernel_rfl)
  trivial (by kernel_rfl) (fun a => by kernel_rfl)
def B_f24_L0 (N : Nat) {Ω : Type} (kx : DenS (.o 3 tCred) → Option Ω) (kr : (List (Den tCred)) → Option Ω) (rec_ : DenS (.pr (.d 0 (.sl tCred)) (.pr (.o 3 tCred) (.d 4 I))) → Option Ω) : DenS (.pr (.d 0 (.sl tCred)) (.pr (.o 3 tCred) (.d 4 I))) → Option Ω := fun (s0,s3,s4) =>
 (bif (decide (s4 < (s0.length : Int))) then (bif (decide (0 ≤ s4) && decide (s4 < s0.length)) then (x_f23 N (s0.getD s4.toNat (dft tCred))).bind fun r1 => (bif (decide (0 ≤ s4) && decide (s4 < s3.length)) then rec_ (s0,(s3.set s4.toNat r1),(wrap64 (s4 + (1:Int)))) else none) else none) else kx s3)
def x_f24 (N : Nat) (a0 : (List (Den tCred))) : Option (List (Den tCred)) :=
 (bif (decide ((a0.length : Int) = (a0.length : Int)) && (decide (0 ≤ (a0.length : Int)) && (decide ((a0.length : Int) * (80 : Nat) ≤ 140737488355328) && decide ((a0.length : Int) ≤ 9223372036854775807)))) then iter (B_f24_L0 N (fun x2 => some x2) (fun ρ3 => some (ρ3))) N (a0,(List.replicate (a0.length : Int).toNat (dft tCred)),(0:Int)) else none)
abbrev ct_f24 (N : Nat) : CT := ⟨34,(.d (.sl tCred)),(.t (.sl tCred)),fun a => x_f24 N a⟩
theorem c_f24 (N : Nat) : CTok Try.prog (ct_f24 N) :=
 CT_ok (Γ := [.c (ct_f23 N)]) (Θ := [(7,tCred)]) (Λ := ([⟨0,0,(.pr (.d 0 (.sl tCred)) (.pr (.o 3 tCred) (.d 4 I))),(.o 3 tCred),fun {Ω} kx kr => iter (B_f24_L0 N kx kr) N⟩] : List (LC (DenR (.t (.sl tCred)))))) (by kernel_rfl) mixed ⟨c_f23 N,trivial⟩ (by kernel_rfl)
  ⟨LoopEq.mk N (fun Ω kx kr => B_f24_L0 N kx kr) (fun Ω g kx kr s => by kernel_rfl),trivial⟩ (by kernel_rfl) (fun a => by kernel_rfl)
def x_f38 (N : Nat) (a0 : Int) (a1 : Int) (a2 : Int) : Option Bool :=
 (bif (decide (a1 ≤ a0)) then some (decide (a0 ≤ a2)) else some false)
abbrev ct_f38 (N : Nat) : CT := ⟨66,(.pr (.d I) (.pr (.d I) (.d I))),(.t .bl),fun a => x_f38 N a.1 a.2.1 a.2.2⟩
theorem c_f38 (N : Nat) : CTok Try.prog (ct_f38 N) :=
 CT_ok (Γ := []) (Θ := []) (Λ := ([] : List (LC (DenR (.t .bl))))) (by kernel_rfl) mixed trivial (by kernel_rfl)
  trivial (by kernel_rfl) (fun a => by kernel_rfl)
def x_f36 (N : Nat) (a0 : (Den tRole)) : Option Bool :=
 (x_f38 N a0.1 (0:Int) (5:Int)).bind fun r1 => (bif r1 then (x_f38 N a0.2 (0:Int) (3:Int)).bind fun r2 => some r2 else some false)
abbrev ct_f36 (N : Nat) : CT := ⟨150,(.d tRole),(.t .bl),fun a => x_f36 N a⟩
theorem c_f36 (N : Nat) : CTok Try.prog (ct_f36 N) :=
 CT_ok (Γ := [.c (ct_f38 N)]) (Θ := []) (Λ := ([] : List (LC (DenR (.t .bl))))) (by kernel_rfl) mixed ⟨c_f38 N,trivial⟩ (by kernel_rfl)
  trivial (by kernel_rfl) (fun a => by kernel_rfl)
def x_f33 (N : Nat) (a0 : (Den tCred)) : Option Bool :=
 (x_f36 N a0.2.1).bind fun r1 => (bif (!r1) then some false else (x_f38 N a0.2.2.2.2.2.1 (1:Int) (9999:Int)).bind fun r2 => (bif (!r2) then some false else (x_f38 N a0.2.2.2.2.2.2 (0:Int) (99:Int)).bind fun r3 => (bif (!r3) then some false else (bif (decide (a0.1 = (1:Int))) then (x_f38 N a0.2.2.1 (0:Int) (5:Int)).bind fun r4 => (bif r4 then (bif (decide (a0.2.2.2.1.1 = (0:Int)) && decide (a0.2.2.2.1.2 = (0:Int))) then some (decide (a0.2.2.2.2.1.1 = (0:Int)) && decide (a0.2.2.2.2.1.2 = (0:Int))) else some false) else some false) else (bif (decide (a0.1 = (2:Int))) then (bif (decide (a0.2.2.1 = (0:Int))) then (x_f36 N a0.2.2.2.1).bind fun r5 => (bif r5 then some (decide (a0.2.2.2.2.1.1 = (0:Int)) && decide (a0.2.2.2.2.1.2 = (0:Int))) else some false) else some false) else (bif (decide (a0.1 = (3:Int))) then (bif (decide (a0.2.2.1 = (0:Int))) then (x_f36 N a0.2.2.2.1).bind fun r6 => (bif r6 then (x_f36 N a0.2.2.2.2.1).bind fun r7 => (bif r7 then some (decide (a0.2.2.2.2.1.1 = (0:Int))) else some false) else some false) else some false) else (bif (decide (a0.1 = (4:Int))) then (bif (decide (a0.2.2.1 = (0:Int))) then (x_f36 N a0.2.2.2.1).bind fun r8 => (bif r8 then (x_f36 N a0.2.2.2.2.1).bind fun r9 => some r9 else some false) else some false) else some false)))))))
abbrev ct_f33 (N : Nat) : CT := ⟨104,(.d tCred),(.t .bl),fun a => x_f33 N a⟩
theorem c_f33 (N : Nat) : CTok Try.prog (ct_f33 N) :=
 CT_ok (Γ := [.c (ct_f36 N),.c (ct_f38 N)]) (Θ := []) (Λ := ([] : List (LC (DenR (.t .bl))))) (by kernel_rfl) mixed ⟨c_f36 N,⟨c_f38 N,trivial⟩⟩ (by kernel_rfl)
  trivial (by kernel_rfl) (fun a => by kernel_rfl)
def B_f39_L0 (N : Nat) {Ω : Type} (kx : DenS .un → Option Ω) (kr : Bool → Option Ω) (rec_ : DenS (.pr (.d 0 (.sl tFact)) (.pr (.ip 3 tFact) (.d 5 I))) → Option Ω) : DenS (.pr (.d 0 (.sl tFact)) (.pr (.ip 3 tFact) (.d 5 I))) → Option Ω := fun (s0,s3,s5) =>
 (bif (decide (s5 < (s0.length : Int))) then (bif (decide (0 ≤ s5) && decide (s5 < s0.length)) then (bif (decide ((((s0.getD s5.toNat (dft tFact)).1).1) = s3.1.1) && (decide ((((s0.getD s5.toNat (dft tFact)).1).2) = s3.1.2) && decide (((s0.getD s5.toNat (dft tFact)).2) = s3.2))) then kr true else rec_ (s0,s3,(wrap64 (s5 + (1:Int))))) else none) else kx ())
def x_f39 (N : Nat) (a0 : (List (Den tFact))) (a1 : (Den tFact)) : Option Bool :=
 iter (B_f39_L0 N (fun _ => some false) (fun ρ1 => some (ρ1))) N (a0,a1,(0:Int))
abbrev ct_f39 (N : Nat) : CT := ⟨106,(.pr (.d (.sl tFact)) (.d tFact)),(.t .bl),fun a => x_f39 N a.1 a.2⟩
theorem c_f39 (N : Nat) : CTok Try.prog (ct_f39 N) :=
 CT_ok (Γ := []) (Θ := []) (Λ := ([⟨0,0,(.pr (.d 0 (.sl tFact)) (.pr (.ip 3 tFact) (.d 5 I))),.un,fun {Ω} kx kr => iter (B_f39_L0 N kx kr) N⟩] : List (LC (DenR (.t .bl))))) (by kernel_rfl) mixed trivial (by kernel_rfl)
  ⟨LoopEq.mk N (fun Ω kx kr => B_f39_L0 N kx kr) (fun Ω g kx kr s => by kernel_rfl),trivial⟩ (by kernel_rfl) (fun a => by kernel_rfl)
def x_f40 (N : Nat) (a0 : (List (Den tFact))) (a1 : (Den tFact)) : Option ((List (Den tFact)) × DenW (.pr (.mo 0 tFact) (.d 1 tFact))) :=
 ((x_f39 N a0 a1).bind fun r1 => (bif r1 then some (a0,(),()) else (bif (decide ((a0.length + [a1].length) * 24 ≤ 140737488355328)) then some ((a0 ++ [a1]),(),()) else none))).bind fun r => bif (true && true) then some r else none
abbrev cm_f40 (N : Nat) : CM := ⟨161,(.pr (.mo 0 tFact) (.d 1 tFact)),(.t (.sl tFact)),fun a => x_f40 N a.1 a.2⟩
theorem c_f40 (N : Nat) : CMok Try.prog (cm_f40 N) :=
 CM_ok (Γ := [.c (ct_f39 N)]) (Θ := [(11,tFact)]) (Λ := ([] : List (LC (DenR (.t (.sl tFact)) × DenW (.pr (.mo 0 tFact) (.d 1 tFact)))))) (by kernel_rfl) mixed ⟨c_f39 N,trivial⟩ (by kernel_rfl)
  trivial (by kernel_rfl) (fun a => by kernel_rfl)
def B_f35_L1 (N : Nat) {Ω : Type} (kx : DenS (.o 5 tFact) → Option Ω) (kr : (List (Den tFact)) → Option Ω) (rec_ : DenS (.pr (.d 0 (.sl tFact)) (.pr (.ip 3 tCred) (.pr (.o 5 tFact) (.d 6 I)))) → Option Ω) : DenS (.pr (.d 0 (.sl tFact)) (.pr (.ip 3 tCred) (.pr (.o 5 tFact) (.d 6 I)))) → Option Ω := fun (s0,s3,s5,s6) =>
 (bif (decide (s6 < (s0.length : Int))) then (bif (decide (0 ≤ s6) && decide (s6 < s0.length)) then (bif (decide ((((s0.getD s6.toNat (dft tFact)).1).1) = s3.2.2.2.1.1) && decide ((((s0.getD s6.toNat (dft tFact)).1).2) = s3.2.2.2.1.2)) then (bif (decide (s3.1 = (2:Int))) then (x_f40 N s5 (s3.2.1,(s0.getD s6.toNat (dft tFact)).2)).bind fun r3 => rec_ (s0,s3,r3.1,(wrap64 (s6 + (1:Int)))) else (x_f39 N s0 (s3.2.2.2.2.1,(s0.getD s6.toNat (dft tFact)).2)).bind fun r4 => (bif r4 then (x_f40 N s5 (s3.2.1,(s0.getD s6.toNat (dft tFact)).2)).bind fun r5 => rec_ (s0,s3,r5.1,(wrap64 (s6 + (1:Int)))) else rec_ (s0,s3,s5,(wrap64 (s6 + (1:Int)))))) else rec_ (s0,s3,s5,(wrap64 (s6 + (1:Int))))) else none) else kx s5)
def B_f35_L5 (N : Nat) {Ω : Type} (kx : DenS (.pr (.d 0 (.sl tFact)) (.pr (.ip 3 tCred) (.pr (.o 5 tFact) (.d 8 I)))) → Option Ω) (kr : (List (Den tFact)) → Option Ω) (rec_ : DenS (.pr (.d 0 (.sl tFact)) (.pr (.ip 3 tCred) (.pr (.o 5 tFact) (.pr (.d 8 I) (.pr (.bx 9 tRole) (.d 10 I)))))) → Option Ω) : DenS (.pr (.d 0 (.sl tFact)) (.pr (.ip 3 tCred) (.pr (.o 5 tFact) (.pr (.d 8 I) (.pr (.bx 9 tRole) (.d 10 I)))))) → Option Ω := fun (s0,s3,s5,s8,s9,s10) =>
 (bif (decide (s10 < (s0.length : Int))) then (bif (decide (0 ≤ s10) && decide (s10 < s0.length)) then (bif (decide ((((s0.getD s10.toNat (dft tFact)).1).1) = s9.1) && decide ((((s0.getD s10.toNat (dft tFact)).1).2) = s9.2)) then (bif (decide (0 ≤ s10) && decide (s10 < s0.length)) then (x_f40 N s5 (s3.2.1,(s0.getD s10.toNat (dft tFact)).2)).bind fun r8 => rec_ (s0,s3,r8.1,s8,s9,(wrap64 (s10 + (1:Int)))) else none) else rec_ (s0,s3,s5,s8,s9,(wrap64 (s10 + (1:Int))))) else none) else kx (s0,s3,s5,s8))
def B_f35_L3 (N : Nat) {Ω : Type} (kx : DenS (.o 5 tFact) → Option Ω) (kr : (List (Den tFact)) → Option Ω) (rec_ : DenS (.pr (.d 0 (.sl tFact)) (.pr (.ip 3 tCred) (.pr (.o 5 tFact) (.d 8 I)))) → Option Ω) : DenS (.pr (.d 0 (.sl tFact)) (.pr (.ip 3 tCred) (.pr (.o 5 tFact) (.d 8 I)))) → Option Ω := fun (s0,s3,s5,s8) =>
 (bif (decide (s8 < (s0.length : Int))) then (bif (decide (0 ≤ s8) && decide (s8 < s0.length)) then (bif (!(decide ((((s0.getD s8.toNat (dft tFact)).1).1) = s3.2.2.2.1.1) && decide ((((s0.getD s8.toNat (dft tFact)).1).2) = s3.2.2.2.1.2))) then rec_ (s0,s3,s5,(wrap64 (s8 + (1:Int)))) else (bif (decide (0 ≤ s8) && decide (s8 < s0.length)) then iter (B_f35_L5 N (fun (x9,x10,x11,x12) => rec_ (x9,x10,x11,(wrap64 (x12 + (1:Int))))) (fun ρ13 => kr (ρ13))) N (s0,s3,s5,s8,((s0.getD s8.toNat (dft tFact)).2,s3.2.2.2.2.1.2),(0:Int)) else none)) else none) else kx s5)
def x_f35 (N : Nat) (a0 : (List (Den tFact))) (a1 : (Den tCred)) : Option (List (Den tFact)) :=
 (bif (decide ((([] : List (Den tFact)).length + a0.length) * 24 ≤ 140737488355328)) then (x_f33 N a1).bind fun r1 => (bif (!r1) then some (([] : List (Den tFact)) ++ a0) else (bif (decide (a1.1 = (1:Int))) then (x_f40 N (([] : List (Den tFact)) ++ a0) (a1.2.1,a1.2.2.1)).bind fun r2 => some r2.1 else (bif (decide (a1.1 = (2:Int))) then (bif (decide (a1.1 = (2:Int))) then iter (B_f35_L1 N (fun x6 => some x6) (fun ρ7 => some (ρ7))) N (a0,a1,(([] : List (Den tFact)) ++ a0),(0:Int)) else (bif (decide (a1.1 = (3:Int))) then iter (B_f35_L3 N (fun x14 => some x14) (fun ρ15 => some (ρ15))) N (a0,a1,(([] : List (Den tFact)) ++ a0),(0:Int)) else some (([] : List (Den tFact)) ++ a0))) else (bif (decide (a1.1 = (4:Int))) then iter (B_f35_L1 N (fun x16 => some x16) (fun ρ17 => some (ρ17))) N (a0,a1,(([] : List (Den tFact)) ++ a0),(0:Int)) else (bif (decide (a1.1 = (3:Int))) then iter (B_f35_L3 N (fun x18 => some x18) (fun ρ19 => some (ρ19))) N (a0,a1,(([] : List (Den tFact)) ++ a0),(0:Int)) else some (([] : List (Den tFact)) ++ a0)))))) else none)
abbrev ct_f35 (N : Nat) : CT := ⟨119,(.pr (.d (.sl tFact)) (.d tCred)),(.t (.sl tFact)),fun a => x_f35 N a.1 a.2⟩
theorem c_f35 (N : Nat) : CTok Try.prog (ct_f35 N) :=
 CT_ok (Γ := [.c (ct_f33 N),.m (cm_f40 N),.c (ct_f39 N)]) (Θ := [(11,tFact)]) (Λ := ([⟨1,0,(.pr (.d 0 (.sl tFact)) (.pr (.ip 3 tCred) (.pr (.o 5 tFact) (.d 6 I)))),(.o 5 tFact),fun {Ω} kx kr => iter (B_f35_L1 N kx kr) N⟩,⟨3,0,(.pr (.d 0 (.sl tFact)) (.pr (.ip 3 tCred) (.pr (.o 5 tFact) (.d 8 I)))),(.o 5 tFact),fun {Ω} kx kr => iter (B_f35_L3 N kx kr) N⟩,⟨5,0,(.pr (.d 0 (.sl tFact)) (.pr (.ip 3 tCred) (.pr (.o 5 tFact) (.pr (.d 8 I) (.pr (.bx 9 tRole) (.d 10 I)))))),(.pr (.d 0 (.sl tFact)) (.pr (.ip 3 tCred) (.pr (.o 5 tFact) (.d 8 I)))),fun {Ω} kx kr => iter (B_f35_L5 N kx kr) N⟩] : List (LC (DenR (.t (.sl tFact)))))) (by kernel_rfl) mixed ⟨c_f33 N,⟨c_f40 N,⟨c_f39 N,trivial⟩⟩⟩ (by kernel_rfl)
  ⟨LoopEq.mk N (fun Ω kx kr => B_f35_L1 N kx kr) (fun Ω g kx kr s => by kernel_rfl),⟨LoopEq.mk N (fun Ω kx kr => B_f35_L3 N kx kr) (fun Ω g kx kr s => by kernel_rfl),⟨LoopEq.mk N (fun Ω kx kr => B_f35_L5 N kx kr) (fun Ω g kx kr s => by kernel_rfl),trivial⟩⟩⟩ (by kernel_rfl) (fun a => by kernel_rfl)
def B_f34_L2 (N : Nat) {Ω : Type} (kx : DenS (.pr (.d 0 (.sl tCred)) (.pr (.o 3 tFact) (.d 4 .bl))) → Option Ω) (kr : (List (Den tFact)) → Option Ω) (rec_ : DenS (.pr (.d 0 (.sl tCred)) (.pr (.o 3 tFact) (.pr (.d 4 .bl) (.d 5 I)))) → Option Ω) : DenS (.pr (.d 0 (.sl tCred)) (.pr (.o 3 tFact) (.pr (.d 4 .bl) (.d 5 I)))) → Option Ω := fun (s0,s3,s4,s5) =>
 (bif (decide (s5 < (s0.length : Int))) then (bif (decide (0 ≤ s5) && decide (s5 < s0.length)) then (x_f35 N s3 (s0.getD s5.toNat (dft tCred))).bind fun r1 => (bif (decide ((s3.length : Int) < (r1.length : Int))) then rec_ (s0,r1,true,(wrap64 (s5 + (1:Int)))) else rec_ (s0,r1,s4,(wrap64 (s5 + (1:Int))))) else none) else kx (s0,s3,s4))
def B_f34_L0 (N : Nat) {Ω : Type} (kx : DenS (.o 3 tFact) → Option Ω) (kr : (List (Den tFact)) → Option Ω) (rec_ : DenS (.pr (.d 0 (.sl tCred)) (.pr (.o 3 tFact) (.d 4 .bl))) → Option Ω) : DenS (.pr (.d 0 (.sl tCred)) (.pr (.o 3 tFact) (.d 4 .bl))) → Option Ω := fun (s0,s3,s4) =>
 (bif s4 then iter (B_f34_L2 N (fun (x2,x3,x4) => rec_ (x2,x3,x4)) (fun ρ5 => kr (ρ5))) N (s0,s3,false,(0:Int)) else kx s3)
def x_f34 (N : Nat) (a0 : (List (Den tCred))) : Option (List (Den tFact)) :=
 iter (B_f34_L0 N (fun x6 => some x6) (fun ρ7 => some (ρ7))) N (a0,[],true)
abbrev ct_f34 (N : Nat) : CT := ⟨48,(.d (.sl tCred)),(.t (.sl tFact)),fun a => x_f34 N a⟩
theorem c_f34 (N : Nat) : CTok Try.prog (ct_f34 N) :=
 CT_ok (Γ := [.c (ct_f35 N)]) (Θ := [(7,tFact)]) (Λ := ([⟨0,0,(.pr (.d 0 (.sl tCred)) (.pr (.o 3 tFact) (.d 4 .bl))),(.o 3 tFact),fun {Ω} kx kr => iter (B_f34_L0 N kx kr) N⟩,⟨2,0,(.pr (.d 0 (.sl tCred)) (.pr (.o 3 tFact) (.pr (.d 4 .bl) (.d 5 I)))),(.pr (.d 0 (.sl tCred)) (.pr (.o 3 tFact) (.d 4 .bl))),fun {Ω} kx kr => iter (B_f34_L2 N kx kr) N⟩] : List (LC (DenR (.t (.sl tFact)))))) (by kernel_rfl) mixed ⟨c_f35 N,trivial⟩ (by kernel_rfl)
  ⟨LoopEq.mk N (fun Ω kx kr => B_f34_L0 N kx kr) (fun Ω g kx kr s => by kernel_rfl),⟨LoopEq.mk N (fun Ω kx kr => B_f34_L2 N kx kr) (fun Ω g kx kr s => by kernel_rfl),trivial⟩⟩ (by kernel_rfl) (fun a => by kernel_rfl)
def B_f41_L0 (N : Nat) {Ω : Type} (kx : DenS (.pr (.mo 0 tRole) (.ip 3 tRole)) → Option Ω) (kr : ((List (Den tRole)) × DenW (.pr (.mo 0 tRole) (.d 1 tRole))) → Option Ω) (rec_ : DenS (.pr (.mo 0 tRole) (.pr (.ip 3 tRole) (.d 5 I))) → Option Ω) : DenS (.pr (.mo 0 tRole) (.pr (.ip 3 tRole) (.d 5 I))) → Option Ω := fun (s0,s3,s5) =>
 (bif (decide (s5 < (s0.length : Int))) then (bif (decide (0 ≤ s5) && decide (s5 < s0.length)) then (bif (decide (((s0.getD s5.toNat (dft tRole)).1) = s3.1) && decide (((s0.getD s5.toNat (dft tRole)).2) = s3.2)) then kr (s0,(),()) else rec_ (s0,s3,(wrap64 (s5 + (1:Int))))) else none) else kx (s0,s3))
def x_f41 (N : Nat) (a0 : (List (Den tRole))) (a1 : (Den tRole)) : Option ((List (Den tRole)) × DenW (.pr (.mo 0 tRole) (.d 1 tRole))) :=
 (iter (B_f41_L0 N (fun (x1,x2) => (bif (decide ((16:Int) ≤ (x1.length : Int))) then some (x1,(),()) else (bif (decide ((x1.length + [x2].length) * 16 ≤ 140737488355328)) then some ((x1 ++ [x2]),(),()) else none))) (fun ρ3 => some (ρ3))) N (a0,a1,(0:Int))).bind fun r => bif (true && true) then some r else none
abbrev cm_f41 (N : Nat) : CM := ⟨105,(.pr (.mo 0 tRole) (.d 1 tRole)),(.t (.sl tRole)),fun a => x_f41 N a.1 a.2⟩
theorem c_f41 (N : Nat) : CMok Try.prog (cm_f41 N) :=
 CM_ok (Γ := []) (Θ := [(25,tRole)]) (Λ := ([⟨0,1,(.pr (.mo 0 tRole) (.pr (.ip 3 tRole) (.d 5 I))),(.pr (.mo 0 tRole) (.ip 3 tRole)),fun {Ω} kx kr => iter (B_f41_L0 N kx kr) N⟩] : List (LC (DenR (.t (.sl tRole)) × DenW (.pr (.mo 0 tRole) (.d 1 tRole)))))) (by kernel_rfl) mixed trivial (by kernel_rfl)
  ⟨LoopEq.mk N (fun Ω kx kr => B_f41_L0 N kx kr) (fun Ω g kx kr s => by kernel_rfl),trivial⟩ (by kernel_rfl) (fun a => by kernel_rfl)
def B_f37_L4 (N : Nat) {Ω : Type} (kx : DenS (.pr (.d 0 (.sl tCred)) (.pr (.o 5 tRole) (.pr (.d 6 (.sl tFact)) (.pr (.d 7 I) (.d 8 I))))) → Option Ω) (kr : (List (Den tRole)) → Option Ω) (rec_ : DenS (.pr (.d 0 (.sl tCred)) (.pr (.o 5 tRole) (.pr (.d 6 (.sl tFact)) (.pr (.d 7 I) (.pr (.d 8 I) (.pr (.bx 9 tCred) (.d 10 I))))))) → Option Ω) : DenS (.pr (.d 0 (.sl tCred)) (.pr (.o 5 tRole) (.pr (.d 6 (.sl tFact)) (.pr (.d 7 I) (.pr (.d 8 I) (.pr (.bx 9 tCred) (.d 10 I))))))) → Option Ω := fun (s0,s5,s6,s7,s8,s9,s10) =>
 (bif (decide (s10 < (6:Int))) then (bif (decide (s9.1 = (3:Int))) then (x_f39 N s6 (s9.2.2.2.1,s10)).bind fun r5 => (bif r5 then (x_f41 N s5 (s10,s9.2.2.2.2.1.2)).bind fun r6 => rec_ (s0,r6.1,s6,s7,s8,s9,(wrap64 (s10 + (1:Int)))) else rec_ (s0,s5,s6,s7,s8,s9,(wrap64 (s10 + (1:Int))))) else kx (s0,s5,s6,s7,s8)) else kx (s0,s5,s6,s7,s8))
def B_f37_L2 (N : Nat) {Ω : Type} (kx : DenS (.pr (.d 0 (.sl tCred)) (.pr (.o 5 tRole) (.pr (.d 6 (.sl tFact)) (.d 7 I)))) → Option Ω) (kr : (List (Den tRole)) → Option Ω) (rec_ : DenS (.pr (.d 0 (.sl tCred)) (.pr (.o 5 tRole) (.pr (.d 6 (.sl tFact)) (.pr (.d 7 I) (.d 8 I))))) → Option Ω) : DenS (.pr (.d 0 (.sl tCred)) (.pr (.o 5 tRole) (.pr (.d 6 (.sl tFact)) (.pr (.d 7 I) (.d 8 I))))) → Option Ω := fun (s0,s5,s6,s7,s8) =>
 (bif (decide (s8 < (s0.length : Int))) then (bif (decide (0 ≤ s8) && decide (s8 < s0.length)) then (bif (decide (0 ≤ s7) && decide (s7 < s5.length)) then (bif (!(decide (((((s0.getD s8.toNat (dft tCred)).2).1).1) = ((s5.getD s7.toNat (dft tRole)).1)) && decide (((((s0.getD s8.toNat (dft tCred)).2).1).2) = ((s5.getD s7.toNat (dft tRole)).2)))) then rec_ (s0,s5,s6,s7,(wrap64 (s8 + (1:Int)))) else (x_f33 N ((s0.getD s8.toNat (dft tCred)).1,((((s0.getD s8.toNat (dft tCred)).2).1).1,(((s0.getD s8.toNat (dft tCred)).2).1).2),(((s0.getD s8.toNat (dft tCred)).2).2).1,((((((s0.getD s8.toNat (dft tCred)).2).2).2).1).1,(((((s0.getD s8.toNat (dft tCred)).2).2).2).1).2),(((((((s0.getD s8.toNat (dft tCred)).2).2).2).2).1).1,((((((s0.getD s8.toNat (dft tCred)).2).2).2).2).1).2),((((((s0.getD s8.toNat (dft tCred)).2).2).2).2).2).1,((((((s0.getD s8.toNat (dft tCred)).2).2).2).2).2).2)).bind fun r2 => (bif (!r2) then rec_ (s0,s5,s6,s7,(wrap64 (s8 + (1:Int)))) else (bif (decide (((s0.getD s8.toNat (dft tCred)).1) = (1:Int))) then rec_ (s0,s5,s6,s7,(wrap64 (s8 + (1:Int)))) else (x_f41 N s5 ((((((s0.getD s8.toNat (dft tCred)).2).2).2).1).1,(((((s0.getD s8.toNat (dft tCred)).2).2).2).1).2)).bind fun r3 => (bif (decide (((s0.getD s8.toNat (dft tCred)).1) = (4:Int))) then (x_f41 N r3.1 (((((((s0.getD s8.toNat (dft tCred)).2).2).2).2).1).1,((((((s0.getD s8.toNat (dft tCred)).2).2).2).2).1).2)).bind fun r4 => iter (B_f37_L4 N (fun (x7,x8,x9,x10,x11) => rec_ (x7,x8,x9,x10,(wrap64 (x11 + (1:Int))))) (fun ρ12 => kr (ρ12))) N (s0,r4.1,s6,s7,s8,((s0.getD s8.toNat (dft tCred)).1,((((s0.getD s8.toNat (dft tCred)).2).1).1,(((s0.getD s8.toNat (dft tCred)).2).1).2),(((s0.getD s8.toNat (dft tCred)).2).2).1,((((((s0.getD s8.toNat (dft tCred)).2).2).2).1).1,(((((s0.getD s8.toNat (dft tCred)).2).2).2).1).2),(((((((s0.getD s8.toNat (dft tCred)).2).2).2).2).1).1,((((((s0.getD s8.toNat (dft tCred)).2).2).2).2).1).2),((((((s0.getD s8.toNat (dft tCred)).2).2).2).2).2).1,((((((s0.getD s8.toNat (dft tCred)).2).2).2).2).2).2),(0:Int)) else iter (B_f37_L4 N (fun (x13,x14,x15,x16,x17) => rec_ (x13,x14,x15,x16,(wrap64 (x17 + (1:Int))))) (fun ρ18 => kr (ρ18))) N (s0,r3.1,s6,s7,s8,((s0.getD s8.toNat (dft tCred)).1,((((s0.getD s8.toNat (dft tCred)).2).1).1,(((s0.getD s8.toNat (dft tCred)).2).1).2),(((s0.getD s8.toNat (dft tCred)).2).2).1,((((((s0.getD s8.toNat (dft tCred)).2).2).2).1).1,(((((s0.getD s8.toNat (dft tCred)).2).2).2).1).2),(((((((s0.getD s8.toNat (dft tCred)).2).2).2).2).1).1,((((((s0.getD s8.toNat (dft tCred)).2).2).2).2).1).2),((((((s0.getD s8.toNat (dft tCred)).2).2).2).2).2).1,((((((s0.getD s8.toNat (dft tCred)).2).2).2).2).2).2),(0:Int)))))) else none) else none) else kx (s0,s5,s6,s7))
def B_f37_L0 (N : Nat) {Ω : Type} (kx : DenS (.o 5 tRole) → Option Ω) (kr : (List (Den tRole)) → Option Ω) (rec_ : DenS (.pr (.d 0 (.sl tCred)) (.pr (.o 5 tRole) (.pr (.d 6 (.sl tFact)) (.d 7 I)))) → Option Ω) : DenS (.pr (.d 0 (.sl tCred)) (.pr (.o 5 tRole) (.pr (.d 6 (.sl tFact)) (.d 7 I)))) → Option Ω := fun (s0,s5,s6,s7) =>
 (bif (decide (s7 < (s5.length : Int))) then iter (B_f37_L2 N (fun (x19,x20,x21,x22) => rec_ (x19,x20,x21,(wrap64 (x22 + (1:Int))))) (fun ρ23 => kr (ρ23))) N (s0,s5,s6,s7,(0:Int)) else kx s5)
def x_f37 (N : Nat) (a0 : (List (Den tCred))) (a1 : (Den tRole)) : Option (List (Den tRole)) :=
 (x_f34 N a0).bind fun r1 => iter (B_f37_L0 N (fun x24 => some x24) (fun ρ25 => some (ρ25))) N (a0,[a1],r1,(0:Int))
abbrev ct_f37 (N : Nat) : CT := ⟨33,(.pr (.d (.sl tCred)) (.d tRole)),(.t (.sl tRole)),fun a => x_f37 N a.1 a.2⟩
theorem c_f37 (N : Nat) : CTok Try.prog (ct_f37 N) :=
 CT_ok (Γ := [.c (ct_f34 N),.c (ct_f33 N),.m (cm_f41 N),.c (ct_f39 N)]) (Θ := [(12,tRole)]) (Λ := ([⟨0,0,(.pr (.d 0 (.sl tCred)) (.pr (.o 5 tRole) (.pr (.d 6 (.sl tFact)) (.d 7 I)))),(.o 5 tRole),fun {Ω} kx kr => iter (B_f37_L0 N kx kr) N⟩,⟨2,0,(.pr (.d 0 (.sl tCred)) (.pr (.o 5 tRole) (.pr (.d 6 (.sl tFact)) (.pr (.d 7 I) (.d 8 I))))),(.pr (.d 0 (.sl tCred)) (.pr (.o 5 tRole) (.pr (.d 6 (.sl tFact)) (.d 7 I)))),fun {Ω} kx kr => iter (B_f37_L2 N kx kr) N⟩,⟨4,0,(.pr (.d 0 (.sl tCred)) (.pr (.o 5 tRole) (.pr (.d 6 (.sl tFact)) (.pr (.d 7 I) (.pr (.d 8 I) (.pr (.bx 9 tCred) (.d 10 I))))))),(.pr (.d 0 (.sl tCred)) (.pr (.o 5 tRole) (.pr (.d 6 (.sl tFact)) (.pr (.d 7 I) (.d 8 I))))),fun {Ω} kx kr => iter (B_f37_L4 N kx kr) N⟩] : List (LC (DenR (.t (.sl tRole)))))) (by kernel_rfl) mixed ⟨c_f34 N,⟨c_f33 N,⟨c_f41 N,⟨c_f39 N,trivial⟩⟩⟩⟩ (by kernel_rfl)
  ⟨LoopEq.mk N (fun Ω kx kr => B_f37_L0 N kx kr) (fun Ω g kx kr s => by kernel_rfl),⟨LoopEq.mk N (fun Ω kx kr => B_f37_L2 N kx kr) (fun Ω g kx kr s => by kernel_rfl),⟨LoopEq.mk N (fun Ω kx kr => B_f37_L4 N kx kr) (fun Ω g kx kr s => by kernel_rfl),trivial⟩⟩⟩ (by kernel_rfl) (fun a => by kernel_rfl)
def x_f11 (N : Nat) (a0 : Int) (a1 : Int) (a2 : Int) : Option Bool :=
 (bif (decide (a1 ≤ a0)) then some (decide (a0 ≤ a2)) else some false)
abbrev ct_f11 (N : Nat) : CT := ⟨121,(.pr (.d I) (.pr (.d I) (.d I))),(.t .bl),fun a => x_f11 N a.1 a.2.1 a.2.2⟩
theorem c_f11 (N : Nat) : CTok Try.prog (ct_f11 N) :=
 CT_ok (Γ := []) (Θ := []) (Λ := ([] : List (LC (DenR (.t .bl))))) (by kernel_rfl) mixed trivial (by kernel_rfl)
  trivial (by kernel_rfl) (fun a => by kernel_rfl)
def x_f5 (N : Nat) (a0 : (Den tRole)) : Option Bool :=
 (x_f11 N a0.1 (0:Int) (5:Int)).bind fun r1 => (bif r1 then (x_f11 N a0.2 (0:Int) (3:Int)).bind fun r2 => some r2 else some false)
abbrev ct_f5 (N : Nat) : CT := ⟨151,(.d tRole),(.t .bl),fun a => x_f5 N a⟩
theorem c_f5 (N : Nat) : CTok Try.prog (ct_f5 N) :=
 CT_ok (Γ := [.c (ct_f11 N)]) (Θ := []) (Λ := ([] : List (LC (DenR (.t .bl))))) (by kernel_rfl) mixed ⟨c_f11 N,trivial⟩ (by kernel_rfl)
  trivial (by kernel_rfl) (fun a => by kernel_rfl)
def x_f12 (N : Nat) (a0 : Int) : Option Bool :=
 (x_f11 N a0 (0:Int) (5:Int)).bind fun r1 => some r1
abbrev ct_f12 (N : Nat) : CT := ⟨152,(.d I),(.t .bl),fun a => x_f12 N a⟩
theorem c_f12 (N : Nat) : CTok Try.prog (ct_f12 N) :=
 CT_ok (Γ := [.c (ct_f11 N)]) (Θ := []) (Λ := ([] : List (LC (DenR (.t .bl))))) (by kernel_rfl) mixed ⟨c_f11 N,trivial⟩ (by kernel_rfl)
  trivial (by kernel_rfl) (fun a => by kernel_rfl)
def x_f2 (N : Nat) (a0 : (Den tCred)) : Option Bool :=
 (x_f5 N a0.2.1).bind fun r1 => (bif (!r1) then some false else (x_f11 N a0.2.2.2.2.2.1 (1:Int) (9999:Int)).bind fun r2 => (bif (!r2) then some false else (x_f11 N a0.2.2.2.2.2.2 (0:Int) (99:Int)).bind fun r3 => (bif (!r3) then some false else (bif (decide (a0.1 = (1:Int))) then (x_f12 N a0.2.2.1).bind fun r4 => (bif r4 then (bif (decide (a0.2.2.2.1.1 = (0:Int)) && decide (a0.2.2.2.1.2 = (0:Int))) then some (decide (a0.2.2.2.2.1.1 = (0:Int)) && decide (a0.2.2.2.2.1.2 = (0:Int))) else some false) else some false) else (bif (decide (a0.1 = (2:Int))) then (bif (decide (a0.2.2.1 = (0:Int))) then (x_f5 N a0.2.2.2.1).bind fun r5 => (bif r5 then some (decide (a0.2.2.2.2.1.1 = (0:Int)) && decide (a0.2.2.2.2.1.2 = (0:Int))) else some false) else some false) else (bif (decide (a0.1 = (3:Int))) then (bif (decide (a0.2.2.1 = (0:Int))) then (x_f5 N a0.2.2.2.1).bind fun r6 => (bif r6 then (x_f5 N a0.2.2.2.2.1).bind fun r7 => (bif r7 then some (decide (a0.2.2.2.2.1.1 = (0:Int))) else some false) else some false) else some false) else (bif (decide (a0.1 = (4:Int))) then (bif (decide (a0.2.2.1 = (0:Int))) then (x_f5 N a0.2.2.2.1).bind fun r8 => (bif r8 then (x_f5 N a0.2.2.2.2.1).bind fun r9 => some r9 else some false) else some false) else some false)))))))
abbrev ct_f2 (N : Nat) : CT := ⟨108,(.d tCred),(.t .bl),fun a => x_f2 N a⟩
theorem c_f2 (N : Nat) : CTok Try.prog (ct_f2 N) :=
 CT_ok (Γ := [.c (ct_f5 N),.c (ct_f11 N),.c (ct_f12 N)]) (Θ := []) (Λ := ([] : List (LC (DenR (.t .bl))))) (by kernel_rfl) mixed ⟨c_f5 N,⟨c_f11 N,⟨c_f12 N,trivial⟩⟩⟩ (by kernel_rfl)
  trivial (by kernel_rfl) (fun a => by kernel_rfl)
def x_f26 (N : Nat) (a0 : (List (Den tFact))) : Option (List (Den tFact)) :=
 (bif (decide (a0.length = 0)) then agree (some []) ((bif (decide ((([] : List (Den tFact)).length + a0.length) * 24 ≤ 140737488355328)) then some (([] : List (Den tFact)) ++ a0) else none)) else (bif (decide ((([] : List (Den tFact)).length + a0.length) * 24 ≤ 140737488355328)) then some (([] : List (Den tFact)) ++ a0) else none))
abbrev ct_f26 (N : Nat) : CT := ⟨157,(.d (.sl tFact)),(.t (.sl tFact)),fun a => x_f26 N a⟩
theorem c_f26 (N : Nat) : CTok Try.prog (ct_f26 N) :=
 CT_ok (Γ := []) (Θ := [(5,tFact)]) (Λ := ([] : List (LC (DenR (.t (.sl tFact)))))) (by kernel_rfl) mixed trivial (by kernel_rfl)
  trivial (by kernel_rfl) (fun a => by kernel_rfl)
def x_f8 (N : Nat) (a0 : Int) (a1 : (List Int)) (a2 : (List (Den tDerived))) (a3 : (Den tCred)) : Option (Unit × DenW (.pr (.d 0 I) (.pr (.mo 1 I) (.pr (.bx 2 (.sl tDerived)) (.ip 3 tCred))))) :=
 ((bif (decide ((a2.length + [((a3.2.1,a0),a1)].length) * 48 ≤ 140737488355328)) then some ((),(),(),(a2 ++ [((a3.2.1,a0),a1)]),()) else none)).bind fun r => bif (true && (true && (true && true))) then some r else none
abbrev cm_f8 (N : Nat) : CM := ⟨175,(.pr (.d 0 I) (.pr (.mo 1 I) (.pr (.bx 2 (.sl tDerived)) (.ip 3 tCred)))),.un,fun a => x_f8 N a.1 a.2.1 a.2.2.1 a.2.2.2⟩
theorem c_f8 (N : Nat) : CMok Try.prog (cm_f8 N) :=
 CM_ok (Γ := []) (Θ := [(13,tDerived)]) (Λ := ([] : List (LC (DenR .un × DenW (.pr (.d 0 I) (.pr (.mo 1 I) (.pr (.bx 2 (.sl tDerived)) (.ip 3 tCred)))))))) (by kernel_rfl) mixed trivial (by kernel_rfl)
  trivial (by kernel_rfl) (fun a => by kernel_rfl)
def x_f9 (N : Nat) (a0 : (Den tFact)) : Option Bool :=
 (x_f5 N a0.1).bind fun r1 => (bif r1 then (x_f12 N a0.2).bind fun r2 => some r2 else some false)
abbrev ct_f9 (N : Nat) : CT := ⟨192,(.d tFact),(.t .bl),fun a => x_f9 N a⟩
theorem c_f9 (N : Nat) : CTok Try.prog (ct_f9 N) :=
 CT_ok (Γ := [.c (ct_f5 N),.c (ct_f12 N)]) (Θ := []) (Λ := ([] : List (LC (DenR (.t .bl))))) (by kernel_rfl) mixed ⟨c_f5 N,⟨c_f12 N,trivial⟩⟩ (by kernel_rfl)
  trivial (by kernel_rfl) (fun a => by kernel_rfl)
def B_f14_L0 (N : Nat) {Ω : Type} (kx : DenS (.o 5 I) → Option Ω) (kr : (List Int) → Option Ω) (rec_ : DenS (.pr (.ip 3 tRole) (.pr (.o 5 I) (.pr (.d 9 (.sl tFact)) (.pr (.d 10 I) (.d 11 I))))) → Option Ω) : DenS (.pr (.ip 3 tRole) (.pr (.o 5 I) (.pr (.d 9 (.sl tFact)) (.pr (.d 10 I) (.d 11 I))))) → Option Ω := fun (s3,s5,s9,s10,s11) =>
 (bif (decide (s11 < s10)) then (bif (decide (0 ≤ s11) && decide (s11 < s9.length)) then (bif (decide ((((s9.getD s11.toNat (dft tFact)).1).1) = s3.1) && decide ((((s9.getD s11.toNat (dft tFact)).1).2) = s3.2)) then (x_f9 N ((((s9.getD s11.toNat (dft tFact)).1).1,((s9.getD s11.toNat (dft tFact)).1).2),(s9.getD s11.toNat (dft tFact)).2)).bind fun r1 => (bif r1 then (bif (decide ((s5.length + [s11].length) * 8 ≤ 140737488355328)) then rec_ (s3,(s5 ++ [s11]),s9,s10,(wrap64 (s11 + (1:Int)))) else none) else rec_ (s3,s5,s9,s10,(wrap64 (s11 + (1:Int))))) else rec_ (s3,s5,s9,s10,(wrap64 (s11 + (1:Int))))) else none) else kx s5)
def x_f14 (N : Nat) (a0 : (List (Den tFact))) (a1 : (Den tRole)) : Option (List Int) :=
 iter (B_f14_L0 N (fun x2 => some x2) (fun ρ3 => some (ρ3))) N (a1,[],a0,(a0.length : Int),(0:Int))
abbrev ct_f14 (N : Nat) : CT := ⟨176,(.pr (.d (.sl tFact)) (.d tRole)),(.t (.sl I)),fun a => x_f14 N a.1 a.2⟩
theorem c_f14 (N : Nat) : CTok Try.prog (ct_f14 N) :=
 CT_ok (Γ := [.c (ct_f9 N)]) (Θ := [(8,I),(26,I)]) (Λ := ([⟨0,0,(.pr (.ip 3 tRole) (.pr (.o 5 I) (.pr (.d 9 (.sl tFact)) (.pr (.d 10 I) (.d 11 I))))),(.o 5 I),fun {Ω} kx kr => iter (B_f14_L0 N kx kr) N⟩] : List (LC (DenR (.t (.sl I)))))) (by kernel_rfl) mixed ⟨c_f9 N,trivial⟩ (by kernel_rfl)
  ⟨LoopEq.mk N (fun Ω kx kr => B_f14_L0 N kx kr) (fun Ω g kx kr s => by kernel_rfl),trivial⟩ (by kernel_rfl) (fun a => by kernel_rfl)
def B_f29_L0 (N : Nat) {Ω : Type} (kx : DenS .un → Option Ω) (kr : Int → Option Ω) (rec_ : DenS (.pr (.d 0 (.sl tFact)) (.pr (.ip 3 tFact) (.pr (.d 7 I) (.d 8 I)))) → Option Ω) : DenS (.pr (.d 0 (.sl tFact)) (.pr (.ip 3 tFact) (.pr (.d 7 I) (.d 8 I)))) → Option Ω := fun (s0,s3,s7,s8) =>
 (bif (decide (s8 < s7)) then (bif (decide (0 ≤ s8) && decide (s8 < s0.length)) then (bif (decide (s3.1.1 = (((s0.getD s8.toNat (dft tFact)).1).1)) && (decide (s3.1.2 = (((s0.getD s8.toNat (dft tFact)).1).2)) && decide (s3.2 = ((s0.getD s8.toNat (dft tFact)).2)))) then kr s8 else rec_ (s0,s3,s7,(wrap64 (s8 + (1:Int))))) else none) else kx ())
def x_f29 (N : Nat) (a0 : (List (Den tFact))) (a1 : (Den tFact)) : Option Int :=
 iter (B_f29_L0 N (fun _ => some (-1:Int)) (fun ρ1 => some (ρ1))) N (a0,a1,(a0.length : Int),(0:Int))
abbrev ct_f29 (N : Nat) : CT := ⟨177,(.pr (.d (.sl tFact)) (.d tFact)),(.t I),fun a => x_f29 N a.1 a.2⟩
theorem c_f29 (N : Nat) : CTok Try.prog (ct_f29 N) :=
 CT_ok (Γ := []) (Θ := []) (Λ := ([⟨0,0,(.pr (.d 0 (.sl tFact)) (.pr (.ip 3 tFact) (.pr (.d 7 I) (.d 8 I)))),.un,fun {Ω} kx kr => iter (B_f29_L0 N kx kr) N⟩] : List (LC (DenR (.t I))))) (by kernel_rfl) mixed trivial (by kernel_rfl)
  ⟨LoopEq.mk N (fun Ω kx kr => B_f29_L0 N kx kr) (fun Ω g kx kr s => by kernel_rfl),trivial⟩ (by kernel_rfl) (fun a => by kernel_rfl)
def B_f7_L1 (N : Nat) {Ω : Type} (kx : DenS (.bx 5 (.sl tDerived)) → Option Ω) (kr : (List (Den tDerived)) → Option Ω) (rec_ : DenS (.pr (.d 0 (.sl tFact)) (.pr (.bx 3 tCred) (.pr (.bx 5 (.sl tDerived)) (.pr (.al 6 175 [5,3]) (.pr (.o 31 I) (.pr (.d 32 I) (.d 33 I))))))) → Option Ω) : DenS (.pr (.d 0 (.sl tFact)) (.pr (.bx 3 tCred) (.pr (.bx 5 (.sl tDerived)) (.pr (.al 6 175 [5,3]) (.pr (.o 31 I) (.pr (.d 32 I) (.d 33 I))))))) → Option Ω := fun (s0,s3,s5,s6,s31,s32,s33) =>
 (bif (decide (s33 < s32)) then (bif (decide (0 ≤ s33) && decide (s33 < s31.length)) then (bif (decide (0 ≤ (s31.getD s33.toNat (0:Int))) && decide ((s31.getD s33.toNat (0:Int)) < s0.length)) then (x_f8 N ((s0.getD (s31.getD s33.toNat (0:Int)).toNat (dft tFact)).2) [(s31.getD s33.toNat (0:Int))] s5 s3).bind fun r3 => rec_ (s0,s3,r3.2.2.2.1,(),s31,s32,(wrap64 (s33 + (1:Int)))) else none) else none) else kx s5)
def B_f7_L5 (N : Nat) {Ω : Type} (kx : DenS (.pr (.d 0 (.sl tFact)) (.pr (.bx 3 tCred) (.pr (.bx 5 (.sl tDerived)) (.pr (.al 6 175 [5,3]) (.pr (.o 52 I) (.pr (.d 53 I) (.d 54 I))))))) → Option Ω) (kr : (List (Den tDerived)) → Option Ω) (rec_ : DenS (.pr (.d 0 (.sl tFact)) (.pr (.bx 3 tCred) (.pr (.bx 5 (.sl tDerived)) (.pr (.al 6 175 [5,3]) (.pr (.d 10 I) (.pr (.o 52 I) (.pr (.d 53 I) (.pr (.d 54 I) (.pr (.o 68 I) (.pr (.d 69 I) (.d 70 I))))))))))) → Option Ω) : DenS (.pr (.d 0 (.sl tFact)) (.pr (.bx 3 tCred) (.pr (.bx 5 (.sl tDerived)) (.pr (.al 6 175 [5,3]) (.pr (.d 10 I) (.pr (.o 52 I) (.pr (.d 53 I) (.pr (.d 54 I) (.pr (.o 68 I) (.pr (.d 69 I) (.d 70 I))))))))))) → Option Ω := fun (s0,s3,s5,s6,s10,s52,s53,s54,s68,s69,s70) =>
 (bif (decide (s70 < s69)) then (bif (decide (0 ≤ s70) && decide (s70 < s68.length)) then (bif (decide (0 ≤ (s68.getD s70.toNat (0:Int))) && decide ((s68.getD s70.toNat (0:Int)) < s0.length)) then (x_f8 N ((s0.getD (s68.getD s70.toNat (0:Int)).toNat (dft tFact)).2) [s10,(s68.getD s70.toNat (0:Int))] s5 s3).bind fun r8 => rec_ (s0,s3,r8.2.2.2.1,(),s10,s52,s53,s54,s68,s69,(wrap64 (s70 + (1:Int)))) else none) else none) else kx (s0,s3,s5,(),s52,s53,s54))
def B_f7_L3 (N : Nat) {Ω : Type} (kx : DenS (.bx 5 (.sl tDerived)) → Option Ω) (kr : (List (Den tDerived)) → Option Ω) (rec_ : DenS (.pr (.d 0 (.sl tFact)) (.pr (.bx 3 tCred) (.pr (.bx 5 (.sl tDerived)) (.pr (.al 6 175 [5,3]) (.pr (.o 52 I) (.pr (.d 53 I) (.d 54 I))))))) → Option Ω) : DenS (.pr (.d 0 (.sl tFact)) (.pr (.bx 3 tCred) (.pr (.bx 5 (.sl tDerived)) (.pr (.al 6 175 [5,3]) (.pr (.o 52 I) (.pr (.d 53 I) (.d 54 I))))))) → Option Ω := fun (s0,s3,s5,s6,s52,s53,s54) =>
 (bif (decide (s54 < s53)) then (bif (decide (0 ≤ s54) && decide (s54 < s52.length)) then (bif (decide (0 ≤ (s52.getD s54.toNat (0:Int))) && decide ((s52.getD s54.toNat (0:Int)) < s0.length)) then (x_f14 N s0 ((s0.getD (s52.getD s54.toNat (0:Int)).toNat (dft tFact)).2,s3.2.2.2.2.1.2)).bind fun r7 => iter (B_f7_L5 N (fun (x9,x10,x11,x12,x13,x14,x15) => rec_ (x9,x10,x11,(),x13,x14,(wrap64 (x15 + (1:Int))))) (fun ρ16 => kr (ρ16))) N (s0,s3,s5,(),(s52.getD s54.toNat (0:Int)),s52,s53,s54,r7,(r7.length : Int),(0:Int)) else none) else none) else kx s5)
def B_f7_L7 (N : Nat) {Ω : Type} (kx : DenS (.bx 5 (.sl tDerived)) → Option Ω) (kr : (List (Den tDerived)) → Option Ω) (rec_ : DenS (.pr (.d 0 (.sl tFact)) (.pr (.bx 3 tCred) (.pr (.bx 5 (.sl tDerived)) (.pr (.al 6 175 [5,3]) (.pr (.o 91 I) (.pr (.d 92 I) (.d 93 I))))))) → Option Ω) : DenS (.pr (.d 0 (.sl tFact)) (.pr (.bx 3 tCred) (.pr (.bx 5 (.sl tDerived)) (.pr (.al 6 175 [5,3]) (.pr (.o 91 I) (.pr (.d 92 I) (.d 93 I))))))) → Option Ω := fun (s0,s3,s5,s6,s91,s92,s93) =>
 (bif (decide (s93 < s92)) then (bif (decide (0 ≤ s93) && decide (s93 < s91.length)) then (bif (decide (0 ≤ (s91.getD s93.toNat (0:Int))) && decide ((s91.getD s93.toNat (0:Int)) < s0.length)) then (x_f29 N s0 (s3.2.2.2.2.1,(s0.getD (s91.getD s93.toNat (0:Int)).toNat (dft tFact)).2)).bind fun r20 => (bif (decide ((0:Int) ≤ r20)) then (bif (decide (0 ≤ (s91.getD s93.toNat (0:Int))) && decide ((s91.getD s93.toNat (0:Int)) < s0.length)) then (x_f8 N ((s0.getD (s91.getD s93.toNat (0:Int)).toNat (dft tFact)).2) [(s91.getD s93.toNat (0:Int)),r20] s5 s3).bind fun r21 => rec_ (s0,s3,r21.2.2.2.1,(),s91,s92,(wrap64 (s93 + (1:Int)))) else none) else rec_ (s0,s3,s5,(),s91,s92,(wrap64 (s93 + (1:Int))))) else none) else none) else kx s5)
def x_f7 (N : Nat) (a0 : (List (Den tFact))) (a1 : (Den tCred)) : Option (List (Den tDerived)) :=
 (bif (decide (a1.1 = (1:Int))) then (x_f8 N a1.2.2.1 [] [] a1).bind fun r1 => some r1.2.2.2.1 else (bif (decide (a1.1 = (2:Int))) then (x_f14 N a0 a1.2.2.2.1).bind fun r2 => iter (B_f7_L1 N (fun x4 => some x4) (fun ρ5 => some (ρ5))) N (a0,a1,[],(),r2,(r2.length : Int),(0:Int)) else (bif (decide (a1.1 = (3:Int))) then (x_f14 N a0 a1.2.2.2.1).bind fun r6 => iter (B_f7_L3 N (fun x17 => some x17) (fun ρ18 => some (ρ18))) N (a0,a1,[],(),r6,(r6.length : Int),(0:Int)) else (bif (decide (a1.1 = (4:Int))) then (x_f14 N a0 a1.2.2.2.1).bind fun r19 => iter (B_f7_L7 N (fun x22 => some x22) (fun ρ23 => some (ρ23))) N (a0,a1,[],(),r19,(r19.length : Int),(0:Int)) else some []))))
abbrev ct_f7 (N : Nat) : CT := ⟨156,(.pr (.d (.sl tFact)) (.d tCred)),(.t (.sl tDerived)),fun a => x_f7 N a.1 a.2⟩
theorem c_f7 (N : Nat) : CTok Try.prog (ct_f7 N) :=
 CT_ok (Γ := [.m (cm_f8 N),.c (ct_f14 N),.c (ct_f29 N)]) (Θ := [(16,tDerived),(44,I),(82,I),(117,I)]) (Λ := ([⟨1,0,(.pr (.d 0 (.sl tFact)) (.pr (.bx 3 tCred) (.pr (.bx 5 (.sl tDerived)) (.pr (.al 6 175 [5,3]) (.pr (.o 31 I) (.pr (.d 32 I) (.d 33 I))))))),(.bx 5 (.sl tDerived)),fun {Ω} kx kr => iter (B_f7_L1 N kx kr) N⟩,⟨3,0,(.pr (.d 0 (.sl tFact)) (.pr (.bx 3 tCred) (.pr (.bx 5 (.sl tDerived)) (.pr (.al 6 175 [5,3]) (.pr (.o 52 I) (.pr (.d 53 I) (.d 54 I))))))),(.bx 5 (.sl tDerived)),fun {Ω} kx kr => iter (B_f7_L3 N kx kr) N⟩,⟨5,0,(.pr (.d 0 (.sl tFact)) (.pr (.bx 3 tCred) (.pr (.bx 5 (.sl tDerived)) (.pr (.al 6 175 [5,3]) (.pr (.d 10 I) (.pr (.o 52 I) (.pr (.d 53 I) (.pr (.d 54 I) (.pr (.o 68 I) (.pr (.d 69 I) (.d 70 I))))))))))),(.pr (.d 0 (.sl tFact)) (.pr (.bx 3 tCred) (.pr (.bx 5 (.sl tDerived)) (.pr (.al 6 175 [5,3]) (.pr (.o 52 I) (.pr (.d 53 I) (.d 54 I))))))),fun {Ω} kx kr => iter (B_f7_L5 N kx kr) N⟩,⟨7,0,(.pr (.d 0 (.sl tFact)) (.pr (.bx 3 tCred) (.pr (.bx 5 (.sl tDerived)) (.pr (.al 6 175 [5,3]) (.pr (.o 91 I) (.pr (.d 92 I) (.d 93 I))))))),(.bx 5 (.sl tDerived)),fun {Ω} kx kr => iter (B_f7_L7 N kx kr) N⟩] : List (LC (DenR (.t (.sl tDerived)))))) (by kernel_rfl) mixed ⟨c_f8 N,⟨c_f14 N,⟨c_f29 N,trivial⟩⟩⟩ (by kernel_rfl)
  ⟨LoopEq.mk N (fun Ω kx kr => B_f7_L1 N kx kr) (fun Ω g kx kr s => by kernel_rfl),⟨LoopEq.mk N (fun Ω kx kr => B_f7_L3 N kx kr) (fun Ω g kx kr s => by kernel_rfl),⟨LoopEq.mk N (fun Ω kx kr => B_f7_L5 N kx kr) (fun Ω g kx kr s => by kernel_rfl),⟨LoopEq.mk N (fun Ω kx kr => B_f7_L7 N kx kr) (fun Ω g kx kr s => by kernel_rfl),trivial⟩⟩⟩⟩ (by kernel_rfl) (fun a => by kernel_rfl)
def x_f27 (N : Nat) (a0 : (List (Den tFact))) (a1 : (Den tFact)) : Option Bool :=
 (x_f29 N a0 a1).bind fun r1 => some (decide ((0:Int) ≤ r1))
abbrev ct_f27 (N : Nat) : CT := ⟨158,(.pr (.d (.sl tFact)) (.d tFact)),(.t .bl),fun a => x_f27 N a.1 a.2⟩
theorem c_f27 (N : Nat) : CTok Try.prog (ct_f27 N) :=
 CT_ok (Γ := [.c (ct_f29 N)]) (Θ := []) (Λ := ([] : List (LC (DenR (.t .bl))))) (by kernel_rfl) mixed ⟨c_f29 N,trivial⟩ (by kernel_rfl)
  trivial (by kernel_rfl) (fun a => by kernel_rfl)
def B_f10_L4 (N : Nat) {Ω : Type} (kx : DenS (.pr (.d 0 (.sl tCred)) (.pr (.o 3 tFact) (.pr (.o 4 tFoundV) (.pr (.d 5 I) (.pr (.d 18 (.sl tCred)) (.pr (.d 19 I) (.d 20 I))))))) → Option Ω) (kr : ((List (Den tFoundV)) × DenW (.d 0 (.sl tCred))) → Option Ω) (rec_ : DenS (.pr (.d 0 (.sl tCred)) (.pr (.o 3 tFact) (.pr (.o 4 tFoundV) (.pr (.d 5 I) (.pr (.d 6 I) (.pr (.d 18 (.sl tCred)) (.pr (.d 19 I) (.pr (.d 20 I) (.pr (.d 31 (.sl tDerived)) (.pr (.d 32 I) (.d 33 I))))))))))) → Option Ω) : DenS (.pr (.d 0 (.sl tCred)) (.pr (.o 3 tFact) (.pr (.o 4 tFoundV) (.pr (.d 5 I) (.pr (.d 6 I) (.pr (.d 18 (.sl tCred)) (.pr (.d 19 I) (.pr (.d 20 I) (.pr (.d 31 (.sl tDerived)) (.pr (.d 32 I) (.d 33 I))))))))))) → Option Ω := fun (s0,s3,s4,s5,s6,s18,s19,s20,s31,s32,s33) =>
 (bif (decide (s33 < s32)) then (bif (decide (0 ≤ s33) && decide (s33 < s31.length)) then (x_f27 N s3 (((((s31.getD s33.toNat (dft tDerived)).1).1).1,(((s31.getD s33.toNat (dft tDerived)).1).1).2),((s31.getD s33.toNat (dft tDerived)).1).2)).bind fun r4 => (bif (!r4) then (bif (decide ((s3.length + [(((((s31.getD s33.toNat (dft tDerived)).1).1).1,(((s31.getD s33.toNat (dft tDerived)).1).1).2),((s31.getD s33.toNat (dft tDerived)).1).2)].length) * 24 ≤ 140737488355328)) then (bif (decide ((s4.length + [((((((s31.getD s33.toNat (dft tDerived)).1).1).1,(((s31.getD s33.toNat (dft tDerived)).1).1).2),((s31.getD s33.toNat (dft tDerived)).1).2),s6,(s31.getD s33.toNat (dft tDerived)).2)].length) * 56 ≤ 140737488355328)) then rec_ (s0,(s3 ++ [(((((s31.getD s33.toNat (dft tDerived)).1).1).1,(((s31.getD s33.toNat (dft tDerived)).1).1).2),((s31.getD s33.toNat (dft tDerived)).1).2)]),(s4 ++ [((((((s31.getD s33.toNat (dft tDerived)).1).1).1,(((s31.getD s33.toNat (dft tDerived)).1).1).2),((s31.getD s33.toNat (dft tDerived)).1).2),s6,(s31.getD s33.toNat (dft tDerived)).2)]),s5,s6,s18,s19,s20,s31,s32,(wrap64 (s33 + (1:Int)))) else none) else none) else rec_ (s0,s3,s4,s5,s6,s18,s19,s20,s31,s32,(wrap64 (s33 + (1:Int))))) else none) else kx (s0,s3,s4,s5,s18,s19,s20))
def B_f10_L2 (N : Nat) {Ω : Type} (kx : DenS (.pr (.d 0 (.sl tCred)) (.pr (.o 3 tFact) (.pr (.o 4 tFoundV) (.d 5 I)))) → Option Ω) (kr : ((List (Den tFoundV)) × DenW (.d 0 (.sl tCred))) → Option Ω) (rec_ : DenS (.pr (.d 0 (.sl tCred)) (.pr (.o 3 tFact) (.pr (.o 4 tFoundV) (.pr (.d 5 I) (.pr (.d 18 (.sl tCred)) (.pr (.d 19 I) (.d 20 I))))))) → Option Ω) : DenS (.pr (.d 0 (.sl tCred)) (.pr (.o 3 tFact) (.pr (.o 4 tFoundV) (.pr (.d 5 I) (.pr (.d 18 (.sl tCred)) (.pr (.d 19 I) (.d 20 I))))))) → Option Ω := fun (s0,s3,s4,s5,s18,s19,s20) =>
 (bif (decide (s20 < s19)) then (bif (decide (0 ≤ s20) && decide (s20 < s18.length)) then (x_f2 N ((s18.getD s20.toNat (dft tCred)).1,((((s18.getD s20.toNat (dft tCred)).2).1).1,(((s18.getD s20.toNat (dft tCred)).2).1).2),(((s18.getD s20.toNat (dft tCred)).2).2).1,((((((s18.getD s20.toNat (dft tCred)).2).2).2).1).1,(((((s18.getD s20.toNat (dft tCred)).2).2).2).1).2),(((((((s18.getD s20.toNat (dft tCred)).2).2).2).2).1).1,((((((s18.getD s20.toNat (dft tCred)).2).2).2).2).1).2),((((((s18.getD s20.toNat (dft tCred)).2).2).2).2).2).1,((((((s18.getD s20.toNat (dft tCred)).2).2).2).2).2).2)).bind fun r1 => (bif (!r1) then rec_ (s0,s3,s4,s5,s18,s19,(wrap64 (s20 + (1:Int)))) else (x_f26 N s3).bind fun r2 => (x_f7 N r2 ((s18.getD s20.toNat (dft tCred)).1,((((s18.getD s20.toNat (dft tCred)).2).1).1,(((s18.getD s20.toNat (dft tCred)).2).1).2),(((s18.getD s20.toNat (dft tCred)).2).2).1,((((((s18.getD s20.toNat (dft tCred)).2).2).2).1).1,(((((s18.getD s20.toNat (dft tCred)).2).2).2).1).2),(((((((s18.getD s20.toNat (dft tCred)).2).2).2).2).1).1,((((((s18.getD s20.toNat (dft tCred)).2).2).2).2).1).2),((((((s18.getD s20.toNat (dft tCred)).2).2).2).2).2).1,((((((s18.getD s20.toNat (dft tCred)).2).2).2).2).2).2)).bind fun r3 => iter (B_f10_L4 N (fun (x5,x6,x7,x8,x9,x10,x11) => rec_ (x5,x6,x7,x8,x9,x10,(wrap64 (x11 + (1:Int))))) (fun ρ12 => kr (ρ12))) N (s0,s3,s4,s5,s20,s18,s19,s20,r3,(r3.length : Int),(0:Int))) else none) else kx (s0,s3,s4,s5))
def B_f10_L0 (N : Nat) {Ω : Type} (kx : DenS (.o 4 tFoundV) → Option Ω) (kr : ((List (Den tFoundV)) × DenW (.d 0 (.sl tCred))) → Option Ω) (rec_ : DenS (.pr (.d 0 (.sl tCred)) (.pr (.o 3 tFact) (.pr (.o 4 tFoundV) (.d 5 I)))) → Option Ω) : DenS (.pr (.d 0 (.sl tCred)) (.pr (.o 3 tFact) (.pr (.o 4 tFoundV) (.d 5 I)))) → Option Ω := fun (s0,s3,s4,s5) =>
 (bif (decide (s5 < (s3.length : Int))) then iter (B_f10_L2 N (fun (x13,x14,x15,x16) => rec_ (x13,x14,x15,x16)) (fun ρ17 => kr (ρ17))) N (s0,s3,s4,(s3.length : Int),s0,(s0.length : Int),(0:Int)) else kx s4)
def x_f10 (N : Nat) (a0 : (List (Den tCred))) : Option ((List (Den tFoundV)) × DenW (.d 0 (.sl tCred))) :=
 (iter (B_f10_L0 N (fun x18 => some (x18,())) (fun ρ19 => some (ρ19))) N (a0,[],[],(-1:Int))).bind fun r => bif (true) then some r else none
abbrev cm_f10 (N : Nat) : CM := ⟨115,(.d 0 (.sl tCred)),(.t (.sl tFoundV)),fun a => x_f10 N a⟩
theorem c_f10 (N : Nat) : CMok Try.prog (cm_f10 N) :=
 CM_ok (Γ := [.c (ct_f2 N),.c (ct_f26 N),.c (ct_f7 N),.c (ct_f27 N)]) (Θ := [(10,tFact),(11,tFoundV),(45,tFact),(54,tFoundV)]) (Λ := ([⟨0,0,(.pr (.d 0 (.sl tCred)) (.pr (.o 3 tFact) (.pr (.o 4 tFoundV) (.d 5 I)))),(.o 4 tFoundV),fun {Ω} kx kr => iter (B_f10_L0 N kx kr) N⟩,⟨2,0,(.pr (.d 0 (.sl tCred)) (.pr (.o 3 tFact) (.pr (.o 4 tFoundV) (.pr (.d 5 I) (.pr (.d 18 (.sl tCred)) (.pr (.d 19 I) (.d 20 I))))))),(.pr (.d 0 (.sl tCred)) (.pr (.o 3 tFact) (.pr (.o 4 tFoundV) (.d 5 I)))),fun {Ω} kx kr => iter (B_f10_L2 N kx kr) N⟩,⟨4,0,(.pr (.d 0 (.sl tCred)) (.pr (.o 3 tFact) (.pr (.o 4 tFoundV) (.pr (.d 5 I) (.pr (.d 6 I) (.pr (.d 18 (.sl tCred)) (.pr (.d 19 I) (.pr (.d 20 I) (.pr (.d 31 (.sl tDerived)) (.pr (.d 32 I) (.d 33 I))))))))))),(.pr (.d 0 (.sl tCred)) (.pr (.o 3 tFact) (.pr (.o 4 tFoundV) (.pr (.d 5 I) (.pr (.d 18 (.sl tCred)) (.pr (.d 19 I) (.d 20 I))))))),fun {Ω} kx kr => iter (B_f10_L4 N kx kr) N⟩] : List (LC (DenR (.t (.sl tFoundV)) × DenW (.d 0 (.sl tCred)))))) (by kernel_rfl) mixed ⟨c_f2 N,⟨c_f26 N,⟨c_f7 N,⟨c_f27 N,trivial⟩⟩⟩⟩ (by kernel_rfl)
  ⟨LoopEq.mk N (fun Ω kx kr => B_f10_L0 N kx kr) (fun Ω g kx kr s => by kernel_rfl),⟨LoopEq.mk N (fun Ω kx kr => B_f10_L2 N kx kr) (fun Ω g kx kr s => by kernel_rfl),⟨LoopEq.mk N (fun Ω kx kr => B_f10_L4 N kx kr) (fun Ω g kx kr s => by kernel_rfl),trivial⟩⟩⟩ (by kernel_rfl) (fun a => by kernel_rfl)
def B_f3_L0 (N : Nat) {Ω : Type} (kx : DenS (.o 3 tFact) → Option Ω) (kr : (List (Den tFact)) → Option Ω) (rec_ : DenS (.pr (.o 3 tFact) (.pr (.o 8 tFoundV) (.pr (.d 9 I) (.d 10 I)))) → Option Ω) : DenS (.pr (.o 3 tFact) (.pr (.o 8 tFoundV) (.pr (.d 9 I) (.d 10 I)))) → Option Ω := fun (s3,s8,s9,s10) =>
 (bif (decide (s10 < s9)) then (bif (decide (0 ≤ s10) && decide (s10 < s8.length)) then (bif (decide ((s3.length + [(((((s8.getD s10.toNat (dft tFoundV)).1).1).1,(((s8.getD s10.toNat (dft tFoundV)).1).1).2),((s8.getD s10.toNat (dft tFoundV)).1).2)].length) * 24 ≤ 140737488355328)) then rec_ ((s3 ++ [(((((s8.getD s10.toNat (dft tFoundV)).1).1).1,(((s8.getD s10.toNat (dft tFoundV)).1).1).2),((s8.getD s10.toNat (dft tFoundV)).1).2)]),s8,s9,(wrap64 (s10 + (1:Int)))) else none) else none) else kx s3)
def x_f3 (N : Nat) (a0 : (List (Den tCred))) : Option (List (Den tFact)) :=
 (x_f10 N a0).bind fun r1 => iter (B_f3_L0 N (fun x2 => some x2) (fun ρ3 => some (ρ3))) N ([],r1.1,(r1.1.length : Int),(0:Int))
abbrev ct_f3 (N : Nat) : CT := ⟨173,(.d (.sl tCred)),(.t (.sl tFact)),fun a => x_f3 N a⟩
theorem c_f3 (N : Nat) : CTok Try.prog (ct_f3 N) :=
 CT_ok (Γ := [.m (cm_f10 N)]) (Θ := [(6,tFact),(17,tFact)]) (Λ := ([⟨0,0,(.pr (.o 3 tFact) (.pr (.o 8 tFoundV) (.pr (.d 9 I) (.d 10 I)))),(.o 3 tFact),fun {Ω} kx kr => iter (B_f3_L0 N kx kr) N⟩] : List (LC (DenR (.t (.sl tFact)))))) (by kernel_rfl) mixed ⟨c_f10 N,trivial⟩ (by kernel_rfl)
  ⟨LoopEq.mk N (fun Ω kx kr => B_f3_L0 N kx kr) (fun Ω g kx kr s => by kernel_rfl),trivial⟩ (by kernel_rfl) (fun a => by kernel_rfl)
def x_f1 (N : Nat) (a0 : Int) : Option Bool :=
 some (!decide (a0 = a0))
abbrev ct_f1 (N : Nat) : CT := ⟨215,(.d I),(.t .bl),fun a => x_f1 N a⟩
theorem c_f1 (N : Nat) : CTok Try.prog (ct_f1 N) :=
 CT_ok (Γ := []) (Θ := []) (Λ := ([] : List (LC (DenR (.t .bl))))) (by kernel_rfl) mixed trivial (by kernel_rfl)
  trivial (by kernel_rfl) (fun a => by kernel_rfl)
def x_f0 (N : Nat) (a0 : Int) (a1 : Int) : Option Bool :=
 (x_f1 N a0).bind fun r1 => (bif r1 then (x_f1 N a1).bind fun r2 => (bif (!r2) then some true else some (decide (a0 < a1))) else some (decide (a0 < a1)))
abbrev ct_f0 (N : Nat) : CT := ⟨202,(.pr (.d I) (.d I)),(.t .bl),fun a => x_f0 N a.1 a.2⟩
theorem c_f0 (N : Nat) : CTok Try.prog (ct_f0 N) :=
 CT_ok (Γ := [.c (ct_f1 N)]) (Θ := []) (Λ := ([] : List (LC (DenR (.t .bl))))) (by kernel_rfl) mixed ⟨c_f1 N,trivial⟩ (by kernel_rfl)
  trivial (by kernel_rfl) (fun a => by kernel_rfl)
def B_f32_L2 (N : Nat) {Ω : Type} (kx : DenS (.pr (.o 0 I) (.pr (.d 1 I) (.pr (.d 2 I) (.d 6 I)))) → Option Ω) (kr : (Unit × DenW (.pr (.o 0 I) (.pr (.d 1 I) (.d 2 I)))) → Option Ω) (rec_ : DenS (.pr (.o 0 I) (.pr (.d 1 I) (.pr (.d 2 I) (.pr (.d 6 I) (.d 7 I))))) → Option Ω) : DenS (.pr (.o 0 I) (.pr (.d 1 I) (.pr (.d 2 I) (.pr (.d 6 I) (.d 7 I))))) → Option Ω := fun (s0,s1,s2,s6,s7) =>
 (bif (decide (s1 < s7)) then (bif (decide (0 ≤ s7) && decide (s7 < s0.length)) then (bif (decide (0 ≤ (wrap64 (s7 - (1:Int)))) && decide ((wrap64 (s7 - (1:Int))) < s0.length)) then (x_f0 N (s0.getD s7.toNat (0:Int)) (s0.getD ((wrap64 (s7 - (1:Int))).toNat) (0:Int))).bind fun r1 => (bif r1 then (bif (decide (0 ≤ (wrap64 (s7 - (1:Int)))) && decide ((wrap64 (s7 - (1:Int))) < s0.length)) then (bif (decide (0 ≤ s7) && decide (s7 < s0.length)) then (bif (decide (0 ≤ s7) && decide (s7 < s0.length)) then (bif (decide (0 ≤ (wrap64 (s7 - (1:Int)))) && decide ((wrap64 (s7 - (1:Int))) < (s0.set s7.toNat (s0.getD ((wrap64 (s7 - (1:Int))).toNat) (0:Int))).length)) then rec_ (((s0.set s7.toNat (s0.getD ((wrap64 (s7 - (1:Int))).toNat) (0:Int))).set ((wrap64 (s7 - (1:Int))).toNat) (s0.getD s7.toNat (0:Int))),s1,s2,s6,(wrap64 (s7 - (1:Int)))) else none) else none) else none) else none) else kx (s0,s1,s2,s6)) else none) else none) else kx (s0,s1,s2,s6))
def B_f32_L0 (N : Nat) {Ω : Type} (kx : DenS (.o 0 I) → Option Ω) (kr : (Unit × DenW (.pr (.o 0 I) (.pr (.d 1 I) (.d 2 I)))) → Option Ω) (rec_ : DenS (.pr (.o 0 I) (.pr (.d 1 I) (.pr (.d 2 I) (.d 6 I)))) → Option Ω) : DenS (.pr (.o 0 I) (.pr (.d 1 I) (.pr (.d 2 I) (.d 6 I)))) → Option Ω := fun (s0,s1,s2,s6) =>
 (bif (decide (s6 < s2)) then iter (B_f32_L2 N (fun (x2,x3,x4,x5) => rec_ (x2,x3,x4,(wrap64 (x5 + (1:Int))))) (fun ρ6 => kr (ρ6))) N (s0,s1,s2,s6,s6) else kx s0)
def x_f32 (N : Nat) (a0 : (List Int)) (a1 : Int) (a2 : Int) : Option (Unit × DenW (.pr (.o 0 I) (.pr (.d 1 I) (.d 2 I)))) :=
 (iter (B_f32_L0 N (fun x7 => some ((),x7,(),())) (fun ρ8 => some (ρ8))) N (a0,a1,a2,(wrap64 (a1 + (1:Int))))).bind fun r => bif (Nat.beq a0.length r.2.1.length && (true && true)) then some r else none
abbrev cm_f32 (N : Nat) : CM := ⟨196,(.pr (.o 0 I) (.pr (.d 1 I) (.d 2 I))),.un,fun a => x_f32 N a.1 a.2.1 a.2.2⟩
theorem c_f32 (N : Nat) : CMok Try.prog (cm_f32 N) :=
 CM_ok (Γ := [.c (ct_f0 N)]) (Θ := []) (Λ := ([⟨0,1,(.pr (.o 0 I) (.pr (.d 1 I) (.pr (.d 2 I) (.d 6 I)))),(.o 0 I),fun {Ω} kx kr => iter (B_f32_L0 N kx kr) N⟩,⟨2,1,(.pr (.o 0 I) (.pr (.d 1 I) (.pr (.d 2 I) (.pr (.d 6 I) (.d 7 I))))),(.pr (.o 0 I) (.pr (.d 1 I) (.pr (.d 2 I) (.d 6 I)))),fun {Ω} kx kr => iter (B_f32_L2 N kx kr) N⟩] : List (LC (DenR .un × DenW (.pr (.o 0 I) (.pr (.d 1 I) (.d 2 I))))))) (by kernel_rfl) mixed ⟨c_f0 N,trivial⟩ (by kernel_rfl)
  ⟨LoopEq.mk N (fun Ω kx kr => B_f32_L0 N kx kr) (fun Ω g kx kr s => by kernel_rfl),⟨LoopEq.mk N (fun Ω kx kr => B_f32_L2 N kx kr) (fun Ω g kx kr s => by kernel_rfl),trivial⟩⟩ (by kernel_rfl) (fun a => by kernel_rfl)
abbrev rawLen64 : CT := ⟨206,.d (.i .u64),.t I,rawC Try.prog [] 206 (.d (.i .u64)) (.t I)⟩
theorem rawLen64_ok : CTok Try.prog rawLen64 := rawC_ok (by kernel_rfl) mixed trivial (by kernel_rfl) (by kernel_rfl)
abbrev rawLen : CT := ⟨191,.d (.i .u64),.t I,rawC Try.prog [.c rawLen64] 191 (.d (.i .u64)) (.t I)⟩
theorem rawLen_ok : CTok Try.prog rawLen := rawC_ok (by kernel_rfl) mixed ⟨rawLen64_ok,trivial⟩ (by kernel_rfl) (by kernel_rfl)
abbrev sPdq : SK := (.pr (.o 0 I) (.pr (.d 1 I) (.pr (.d 2 I) (.d 3 I))))
abbrev rawPdq : CM := ⟨190,sPdq,.un,rawM Try.prog [.m (cm_f32 9)] 190 sPdq (.pr (.o 0 I) (.pr (.d 1 I) (.pr (.d 2 I) (.pr (.d 3 I) (.pr (.d 8 .bl) (.d 9 .bl)))))) (.o 0 I)⟩
theorem rawPdq_ok : CMok Try.prog rawPdq := rawM_ok (by kernel_rfl) mixed ⟨c_f32 9,trivial⟩ (by kernel_rfl) (by kernel_rfl) (by kernel_rfl)
abbrev rawSort : CM := ⟨174,.o 0 I,.un,rawM0 Try.prog [.c rawLen,.m rawPdq] 174 (.o 0 I)⟩
theorem rawSort_ok : CMok Try.prog rawSort := rawM0_ok (by kernel_rfl) mixed ⟨rawLen_ok,rawPdq_ok,trivial⟩ (by kernel_rfl) (by kernel_rfl)
def x_f31 (N : Nat) (a0 : (List Int)) : Option (Unit × DenW (.o 0 I)) :=
 bif decide (List.length (α := Int) a0 ≤ 140737488355328) then some ((),sortI a0) else none
abbrev cm_f31 (N : Nat) : CM := ⟨174,(.o 0 I),.un,fun a => x_f31 N a⟩
theorem c_f31 (N : Nat) : CMok Try.prog (cm_f31 N) :=
 sort_CM (ρ := Try.laysSort_ren) Try.laysSort ⟨_,Try.func174,by kernel_rfl,by kernel_rfl⟩ rawSort.F (by kernel_rfl) rawSort_ok
def B_f4_L0 (N : Nat) {Ω : Type} (kx : DenS (.o 5 I) → Option Ω) (kr : (List Int) → Option Ω) (rec_ : DenS (.pr (.ip 3 tRole) (.pr (.o 5 I) (.pr (.o 10 tFact) (.pr (.d 11 I) (.d 12 I))))) → Option Ω) : DenS (.pr (.ip 3 tRole) (.pr (.o 5 I) (.pr (.o 10 tFact) (.pr (.d 11 I) (.d 12 I))))) → Option Ω := fun (s3,s5,s10,s11,s12) =>
 (bif (decide (s12 < s11)) then (bif (decide (0 ≤ s12) && decide (s12 < s10.length)) then (bif (decide ((((s10.getD s12.toNat (dft tFact)).1).1) = s3.1) && decide ((((s10.getD s12.toNat (dft tFact)).1).2) = s3.2)) then (bif (decide ((s5.length + [(s10.getD s12.toNat (dft tFact)).2].length) * 8 ≤ 140737488355328)) then rec_ (s3,(s5 ++ [(s10.getD s12.toNat (dft tFact)).2]),s10,s11,(wrap64 (s12 + (1:Int)))) else none) else rec_ (s3,s5,s10,s11,(wrap64 (s12 + (1:Int))))) else none) else kx s5)
def x_f4 (N : Nat) (a0 : (List (Den tCred))) (a1 : (Den tRole)) : Option (List Int) :=
 (x_f3 N a0).bind fun r1 => iter (B_f4_L0 N (fun x2 => (x_f31 N x2).bind fun r3 => some r3.2) (fun ρ4 => some (ρ4))) N (a1,[],r1,(r1.length : Int),(0:Int))
abbrev ct_f4 (N : Nat) : CT := ⟨153,(.pr (.d (.sl tCred)) (.d tRole)),(.t (.sl I)),fun a => x_f4 N a.1 a.2⟩
theorem c_f4 (N : Nat) : CTok Try.prog (ct_f4 N) :=
 CT_ok (Γ := [.c (ct_f3 N),.m (cm_f31 N)]) (Θ := [(8,I),(23,I)]) (Λ := ([⟨0,0,(.pr (.ip 3 tRole) (.pr (.o 5 I) (.pr (.o 10 tFact) (.pr (.d 11 I) (.d 12 I))))),(.o 5 I),fun {Ω} kx kr => iter (B_f4_L0 N kx kr) N⟩] : List (LC (DenR (.t (.sl I)))))) (by kernel_rfl) mixed ⟨c_f3 N,⟨c_f31 N,trivial⟩⟩ (by kernel_rfl)
  ⟨LoopEq.mk N (fun Ω kx kr => B_f4_L0 N kx kr) (fun Ω g kx kr s => by kernel_rfl),trivial⟩ (by kernel_rfl) (fun a => by kernel_rfl)
def B_f13_L1 (N : Nat) {Ω : Type} (kx : DenS (.o 5 tRole) → Option Ω) (kr : (List (Den tRole)) → Option Ω) (rec_ : DenS (.pr (.ip 3 tCred) (.pr (.o 5 tRole) (.pr (.o 23 I) (.pr (.d 24 I) (.d 25 I))))) → Option Ω) : DenS (.pr (.ip 3 tCred) (.pr (.o 5 tRole) (.pr (.o 23 I) (.pr (.d 24 I) (.d 25 I))))) → Option Ω := fun (s3,s5,s23,s24,s25) =>
 (bif (decide (s25 < s24)) then (bif (decide (0 ≤ s25) && decide (s25 < s23.length)) then (bif (decide ((s5.length + [((s23.getD s25.toNat (0:Int)),s3.2.2.2.2.1.2)].length) * 16 ≤ 140737488355328)) then rec_ (s3,(s5 ++ [((s23.getD s25.toNat (0:Int)),s3.2.2.2.2.1.2)]),s23,s24,(wrap64 (s25 + (1:Int)))) else none) else none) else kx s5)
def x_f13 (N : Nat) (a0 : (List (Den tCred))) (a1 : (Den tCred)) : Option (List (Den tRole)) :=
 (bif (decide (a1.1 = (2:Int))) then some [a1.2.2.2.1] else (bif (decide (a1.1 = (3:Int))) then (x_f4 N a0 a1.2.2.2.1).bind fun r1 => iter (B_f13_L1 N (fun x2 => some x2) (fun ρ3 => some (ρ3))) N (a1,[a1.2.2.2.1],r1,(r1.length : Int),(0:Int)) else (bif (decide (a1.1 = (4:Int))) then some [a1.2.2.2.1,a1.2.2.2.2.1] else some [])))
abbrev ct_f13 (N : Nat) : CT := ⟨109,(.pr (.d (.sl tCred)) (.d tCred)),(.t (.sl tRole)),fun a => x_f13 N a.1 a.2⟩
theorem c_f13 (N : Nat) : CTok Try.prog (ct_f13 N) :=
 CT_ok (Γ := [.c (ct_f4 N)]) (Θ := [(14,tRole),(19,tRole),(35,tRole),(45,tRole)]) (Λ := ([⟨1,0,(.pr (.ip 3 tCred) (.pr (.o 5 tRole) (.pr (.o 23 I) (.pr (.d 24 I) (.d 25 I))))),(.o 5 tRole),fun {Ω} kx kr => iter (B_f13_L1 N kx kr) N⟩] : List (LC (DenR (.t (.sl tRole)))))) (by kernel_rfl) mixed ⟨c_f4 N,trivial⟩ (by kernel_rfl)
  ⟨LoopEq.mk N (fun Ω kx kr => B_f13_L1 N kx kr) (fun Ω g kx kr s => by kernel_rfl),trivial⟩ (by kernel_rfl) (fun a => by kernel_rfl)
def B_f30_L0 (N : Nat) {Ω : Type} (kx : DenS .un → Option Ω) (kr : Int → Option Ω) (rec_ : DenS (.pr (.d 0 (.sl tRole)) (.pr (.ip 3 tRole) (.pr (.d 7 I) (.d 8 I)))) → Option Ω) : DenS (.pr (.d 0 (.sl tRole)) (.pr (.ip 3 tRole) (.pr (.d 7 I) (.d 8 I)))) → Option Ω := fun (s0,s3,s7,s8) =>
 (bif (decide (s8 < s7)) then (bif (decide (0 ≤ s8) && decide (s8 < s0.length)) then (bif (decide (s3.1 = ((s0.getD s8.toNat (dft tRole)).1)) && decide (s3.2 = ((s0.getD s8.toNat (dft tRole)).2))) then kr s8 else rec_ (s0,s3,s7,(wrap64 (s8 + (1:Int))))) else none) else kx ())
def x_f30 (N : Nat) (a0 : (List (Den tRole))) (a1 : (Den tRole)) : Option Int :=
 iter (B_f30_L0 N (fun _ => some (-1:Int)) (fun ρ1 => some (ρ1))) N (a0,a1,(a0.length : Int),(0:Int))
abbrev ct_f30 (N : Nat) : CT := ⟨154,(.pr (.d (.sl tRole)) (.d tRole)),(.t I),fun a => x_f30 N a.1 a.2⟩
theorem c_f30 (N : Nat) : CTok Try.prog (ct_f30 N) :=
 CT_ok (Γ := []) (Θ := []) (Λ := ([⟨0,0,(.pr (.d 0 (.sl tRole)) (.pr (.ip 3 tRole) (.pr (.d 7 I) (.d 8 I)))),.un,fun {Ω} kx kr => iter (B_f30_L0 N kx kr) N⟩] : List (LC (DenR (.t I))))) (by kernel_rfl) mixed trivial (by kernel_rfl)
  ⟨LoopEq.mk N (fun Ω kx kr => B_f30_L0 N kx kr) (fun Ω g kx kr s => by kernel_rfl),trivial⟩ (by kernel_rfl) (fun a => by kernel_rfl)
def x_f28 (N : Nat) (a0 : (List (Den tRole))) (a1 : (Den tRole)) : Option Bool :=
 (x_f30 N a0 a1).bind fun r1 => some (decide ((0:Int) ≤ r1))
abbrev ct_f28 (N : Nat) : CT := ⟨110,(.pr (.d (.sl tRole)) (.d tRole)),(.t .bl),fun a => x_f28 N a.1 a.2⟩
theorem c_f28 (N : Nat) : CTok Try.prog (ct_f28 N) :=
 CT_ok (Γ := [.c (ct_f30 N)]) (Θ := []) (Λ := ([] : List (LC (DenR (.t .bl))))) (by kernel_rfl) mixed ⟨c_f30 N,trivial⟩ (by kernel_rfl)
  trivial (by kernel_rfl) (fun a => by kernel_rfl)
def B_f6_L4 (N : Nat) {Ω : Type} (kx : DenS (.pr (.d 0 (.sl tCred)) (.pr (.o 5 tRole) (.pr (.d 6 I) (.pr (.d 19 (.sl tCred)) (.pr (.d 20 I) (.d 21 I)))))) → Option Ω) (kr : (List (Den tRole)) → Option Ω) (rec_ : DenS (.pr (.d 0 (.sl tCred)) (.pr (.o 5 tRole) (.pr (.d 6 I) (.pr (.d 19 (.sl tCred)) (.pr (.d 20 I) (.pr (.d 21 I) (.pr (.o 39 tRole) (.pr (.d 40 I) (.d 41 I))))))))) → Option Ω) : DenS (.pr (.d 0 (.sl tCred)) (.pr (.o 5 tRole) (.pr (.d 6 I) (.pr (.d 19 (.sl tCred)) (.pr (.d 20 I) (.pr (.d 21 I) (.pr (.o 39 tRole) (.pr (.d 40 I) (.d 41 I))))))))) → Option Ω := fun (s0,s5,s6,s19,s20,s21,s39,s40,s41) =>
 (bif (decide (s41 < s40)) then (bif (decide (0 ≤ s41) && decide (s41 < s39.length)) then (x_f28 N s5 ((s39.getD s41.toNat (dft tRole)).1,(s39.getD s41.toNat (dft tRole)).2)).bind fun r3 => (bif (!r3) then (bif (decide ((s5.length : Int) < (16:Int))) then (bif (decide ((s5.length + [((s39.getD s41.toNat (dft tRole)).1,(s39.getD s41.toNat (dft tRole)).2)].length) * 16 ≤ 140737488355328)) then rec_ (s0,(s5 ++ [((s39.getD s41.toNat (dft tRole)).1,(s39.getD s41.toNat (dft tRole)).2)]),s6,s19,s20,s21,s39,s40,(wrap64 (s41 + (1:Int)))) else none) else rec_ (s0,s5,s6,s19,s20,s21,s39,s40,(wrap64 (s41 + (1:Int))))) else rec_ (s0,s5,s6,s19,s20,s21,s39,s40,(wrap64 (s41 + (1:Int))))) else none) else kx (s0,s5,s6,s19,s20,s21))
def B_f6_L2 (N : Nat) {Ω : Type} (kx : DenS (.pr (.d 0 (.sl tCred)) (.pr (.o 5 tRole) (.d 6 I))) → Option Ω) (kr : (List (Den tRole)) → Option Ω) (rec_ : DenS (.pr (.d 0 (.sl tCred)) (.pr (.o 5 tRole) (.pr (.d 6 I) (.pr (.d 19 (.sl tCred)) (.pr (.d 20 I) (.d 21 I)))))) → Option Ω) : DenS (.pr (.d 0 (.sl tCred)) (.pr (.o 5 tRole) (.pr (.d 6 I) (.pr (.d 19 (.sl tCred)) (.pr (.d 20 I) (.d 21 I)))))) → Option Ω := fun (s0,s5,s6,s19,s20,s21) =>
 (bif (decide (s21 < s20)) then (bif (decide (0 ≤ s21) && decide (s21 < s19.length)) then (x_f2 N ((s19.getD s21.toNat (dft tCred)).1,((((s19.getD s21.toNat (dft tCred)).2).1).1,(((s19.getD s21.toNat (dft tCred)).2).1).2),(((s19.getD s21.toNat (dft tCred)).2).2).1,((((((s19.getD s21.toNat (dft tCred)).2).2).2).1).1,(((((s19.getD s21.toNat (dft tCred)).2).2).2).1).2),(((((((s19.getD s21.toNat (dft tCred)).2).2).2).2).1).1,((((((s19.getD s21.toNat (dft tCred)).2).2).2).2).1).2),((((((s19.getD s21.toNat (dft tCred)).2).2).2).2).2).1,((((((s19.getD s21.toNat (dft tCred)).2).2).2).2).2).2)).bind fun r1 => (bif (!r1) then rec_ (s0,s5,s6,s19,s20,(wrap64 (s21 + (1:Int)))) else (bif (decide (0 ≤ s6) && decide (s6 < s5.length)) then (bif (!(decide (((((s19.getD s21.toNat (dft tCred)).2).1).1) = ((s5.getD s6.toNat (dft tRole)).1)) && decide (((((s19.getD s21.toNat (dft tCred)).2).1).2) = ((s5.getD s6.toNat (dft tRole)).2)))) then rec_ (s0,s5,s6,s19,s20,(wrap64 (s21 + (1:Int)))) else (x_f13 N s0 ((s19.getD s21.toNat (dft tCred)).1,((((s19.getD s21.toNat (dft tCred)).2).1).1,(((s19.getD s21.toNat (dft tCred)).2).1).2),(((s19.getD s21.toNat (dft tCred)).2).2).1,((((((s19.getD s21.toNat (dft tCred)).2).2).2).1).1,(((((s19.getD s21.toNat (dft tCred)).2).2).2).1).2),(((((((s19.getD s21.toNat (dft tCred)).2).2).2).2).1).1,((((((s19.getD s21.toNat (dft tCred)).2).2).2).2).1).2),((((((s19.getD s21.toNat (dft tCred)).2).2).2).2).2).1,((((((s19.getD s21.toNat (dft tCred)).2).2).2).2).2).2)).bind fun r2 => iter (B_f6_L4 N (fun (x4,x5,x6,x7,x8,x9) => rec_ (x4,x5,x6,x7,x8,(wrap64 (x9 + (1:Int))))) (fun ρ10 => kr (ρ10))) N (s0,s5,s6,s19,s20,s21,r2,(r2.length : Int),(0:Int))) else none)) else none) else kx (s0,s5,s6))
def B_f6_L0 (N : Nat) {Ω : Type} (kx : DenS (.o 5 tRole) → Option Ω) (kr : (List (Den tRole)) → Option Ω) (rec_ : DenS (.pr (.d 0 (.sl tCred)) (.pr (.o 5 tRole) (.d 6 I))) → Option Ω) : DenS (.pr (.d 0 (.sl tCred)) (.pr (.o 5 tRole) (.d 6 I))) → Option Ω := fun (s0,s5,s6) =>
 (bif (decide (s6 < (s5.length : Int))) then iter (B_f6_L2 N (fun (x11,x12,x13) => rec_ (x11,x12,(wrap64 (x13 + (1:Int))))) (fun ρ14 => kr (ρ14))) N (s0,s5,s6,s0,(s0.length : Int),(0:Int)) else kx s5)
def x_f6 (N : Nat) (a0 : (List (Den tCred))) (a1 : (Den tRole)) : Option (List (Den tRole)) :=
 iter (B_f6_L0 N (fun x15 => some x15) (fun ρ16 => some (ρ16))) N (a0,[a1],(0:Int))
abbrev ct_f6 (N : Nat) : CT := ⟨36,(.pr (.d (.sl tCred)) (.d tRole)),(.t (.sl tRole)),fun a => x_f6 N a.1 a.2⟩
theorem c_f6 (N : Nat) : CTok Try.prog (ct_f6 N) :=
 CT_ok (Γ := [.c (ct_f2 N),.c (ct_f13 N),.c (ct_f28 N)]) (Θ := [(12,tRole),(56,tRole)]) (Λ := ([⟨0,0,(.pr (.d 0 (.sl tCred)) (.pr (.o 5 tRole) (.d 6 I))),(.o 5 tRole),fun {Ω} kx kr => iter (B_f6_L0 N kx kr) N⟩,⟨2,0,(.pr (.d 0 (.sl tCred)) (.pr (.o 5 tRole) (.pr (.d 6 I) (.pr (.d 19 (.sl tCred)) (.pr (.d 20 I) (.d 21 I)))))),(.pr (.d 0 (.sl tCred)) (.pr (.o 5 tRole) (.d 6 I))),fun {Ω} kx kr => iter (B_f6_L2 N kx kr) N⟩,⟨4,0,(.pr (.d 0 (.sl tCred)) (.pr (.o 5 tRole) (.pr (.d 6 I) (.pr (.d 19 (.sl tCred)) (.pr (.d 20 I) (.pr (.d 21 I) (.pr (.o 39 tRole) (.pr (.d 40 I) (.d 41 I))))))))),(.pr (.d 0 (.sl tCred)) (.pr (.o 5 tRole) (.pr (.d 6 I) (.pr (.d 19 (.sl tCred)) (.pr (.d 20 I) (.d 21 I)))))),fun {Ω} kx kr => iter (B_f6_L4 N kx kr) N⟩] : List (LC (DenR (.t (.sl tRole)))))) (by kernel_rfl) mixed ⟨c_f2 N,⟨c_f13 N,⟨c_f28 N,trivial⟩⟩⟩ (by kernel_rfl)
  ⟨LoopEq.mk N (fun Ω kx kr => B_f6_L0 N kx kr) (fun Ω g kx kr s => by kernel_rfl),⟨LoopEq.mk N (fun Ω kx kr => B_f6_L2 N kx kr) (fun Ω g kx kr s => by kernel_rfl),⟨LoopEq.mk N (fun Ω kx kr => B_f6_L4 N kx kr) (fun Ω g kx kr s => by kernel_rfl),trivial⟩⟩⟩ (by kernel_rfl) (fun a => by kernel_rfl)
def x_f17 (N : Nat) (a0 : (Den tRole)) (a1 : (Den tRole)) : Option Bool :=
 (bif (!decide (a0.1 = a1.1)) then some false else (bif (!decide (a0.2 = a1.2)) then some false else some true))
abbrev ct_f17 (N : Nat) : CT := ⟨111,(.pr (.d tRole) (.d tRole)),(.t .bl),fun a => x_f17 N a.1 a.2⟩
theorem c_f17 (N : Nat) : CTok Try.prog (ct_f17 N) :=
 CT_ok (Γ := []) (Θ := []) (Λ := ([] : List (LC (DenR (.t .bl))))) (by kernel_rfl) mixed trivial (by kernel_rfl)
  trivial (by kernel_rfl) (fun a => by kernel_rfl)
def B_f18_L0 (N : Nat) {Ω : Type} (kx : DenS .un → Option Ω) (kr : Bool → Option Ω) (rec_ : DenS (.pr (.d 0 (.sl tRole)) (.pr (.d 1 (.sl tRole)) (.d 5 I))) → Option Ω) : DenS (.pr (.d 0 (.sl tRole)) (.pr (.d 1 (.sl tRole)) (.d 5 I))) → Option Ω := fun (s0,s1,s5) =>
 (bif (decide (s5 < (s0.length : Int))) then (bif (decide (0 ≤ s5) && decide (s5 < s0.length)) then (bif (decide (0 ≤ s5) && decide (s5 < s1.length)) then (x_f17 N (s0.getD s5.toNat (dft tRole)) (s1.getD s5.toNat (dft tRole))).bind fun r1 => (bif (!r1) then kr false else rec_ (s0,s1,(wrap64 (s5 + (1:Int))))) else none) else none) else kx ())
def x_f18 (N : Nat) (a0 : (List (Den tRole))) (a1 : (List (Den tRole))) : Option Bool :=
 (bif (!decide ((a0.length : Int) = (a1.length : Int))) then some false else iter (B_f18_L0 N (fun _ => some true) (fun ρ2 => some (ρ2))) N (a0,a1,(0:Int)))
abbrev ct_f18 (N : Nat) : CT := ⟨37,(.pr (.d (.sl tRole)) (.d (.sl tRole))),(.t .bl),fun a => x_f18 N a.1 a.2⟩
theorem c_f18 (N : Nat) : CTok Try.prog (ct_f18 N) :=
 CT_ok (Γ := [.c (ct_f17 N)]) (Θ := []) (Λ := ([⟨0,0,(.pr (.d 0 (.sl tRole)) (.pr (.d 1 (.sl tRole)) (.d 5 I))),.un,fun {Ω} kx kr => iter (B_f18_L0 N kx kr) N⟩] : List (LC (DenR (.t .bl))))) (by kernel_rfl) mixed ⟨c_f17 N,trivial⟩ (by kernel_rfl)
  ⟨LoopEq.mk N (fun Ω kx kr => B_f18_L0 N kx kr) (fun Ω g kx kr s => by kernel_rfl),trivial⟩ (by kernel_rfl) (fun a => by kernel_rfl)
def x_f15 (N : Nat) (a0 : (Den tCred)) (a1 : (Den tCred)) : Option Bool :=
 (bif (!decide (a0.1 = a1.1)) then some false else (x_f17 N a0.2.1 a1.2.1).bind fun r1 => (bif (!r1) then some false else (bif (!decide (a0.2.2.1 = a1.2.2.1)) then some false else (x_f17 N a0.2.2.2.1 a1.2.2.2.1).bind fun r2 => (bif (!r2) then some false else (x_f17 N a0.2.2.2.2.1 a1.2.2.2.2.1).bind fun r3 => (bif (!r3) then some false else (bif (!decide (a0.2.2.2.2.2.1 = a1.2.2.2.2.2.1)) then some false else (bif (!decide (a0.2.2.2.2.2.2 = a1.2.2.2.2.2.2)) then some false else some true)))))))
abbrev ct_f15 (N : Nat) : CT := ⟨112,(.pr (.d tCred) (.d tCred)),(.t .bl),fun a => x_f15 N a.1 a.2⟩
theorem c_f15 (N : Nat) : CTok Try.prog (ct_f15 N) :=
 CT_ok (Γ := [.c (ct_f17 N)]) (Θ := []) (Λ := ([] : List (LC (DenR (.t .bl))))) (by kernel_rfl) mixed ⟨c_f17 N,trivial⟩ (by kernel_rfl)
  trivial (by kernel_rfl) (fun a => by kernel_rfl)
def B_f16_L0 (N : Nat) {Ω : Type} (kx : DenS .un → Option Ω) (kr : Bool → Option Ω) (rec_ : DenS (.pr (.d 0 (.sl tCred)) (.pr (.d 1 (.sl tCred)) (.d 5 I))) → Option Ω) : DenS (.pr (.d 0 (.sl tCred)) (.pr (.d 1 (.sl tCred)) (.d 5 I))) → Option Ω := fun (s0,s1,s5) =>
 (bif (decide (s5 < (s0.length : Int))) then (bif (decide (0 ≤ s5) && decide (s5 < s0.length)) then (bif (decide (0 ≤ s5) && decide (s5 < s1.length)) then (x_f15 N (s0.getD s5.toNat (dft tCred)) (s1.getD s5.toNat (dft tCred))).bind fun r1 => (bif (!r1) then kr false else rec_ (s0,s1,(wrap64 (s5 + (1:Int))))) else none) else none) else kx ())
def x_f16 (N : Nat) (a0 : (List (Den tCred))) (a1 : (List (Den tCred))) : Option Bool :=
 (bif (!decide ((a0.length : Int) = (a1.length : Int))) then some false else iter (B_f16_L0 N (fun _ => some true) (fun ρ2 => some (ρ2))) N (a0,a1,(0:Int)))
abbrev ct_f16 (N : Nat) : CT := ⟨38,(.pr (.d (.sl tCred)) (.d (.sl tCred))),(.t .bl),fun a => x_f16 N a.1 a.2⟩
theorem c_f16 (N : Nat) : CTok Try.prog (ct_f16 N) :=
 CT_ok (Γ := [.c (ct_f15 N)]) (Θ := []) (Λ := ([⟨0,0,(.pr (.d 0 (.sl tCred)) (.pr (.d 1 (.sl tCred)) (.d 5 I))),.un,fun {Ω} kx kr => iter (B_f16_L0 N kx kr) N⟩] : List (LC (DenR (.t .bl))))) (by kernel_rfl) mixed ⟨c_f15 N,trivial⟩ (by kernel_rfl)
  ⟨LoopEq.mk N (fun Ω kx kr => B_f16_L0 N kx kr) (fun Ω g kx kr s => by kernel_rfl),trivial⟩ (by kernel_rfl) (fun a => by kernel_rfl)
def B_f20_L0 (N : Nat) {Ω : Type} (kx : DenS (.pr (.o 0 tCred) (.d 1 I)) → Option Ω) (kr : (Int × DenW (.pr (.o 0 tCred) (.d 1 I))) → Option Ω) (rec_ : DenS (.pr (.o 0 tCred) (.pr (.d 1 I) (.d 5 I))) → Option Ω) : DenS (.pr (.o 0 tCred) (.pr (.d 1 I) (.d 5 I))) → Option Ω := fun (s0,s1,s5) =>
 (bif (decide (s5 < (s0.length : Int))) then (bif (decide (0 ≤ s5) && decide (s5 < s0.length)) then (bif (decide (0 ≤ s5) && decide (s5 < (s0.set s5.toNat (s1,(s0.getD s5.toNat (dft tCred)).2)).length)) then (let l1 : List (Den tCred) := ((s0.set s5.toNat (s1,(s0.getD s5.toNat (dft tCred)).2)).set s5.toNat (((s0.set s5.toNat (s1,(s0.getD s5.toNat (dft tCred)).2)).getD s5.toNat (dft tCred)).1,((wrap64 (s1 + (1:Int))),((((s0.set s5.toNat (s1,(s0.getD s5.toNat (dft tCred)).2)).getD s5.toNat (dft tCred)).2).1).2),(((s0.set s5.toNat (s1,(s0.getD s5.toNat (dft tCred)).2)).getD s5.toNat (dft tCred)).2).2)); (bif (decide (0 ≤ s5) && decide (s5 < l1.length)) then (let l2 : List (Den tCred) := (l1.set s5.toNat ((l1.getD s5.toNat (dft tCred)).1,((((l1.getD s5.toNat (dft tCred)).2).1).1,(wrap64 ((wrap64 (s1 + (1:Int))) + (1:Int)))),((l1.getD s5.toNat (dft tCred)).2).2)); (bif (decide (0 ≤ s5) && decide (s5 < l2.length)) then (let l3 : List (Den tCred) := (l2.set s5.toNat ((l2.getD s5.toNat (dft tCred)).1,((l2.getD s5.toNat (dft tCred)).2).1,(wrap64 ((wrap64 ((wrap64 (s1 + (1:Int))) + (1:Int))) + (1:Int))),(((l2.getD s5.toNat (dft tCred)).2).2).2)); (bif (decide (0 ≤ s5) && decide (s5 < l3.length)) then (let l4 : List (Den tCred) := (l3.set s5.toNat ((l3.getD s5.toNat (dft tCred)).1,((l3.getD s5.toNat (dft tCred)).2).1,(((l3.getD s5.toNat (dft tCred)).2).2).1,((wrap64 ((wrap64 ((wrap64 ((wrap64 (s1 + (1:Int))) + (1:Int))) + (1:Int))) + (1:Int))),(((((l3.getD s5.toNat (dft tCred)).2).2).2).1).2),((((l3.getD s5.toNat (dft tCred)).2).2).2).2)); (bif (decide (0 ≤ s5) && decide (s5 < l4.length)) then (let l5 : List (Den tCred) := (l4.set s5.toNat ((l4.getD s5.toNat (dft tCred)).1,((l4.getD s5.toNat (dft tCred)).2).1,(((l4.getD s5.toNat (dft tCred)).2).2).1,((((((l4.getD s5.toNat (dft tCred)).2).2).2).1).1,(wrap64 ((wrap64 ((wrap64 ((wrap64 ((wrap64 (s1 + (1:Int))) + (1:Int))) + (1:Int))) + (1:Int))) + (1:Int)))),((((l4.getD s5.toNat (dft tCred)).2).2).2).2)); (bif (decide (0 ≤ s5) && decide (s5 < l5.length)) then (let l6 : List (Den tCred) := (l5.set s5.toNat ((l5.getD s5.toNat (dft tCred)).1,((l5.getD s5.toNat (dft tCred)).2).1,(((l5.getD s5.toNat (dft tCred)).2).2).1,((((l5.getD s5.toNat (dft tCred)).2).2).2).1,((wrap64 ((wrap64 ((wrap64 ((wrap64 ((wrap64 ((wrap64 (s1 + (1:Int))) + (1:Int))) + (1:Int))) + (1:Int))) + (1:Int))) + (1:Int))),((((((l5.getD s5.toNat (dft tCred)).2).2).2).2).1).2),(((((l5.getD s5.toNat (dft tCred)).2).2).2).2).2)); (bif (decide (0 ≤ s5) && decide (s5 < l6.length)) then (let l7 : List (Den tCred) := (l6.set s5.toNat ((l6.getD s5.toNat (dft tCred)).1,((l6.getD s5.toNat (dft tCred)).2).1,(((l6.getD s5.toNat (dft tCred)).2).2).1,((((l6.getD s5.toNat (dft tCred)).2).2).2).1,(((((((l6.getD s5.toNat (dft tCred)).2).2).2).2).1).1,(wrap64 ((wrap64 ((wrap64 ((wrap64 ((wrap64 ((wrap64 ((wrap64 (s1 + (1:Int))) + (1:Int))) + (1:Int))) + (1:Int))) + (1:Int))) + (1:Int))) + (1:Int)))),(((((l6.getD s5.toNat (dft tCred)).2).2).2).2).2)); (bif (decide (0 ≤ s5) && decide (s5 < l7.length)) then (let l8 : List (Den tCred) := (l7.set s5.toNat ((l7.getD s5.toNat (dft tCred)).1,((l7.getD s5.toNat (dft tCred)).2).1,(((l7.getD s5.toNat (dft tCred)).2).2).1,((((l7.getD s5.toNat (dft tCred)).2).2).2).1,(((((l7.getD s5.toNat (dft tCred)).2).2).2).2).1,(wrap64 ((wrap64 ((wrap64 ((wrap64 ((wrap64 ((wrap64 ((wrap64 ((wrap64 (s1 + (1:Int))) + (1:Int))) + (1:Int))) + (1:Int))) + (1:Int))) + (1:Int))) + (1:Int))) + (1:Int))),((((((l7.getD s5.toNat (dft tCred)).2).2).2).2).2).2)); (bif (decide (0 ≤ s5) && decide (s5 < l8.length)) then (let l9 : List (Den tCred) := (l8.set s5.toNat ((l8.getD s5.toNat (dft tCred)).1,((l8.getD s5.toNat (dft tCred)).2).1,(((l8.getD s5.toNat (dft tCred)).2).2).1,((((l8.getD s5.toNat (dft tCred)).2).2).2).1,(((((l8.getD s5.toNat (dft tCred)).2).2).2).2).1,((((((l8.getD s5.toNat (dft tCred)).2).2).2).2).2).1,(wrap64 ((wrap64 ((wrap64 ((wrap64 ((wrap64 ((wrap64 ((wrap64 ((wrap64 ((wrap64 (s1 + (1:Int))) + (1:Int))) + (1:Int))) + (1:Int))) + (1:Int))) + (1:Int))) + (1:Int))) + (1:Int))) + (1:Int))))); rec_ (l9,(wrap64 ((wrap64 ((wrap64 ((wrap64 ((wrap64 ((wrap64 ((wrap64 ((wrap64 ((wrap64 ((wrap64 (s1 + (1:Int))) + (1:Int))) + (1:Int))) + (1:Int))) + (1:Int))) + (1:Int))) + (1:Int))) + (1:Int))) + (1:Int))) + (1:Int))),(wrap64 (s5 + (1:Int))))) else none)) else none)) else none)) else none)) else none)) else none)) else none)) else none)) else none) else none) else kx (s0,s1))
def x_f20 (N : Nat) (a0 : (List (Den tCred))) (a1 : Int) : Option (Int × DenW (.pr (.o 0 tCred) (.d 1 I))) :=
 (iter (B_f20_L0 N (fun (x10,x11) => some (x11,x10,())) (fun ρ12 => some (ρ12))) N (a0,a1,(0:Int))).bind fun r => bif (Nat.beq a0.length r.2.1.length && true) then some r else none
abbrev cm_f20 (N : Nat) : CM := ⟨39,(.pr (.o 0 tCred) (.d 1 I)),(.t I),fun a => x_f20 N a.1 a.2⟩
theorem c_f20 (N : Nat) : CMok Try.prog (cm_f20 N) :=
 CM_ok (Γ := []) (Θ := []) (Λ := ([⟨0,1,(.pr (.o 0 tCred) (.pr (.d 1 I) (.d 5 I))),(.pr (.o 0 tCred) (.d 1 I)),fun {Ω} kx kr => iter (B_f20_L0 N kx kr) N⟩] : List (LC (DenR (.t I) × DenW (.pr (.o 0 tCred) (.d 1 I)))))) (by kernel_rfl) mixed trivial (by kernel_rfl)
  ⟨LoopEq.mk N (fun Ω kx kr => B_f20_L0 N kx kr) (fun Ω g kx kr s => by kernel_rfl),trivial⟩ (by kernel_rfl) (fun a => by kernel_rfl)
def B_f21_L0 (N : Nat) {Ω : Type} (kx : DenS (.pr (.o 0 tRole) (.d 1 I)) → Option Ω) (kr : (Int × DenW (.pr (.o 0 tRole) (.d 1 I))) → Option Ω) (rec_ : DenS (.pr (.o 0 tRole) (.pr (.d 1 I) (.d 5 I))) → Option Ω) : DenS (.pr (.o 0 tRole) (.pr (.d 1 I) (.d 5 I))) → Option Ω := fun (s0,s1,s5) =>
 (bif (decide (s5 < (s0.length : Int))) then (bif (decide (0 ≤ s5) && decide (s5 < s0.length)) then (bif (decide (0 ≤ s5) && decide (s5 < (s0.set s5.toNat (s1,(s0.getD s5.toNat (dft tRole)).2)).length)) then (let l1 : List (Den tRole) := ((s0.set s5.toNat (s1,(s0.getD s5.toNat (dft tRole)).2)).set s5.toNat (((s0.set s5.toNat (s1,(s0.getD s5.toNat (dft tRole)).2)).getD s5.toNat (dft tRole)).1,(wrap64 (s1 + (1:Int))))); rec_ (l1,(wrap64 ((wrap64 (s1 + (1:Int))) + (1:Int))),(wrap64 (s5 + (1:Int))))) else none) else none) else kx (s0,s1))
def x_f21 (N : Nat) (a0 : (List (Den tRole))) (a1 : Int) : Option (Int × DenW (.pr (.o 0 tRole) (.d 1 I))) :=
 (iter (B_f21_L0 N (fun (x2,x3) => some (x3,x2,())) (fun ρ4 => some (ρ4))) N (a0,a1,(0:Int))).bind fun r => bif (Nat.beq a0.length r.2.1.length && true) then some r else none
abbrev cm_f21 (N : Nat) : CM := ⟨40,(.pr (.o 0 tRole) (.d 1 I)),(.t I),fun a => x_f21 N a.1 a.2⟩
theorem c_f21 (N : Nat) : CMok Try.prog (cm_f21 N) :=
 CM_ok (Γ := []) (Θ := []) (Λ := ([⟨0,1,(.pr (.o 0 tRole) (.pr (.d 1 I) (.d 5 I))),(.pr (.o 0 tRole) (.d 1 I)),fun {Ω} kx kr => iter (B_f21_L0 N kx kr) N⟩] : List (LC (DenR (.t I) × DenW (.pr (.o 0 tRole) (.d 1 I)))))) (by kernel_rfl) mixed trivial (by kernel_rfl)
  ⟨LoopEq.mk N (fun Ω kx kr => B_f21_L0 N kx kr) (fun Ω g kx kr s => by kernel_rfl),trivial⟩ (by kernel_rfl) (fun a => by kernel_rfl)
def B_f19_L0 (N : Nat) {Ω : Type} (kx : DenS (.d 1 I) → Option Ω) (kr : Int → Option Ω) (rec_ : DenS (.pr (.d 0 (.sl tRole)) (.pr (.d 1 I) (.d 5 I))) → Option Ω) : DenS (.pr (.d 0 (.sl tRole)) (.pr (.d 1 I) (.d 5 I))) → Option Ω := fun (s0,s1,s5) =>
 (bif (decide (s5 < (s0.length : Int))) then (bif (decide (0 ≤ s5) && decide (s5 < s0.length)) then (bif (!decide (((s0.getD s5.toNat (dft tRole)).1) = s1)) then kr (-1:Int) else (bif (decide (0 ≤ s5) && decide (s5 < s0.length)) then (bif (!decide (((s0.getD s5.toNat (dft tRole)).2) = (wrap64 (s1 + (1:Int))))) then kr (-1:Int) else rec_ (s0,(wrap64 ((wrap64 (s1 + (1:Int))) + (1:Int))),(wrap64 (s5 + (1:Int))))) else none)) else none) else kx s1)
def x_f19 (N : Nat) (a0 : (List (Den tRole))) (a1 : Int) : Option Int :=
 iter (B_f19_L0 N (fun x1 => some x1) (fun ρ2 => some (ρ2))) N (a0,a1,(0:Int))
abbrev ct_f19 (N : Nat) : CT := ⟨41,(.pr (.d (.sl tRole)) (.d I)),(.t I),fun a => x_f19 N a.1 a.2⟩
theorem c_f19 (N : Nat) : CTok Try.prog (ct_f19 N) :=
 CT_ok (Γ := []) (Θ := []) (Λ := ([⟨0,0,(.pr (.d 0 (.sl tRole)) (.pr (.d 1 I) (.d 5 I))),(.d 1 I),fun {Ω} kx kr => iter (B_f19_L0 N kx kr) N⟩] : List (LC (DenR (.t I))))) (by kernel_rfl) mixed trivial (by kernel_rfl)
  ⟨LoopEq.mk N (fun Ω kx kr => B_f19_L0 N kx kr) (fun Ω g kx kr s => by kernel_rfl),trivial⟩ (by kernel_rfl) (fun a => by kernel_rfl)
def x_laws_FnExactWantsOf (N : Nat) (a0 : (List (Den tCred))) (a1 : (Den tRole)) : Option Bool :=
 (x_f22 N a0 (1048576:Int)).bind fun r1 => (bif (decide (r1 < (0:Int))) then some true else (x_f24 N a0).bind fun r2 => (x_f25 N a1).bind fun r3 => (x_f37 N r2 r3).bind fun r4 => (x_f24 N a0).bind fun r5 => (x_f25 N a1).bind fun r6 => (x_f6 N r5 r6).bind fun r7 => (x_f18 N r7 r4).bind fun r8 => (bif (!r8) then some false else (x_f24 N a0).bind fun r9 => (x_f16 N r5 r9).bind fun r10 => (bif (!r10) then some false else (x_f20 N r5 (1:Int)).bind fun r11 => (bif (decide (r11.1 < (0:Int))) then some false else (x_f18 N r7 r4).bind fun r12 => (bif (!r12) then some false else (x_f21 N r7 (1:Int)).bind fun r13 => (x_f19 N r13.2.1 (1:Int)).bind fun r14 => (bif (decide (r14 < (0:Int))) then some false else (bif (!decide (r14 = r13.1)) then some false else (x_f24 N a0).bind fun r15 => (x_f25 N a1).bind fun r16 => (x_f6 N r15 r16).bind fun r17 => (x_f18 N r17 r4).bind fun r18 => (bif (!r18) then some false else (x_f19 N r13.2.1 (1:Int)).bind fun r19 => (bif (decide (r19 < (0:Int))) then some false else (bif (!decide (r19 = r13.1)) then some false else some true))))))))))
abbrev ct_laws_FnExactWantsOf (N : Nat) : CT := ⟨5,(.pr (.d (.sl tCred)) (.d tRole)),(.t .bl),fun a => x_laws_FnExactWantsOf N a.1 a.2⟩
theorem c_laws_FnExactWantsOf (N : Nat) : CTok Try.prog (ct_laws_FnExactWantsOf N) :=
 CT_ok (Γ := [.c (ct_f22 N),.c (ct_f24 N),.c (ct_f25 N),.c (ct_f37 N),.c (ct_f6 N),.c (ct_f18 N),.c (ct_f16 N),.m (cm_f20 N),.m (cm_f21 N),.c (ct_f19 N)]) (Θ := []) (Λ := ([] : List (LC (DenR (.t .bl))))) (by kernel_rfl) mixed ⟨c_f22 N,⟨c_f24 N,⟨c_f25 N,⟨c_f37 N,⟨c_f6 N,⟨c_f18 N,⟨c_f16 N,⟨c_f20 N,⟨c_f21 N,⟨c_f19 N,trivial⟩⟩⟩⟩⟩⟩⟩⟩⟩⟩ (by kernel_rfl)
  trivial (by kernel_rfl) (fun a => by kernel_rfl)
end
end Go.Proofs.Ytfmlmdnaeonobaa.C
