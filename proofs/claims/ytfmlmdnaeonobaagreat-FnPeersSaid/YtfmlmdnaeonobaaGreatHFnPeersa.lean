/- Each function of the program that is reached computes the datum printed here: no condition beyond the arguments that its contract names. -/
import Derived.Test.YtfmlmdnaeonobaaGreatNxq
import Derived.Test.YtfmlmdnaeonobaaGreatChecked
import Derived.KernelRfl
import Derived.Shelf.Sort.Plain
import Derived.Shelf.Lay
import Derived.Ground.NamesProg
namespace Go.Proofs.YtfmlmdnaeonobaaGreat.Nx
open Go Go.RowKit Go.Sort Go.Shelf
set_option linter.unusedVariables false
set_option linter.unusedSimpArgs false
def sortI (x : List Int) : List Int := x.mergeSort fun x y => decide (x ≤ y)
theorem sortI_len (x : List Int) : (sortI x).length = x.length := List.length_mergeSort _
theorem repC_ints {w : World} {N : NT} {M : MT} {b : Nat} : ∀ {x : List Int} {o : Nat} {L : List Nat},RepC w N M b o ((x.map (enc true (.i .i64))).flatMap AV.cells) L → L = [] ∧ ∀ j,j < x.length → w.cell? ⟨b,o + j,none⟩ = some (Value.int .i64 x[j]!)
 | [],o,L,h => by
  simp only [List.map_nil,List.flatMap_nil] at h
  cases h
  exact ⟨rfl,fun j hj => absurd hj (by simp)⟩
 | y :: ys,o,L,h => by
  simp only [List.map_cons,List.flatMap_cons] at h
  rw [enc_cells] at h
  simp only [cls,List.singleton_append] at h
  cases h with
  | cons h1 h2 h3 =>
   obtain ⟨e,h4⟩ := repC_ints h3
   cases h2 with
   | val v =>
    refine ⟨by rw [e]; rfl,fun j hj => ?_⟩
    cases j with
    | zero => simpa using h1
    | succ j =>
     have := h4 j (by simpa using hj)
     rw [show o + (j + 1) = o + 1 + j from by omega,this]
     simp
theorem repC_of_ints {w : World} {N : NT} {M : MT} {b : Nat} : ∀ {x : List Int} {o : Nat},(∀ j,j < x.length → w.cell? ⟨b,o + j,none⟩ = some (Value.int .i64 x[j]!)) → RepC w N M b o ((x.map (enc true (.i .i64))).flatMap AV.cells) []
 | [],o,h => by simp only [List.map_nil,List.flatMap_nil]; exact .nil _ _
 | y :: ys,o,h => by
  simp only [List.map_cons,List.flatMap_cons]
  rw [enc_cells]
  simp only [cls,List.singleton_append]
  have h0 := h 0 (by simp)
  refine .cons (L1 := []) (L2 := []) (v := Value.int .i64 y) (by simpa using h0) (.val _) (repC_of_ints fun j hj => ?_)
  have := h (j + 1) (by simpa using hj)
  rw [show o + 1 + j = o + (j + 1) from by omega,this]
  simp
theorem sort_CM {P : Program} {ρ : Ren} (Ly : Lays.n189 P ρ) (hg : Good P (ρ.f 189)) (F0 : List Int → Option (Unit × List Int)) (h0 : F0 [] = some ((),[])) (hc : CMok P ⟨ρ.f 189,.o 0 (.i .i64),.un,F0⟩) :
  CMok P ⟨ρ.f 189,.o 0 (.i .i64),.un,fun x => bif decide (List.length (α := Int) x ≤ 140737488355328) then some ((),sortI x) else none⟩ := by
 intro x r hr
 change List Int at x
 cases x with
 | nil =>
  have : r = ((),[]) := by
   have e : (some ((),sortI []) : Option (Unit × List Int)) = some r := hr
   simpa [sortI] using e.symm
  subst this
  exact hc [] ((),[]) h0
 | cons y ys =>
  obtain ⟨x,hx⟩ : ∃ x,x = y :: ys := ⟨_,rfl⟩
  rw [← hx] at hr ⊢
  have hpos : 0 < x.length := by rw [hx]; simp
  clear hx
  have hlen : x.length ≤ 140737488355328 := by
   refine Decidable.byContradiction fun hn => ?_
   have : (bif decide (x.length ≤ 140737488355328) then some ((),sortI x) else none : Option (Unit × List Int)) = some r := hr
   rw [dF hn] at this
   cases this
  have hr' : r = ((),sortI x) := by
   have : (bif decide (x.length ≤ 140737488355328) then some ((),sortI x) else none : Option (Unit × List Int)) = some r := hr
   rw [dT hlen] at this
   exact (Option.some.inj this).symm
  subst hr'
  refine ⟨by show Nat.beq x.length (sortI x).length = true; rw [sortI_len,Nat.beq_eq],hg,fun w N M L vs henv hrep => ?_⟩
  have hh := henv.hr
  have hh : HR w N M 0 [some (tb [] (.arr (.i .i64) true x))] L := hh
  cases hh with
  | live hm hb hnil =>
   rename_i m L1 L2
   cases hnil
   have hb : BR w N M ⟨1,0,x.map (enc true (.i .i64)),0⟩ m L1 := hb
   have hml : m.len = x.length := by rw [hb.len]; simp
   obtain ⟨hL1,hcells⟩ := repC_ints hb.rep
   have hsl : RepL w N M [.ref 0 x.length 0 x.length] vs [] := hrep
   generalize hLe : ([] : List Nat) = Le at hsl
   cases hsl with
   | cons h1 h2 =>
    cases h2
    generalize hax : AV.ref 0 x.length 0 x.length = ax at h1
    generalize hLf : ([] : List Nat) = Lf at h1
    cases h1 with
    | ref mm hmm hre =>
     cases hax
     rename_i a cap
     rw [hm] at hmm
     cases hmm
     obtain ⟨_,hre⟩ := hre m rfl
     obtain ⟨hle,hre⟩ := hre hml.symm
     rcases hre with ⟨hz,_⟩ | ⟨hv,ha,hcap,hroom⟩
     ·omega
     ·have hsz : m.sz = 1 := hb.sz
      have ha : a = some ⟨m.b,m.o,none⟩ := by rw [ha]; simp
      subst ha
      have hown : ownOf m L1 = [(m.b,m.fr)] := by simp [ownOf,hv,hL1]
      have hfr : m.fr ≤ m.o := by have := hb.fr; simpa using this
      have hLL : ownOf m L1 ++ [] = [(m.b,m.fr)] := by rw [hown]; rfl
      rw [hLL] at henv ⊢
      have hbs : m.b < w.heap.size := (henv.own (m.b,m.fr) (by simp)).1
      have hN : ∀ o,N m.b o → o < m.fr := (henv.own (m.b,m.fr) (by simp)).2
      have hrm := hb.rm hv
      rw [hml,hsz,Nat.mul_one] at hrm
      have hH : Holds (Value.int .i64) w m.b m.o x.toArray := fun j hj => by
       have hj' : j < x.length := by simpa using hj
       refine ⟨by rw [hcells j hj']; simp,(hrm.cell (by omega)).2⟩
      have hs : (sortI x).length = x.length := sortI_len x
      refine (Any.slices_Sort_int Ly m.b m.o cap x w hH hbs (by omega)).mono fun e w' ⟨he,n,os,hw⟩ => ?_
      have hw : w' = grow (putRow (Value.int .i64) (Sort.ahead w n) m.b m.o (sortI x).toArray) os := hw
      have hsize : (putRow (Value.int .i64) (Sort.ahead w n) m.b m.o (sortI x).toArray).heap.size = w.heap.size := by simp
      have hnew : ∀ j,j < (sortI x).length → w'.cell? ⟨m.b,m.o + j,none⟩ = some (Value.int .i64 (sortI x)[j]!) := fun j hj => by
       rw [hw,cell?_grow _ _ _ (by rw [hsize]; exact hbs)]
       rw [cell?_putRow (Value.int .i64) (Sort.ahead w n) m.b m.o x.toArray (sortI x).toArray (holds_ahead _ _ _ _ _ _ hH) (by simp [hs]) j (by simpa using hj)]
       simp
      have hold : ∀ a : Addr,a.block < w.heap.size → (a.block ≠ m.b ∨ a.off < m.o) → w'.cell? a = w.cell? a := fun a h1 h2 => by
       rw [hw,cell?_grow _ _ _ (by rw [hsize]; exact h1),cell?_putRow_other _ _ _ _ _ _ (by rcases h2 with h | h; exact .inl h; exact .inr (.inl h))]
       rfl
      have hblk : ∀ k,k < w.heap.size → k ≠ m.b → w'.heap[k]? = w.heap[k]? := fun k h1 h2 => by
       rw [hw]
       show ((putRow (Value.int .i64) (Sort.ahead w n) m.b m.o (sortI x).toArray).heap ++ os)[k]? = _
       rw [Array.getElem?_append,if_pos (by rw [hsize]; exact h1)]
       show ((mapBlock (Sort.ahead w n) m.b _).heap)[k]? = _
       simp only [mapBlock,Array.getElem?_modify,if_neg (Ne.symm h2),heap_ahead]
      have hshp : Shp w w' := fun b c e fz h => by
       have hb' : b < w.heap.size := by
        rcases Nat.lt_or_ge b w.heap.size with h' | h'
        ·exact h'
        ·rw [Array.getElem?_eq_none h'] at h; cases h
       by_cases hk : b = m.b
       ·subst hk
        refine ⟨putCells (Value.int .i64) m.o (sortI x).toArray c,?_,by simp [putCells]⟩
        rw [hw]
        show ((putRow (Value.int .i64) (Sort.ahead w n) m.b m.o (sortI x).toArray).heap ++ os)[m.b]? = _
        rw [Array.getElem?_append,if_pos (by rw [hsize]; exact hb')]
        show ((mapBlock (Sort.ahead w n) m.b _).heap)[m.b]? = _
        simp only [mapBlock,Array.getElem?_modify,if_true,heap_ahead,h,Option.map_some,onCells]
       ·exact ⟨c,by rw [hblk b hb' hk]; exact h,rfl⟩
      have hfrn : FrN N [m.b] w w' := by
       refine ⟨⟨by rw [hw]; rfl,by rw [hw]; rfl,by rw [hw]; rfl,by rw [hw,size_grow,hsize]; omega,fun k h1 h2 => hblk k h1 (by simpa using h2),hshp⟩,fun b o hn => ?_⟩
       refine hold _ (henv.nlt b o hn) ?_
       by_cases hk : b = m.b
       ·subst hk; exact .inr (Nat.lt_of_lt_of_le (hN o hn) hfr)
       ·exact .inl hk
      have hbr : BR w' N M ⟨1,0,(sortI x).map (enc true (.i .i64)),0⟩ m [] := by
       refine ⟨by rw [hml]; simp [hs],hsz,by simpa using hfr,fun y hy => ?_,repC_of_ints hnew,fun e => (by rw [hv] at e; cases e),fun _ => (hb.rm hv).gr hshp,Nat.zero_le _,fun i hi => absurd hi (by simp),fun h => hb.f0 rfl⟩
       obtain ⟨q,_,rfl⟩ := List.mem_map.1 hy
       rw [enc_cells,cls_len]; rfl
      have hown' : ownOf m [] = [(m.b,m.fr)] := by simp [ownOf,hv]
      have hhr : HR w' N M 0 [some (tb [] (.arr (.i .i64) true (sortI x)))] [(m.b,m.fr)] := by
       have := HR.live (hs := []) (L2 := []) hm hbr (.nil 1)
       rw [hown'] at this
       exact this
      refine ⟨.tuple #[],he,N,M,[(m.b,m.fr)],⟨.tup .nil,?_,hfrn,fun _ _ h => h,fun _ _ h => .inl h,fun p hp => .inr (by simpa using List.mem_map_of_mem hp),fun k m' m0 h1 h2 => ?_⟩⟩
      ·exact ⟨hhr,henv.nd,fun p hp => by
        have := henv.own p hp
        exact ⟨by rw [hw,size_grow,hsize]; omega,this.2⟩,fun b o h => by have := henv.nlt b o h; rw [hw,size_grow,hsize]; omega,fun k hk => henv.un k hk⟩
      ·have h1 : M (0 + k) = some (some m') := h1
       rw [Nat.zero_add,h2] at h1
       cases h1
       exact ⟨Nat.le_refl _,fun _ => rfl⟩
    | _ => cases hax
theorem xrun_noloop {R Ω : Type} {Γ : List CX} {Θ : TyO} {Λ Λ' : List (LC R)} {n : Nat} {res : TS → Option R} (nc : NC) : loopsOf nc = [] → ∀ (kn : TS → Option Ω) (ke : Nat → TS → Option Ω) (kr : R → Option Ω) (t : TS),xrun Γ Θ Λ n res nc kn ke kr t = xrun Γ Θ Λ' n res nc kn ke kr t := by
 induction nc with
 | seq a b iha ihb =>
  intro h kn ke kr t
  simp only [loopsOf,List.append_eq_nil_iff] at h
  simp only [xrun]
  rw [iha h.1]
  congr 1
  funext t
  exact ihb h.2 kn ke kr t
 | cond c a b iha ihb =>
  intro h kn ke kr t
  simp only [loopsOf,List.append_eq_nil_iff] at h
  simp only [xrun]
  rw [iha h.1,ihb h.2]
 | block id b ih =>
  intro h kn ke kr t
  cases b with
  | loop c => simp [loopsOf] at h
  | _ => exact ih h kn (fun i t => bif Nat.beq i id then kn t else ke i t) kr t
 | _ => intro _ _ _ _ _; rfl
noncomputable def rawLoop {R : Type} (Γ : List CX) (n : Nat) (res : TS → Option R) (id q : Nat) (s x : SK) (B : NC) (N : Nat) : LC R :=
 ⟨id,q,s,x,fun kx kr => iter (fun g v => splitL (xrun Γ [] [] n res B (fun t => (maskL n q s t).bind g) (fun i t => bif Nat.beq i id then (maskL n q x t).bind kx else none) kr) s v) N⟩
theorem LoopEq.raw {R : Type} {Γ : List CX} {Λ : List (LC R)} {n : Nat} {res : TS → Option R} {id q : Nat} {s x : SK} {B : NC} {N : Nat} (h : loopsOf B = []) : LoopEq Γ [] Λ n res (rawLoop Γ n res id q s x B N) B :=
 ⟨N,fun Ω kx kr g v => splitL (xrun Γ [] [] n res B (fun t => (maskL n q s t).bind g) (fun i t => bif Nat.beq i id then (maskL n q x t).bind kx else none) kr) s v,fun _ _ _ _ => rfl,fun Ω g kx kr v => by
  show splitL (xrun Γ [] Λ n res B _ _ kr) s v = _
  congr 1
  funext t
  exact xrun_noloop B h _ _ kr t⟩
noncomputable def rawM (P : Program) (Γ : List CX) (f : FuncId) (s sl sx : SK) (x : DenS s) : Option (DenR .un × DenW s) :=
 xfnM Γ [] (nfOf P f) s .un [rawLoop Γ (nfOf P f).n (resOfM (nfOf P f).n .un (nfOf P f).res s) 0 (blen s) sl sx ((loopsOf (nfOf P f).body).headD (0,.skip)).2 2] x
theorem rawM_ok {P : Program} {Γ : List CX} {f : FuncId} {s sl sx : SK} (hs : (nFn P f).isSome = true) (hm : P.follows .mixedOrders = true) (hΓ : AllOk P Γ) (hi : (loopsOf (nfOf P f).body).map Prod.fst = [0]) (hB : loopsOf ((loopsOf (nfOf P f).body).headD (0,.skip)).2 = [])
  (hp : (Nat.ble (slotsS s).length (nfOf P f).n && slotsOk s) = true) : CMok P ⟨f,s,.un,rawM P Γ f s sl sx⟩ := by
 rw [Bool.and_eq_true] at hp
 exact CM_ok (Θ := []) (Λ := [rawLoop Γ (nfOf P f).n (resOfM (nfOf P f).n .un (nfOf P f).res s) 0 (blen s) sl sx ((loopsOf (nfOf P f).body).headD (0,.skip)).2 2]) hs hm hΓ
  (by unfold idsOk; rw [hi]; rfl) ⟨LoopEq.raw hB,trivial⟩ (by rw [hp.1,hp.2,Bool.true_and,Bool.true_and]; show (Nat.ble (blen s) (blen s) && true) = true; rw [Bool.and_true]; exact Nat.ble_eq_true_of_le (Nat.le_refl _)) (fun _ => rfl)
noncomputable def rawC (P : Program) (Γ : List CX) (f : FuncId) (p : PK) (R : RK) (a : DenP p) : Option (DenR R) := xfn Γ [] (nfOf P f) p R [] a
theorem rawC_ok {P : Program} {Γ : List CX} {f : FuncId} {p : PK} {R : RK} (hs : (nFn P f).isSome = true) (hm : P.follows .mixedOrders = true) (hΓ : AllOk P Γ) (hi : (loopsOf (nfOf P f).body).isEmpty = true) (hp : Nat.ble (lenP p) (nfOf P f).n = true) : CTok P ⟨f,p,R,rawC P Γ f p R⟩ :=
 CT_ok (Θ := []) (Λ := []) hs hm hΓ (by unfold idsOk; rw [List.isEmpty_iff.1 hi]; rfl) trivial hp fun _ => rfl
noncomputable def rawM0 (P : Program) (Γ : List CX) (f : FuncId) (s : SK) (x : DenS s) : Option (DenR .un × DenW s) := xfnM Γ [] (nfOf P f) s .un [] x
theorem rawM0_ok {P : Program} {Γ : List CX} {f : FuncId} {s : SK} (hs : (nFn P f).isSome = true) (hm : P.follows .mixedOrders = true) (hΓ : AllOk P Γ) (hi : (loopsOf (nfOf P f).body).isEmpty = true) (hp : (Nat.ble (slotsS s).length (nfOf P f).n && (slotsOk s && true)) = true) : CMok P ⟨f,s,.un,rawM0 P Γ f s⟩ :=
 CM_ok (Θ := []) (Λ := []) hs hm hΓ (by unfold idsOk; rw [List.isEmpty_iff.1 hi]; rfl) trivial hp fun _ => rfl
end Go.Proofs.YtfmlmdnaeonobaaGreat.Nx
namespace Go.Proofs
open Go.Shelf
shelf_lay Lays.n189 Nm 189 at Tryz as Tryz.laysSort
end Go.Proofs
namespace Go.Proofs.YtfmlmdnaeonobaaGreat.C
open Go Go.Proofs.YtfmlmdnaeonobaaGreat.Nx Go.RowKit
set_option maxRecDepth 100000
set_option linter.unusedVariables false
noncomputable section
abbrev I : Ty := .i .i64
abbrev tItem : Ty := (.st (.pr .tx .bl))
abbrev tTrip : Ty := (.st (.pr I I))
abbrev tShelfV : Ty := (.st (.pr I (.sv tItem)))
abbrev tShelf : Ty := (.st (.pr I (.sl tItem)))
abbrev tL01Cur : Ty := (.st (.pr (.sl (.i .u8)) (.pr I I)))
abbrev tPeerV : Ty := (.st (.pr I (.pr .bl (.pr I (.pr (.sl I) (.pr (.sl I) (.sl tShelfV)))))))
abbrev tPeer : Ty := (.st (.pr I (.pr .bl (.pr I (.pr (.sl I) (.pr (.sl I) (.sl tShelf)))))))
abbrev tRing : Ty := (.st (.sl tPeer))
theorem mixed : Tryz.prog.follows .mixedOrders = true := by kernel_rfl
def x_f26 (N : Nat) (a0 : (List Int)) : Option Bool :=
 some (decide ((1048576:Int) < (a0.length : Int)))
abbrev ct_f26 (N : Nat) : CT := ⟨7,(.d (.sl (.i .u8))),(.t .bl),fun a => x_f26 N a⟩
theorem c_f26 (N : Nat) : CTok Tryz.prog (ct_f26 N) :=
 CT_ok (Γ := []) (Θ := []) (Λ := ([] : List (LC (DenR (.t .bl))))) (by kernel_rfl) mixed trivial (by kernel_rfl)
  trivial (by kernel_rfl) (fun a => by kernel_rfl)
def B_f80_L0 (N : Nat) {Ω : Type} (kx : DenS (.pr (.d 0 (.sl (.i .u8))) (.d 3 I)) → Option Ω) (kr : ((Den tL01Cur) × DenW (.d 0 (.sl (.i .u8)))) → Option Ω) (rec_ : DenS (.pr (.d 0 (.sl (.i .u8))) (.pr (.d 3 I) (.d 4 I))) → Option Ω) : DenS (.pr (.d 0 (.sl (.i .u8))) (.pr (.d 3 I) (.d 4 I))) → Option Ω := fun (s0,s3,s4) =>
 (bif (decide (s4 < (s0.length : Int))) then (bif (decide (s4 < (4000:Int))) then (bif (decide (0 ≤ s4) && decide (s4 < s0.length)) then rec_ (s0,(andI .i64 (wrap64 ((wrap64 ((wrap64 (s3 * (131:Int))) + (wrap64 (s0.getD s4.toNat (0:Int))))) + (7:Int))) (1073741823:Int)),(wrap64 (s4 + (1:Int)))) else none) else kx (s0,s3)) else kx (s0,s3))
def x_f80 (N : Nat) (a0 : (List Int)) : Option ((Den tL01Cur) × DenW (.d 0 (.sl (.i .u8)))) :=
 (iter (B_f80_L0 N (fun (x1,x2) => some ((x1,(0:Int),x2),())) (fun ρ3 => some (ρ3))) N (a0,(wrap64 ((95501:Int) + (a0.length : Int))),(0:Int))).bind fun r => bif (true) then some r else none
abbrev cm_f80 (N : Nat) : CM := ⟨68,(.d 0 (.sl (.i .u8))),(.pv tL01Cur),fun a => x_f80 N a⟩
theorem c_f80 (N : Nat) : CMok Tryz.prog (cm_f80 N) :=
 CM_ok (Γ := []) (Θ := []) (Λ := ([⟨0,0,(.pr (.d 0 (.sl (.i .u8))) (.pr (.d 3 I) (.d 4 I))),(.pr (.d 0 (.sl (.i .u8))) (.d 3 I)),fun {Ω} kx kr => iter (B_f80_L0 N kx kr) N⟩] : List (LC (DenR (.pv tL01Cur) × DenW (.d 0 (.sl (.i .u8))))))) (by kernel_rfl) mixed trivial (by kernel_rfl)
  ⟨LoopEq.mk N (fun Ω kx kr => B_f80_L0 N kx kr) (fun Ω g kx kr s => by kernel_rfl),trivial⟩ (by kernel_rfl) (fun a => by kernel_rfl)
def x_f78 (N : Nat) (a0 : (Den tL01Cur)) : Option (Int × DenW (.bv 0 tL01Cur)) :=
 ((bif (decide (a0.2.1 < (a0.1.length : Int))) then (bif (decide (0 ≤ a0.2.1) && decide (a0.2.1 < a0.1.length)) then some ((andI .i64 (wrap64 ((andI .i64 (xorI .i64 (shrI .i64 (wrap64 ((wrap64 (a0.2.2 * (6364136223846793005:Int))) + (1442695040888963407:Int))) (33:Int)) (shrI .i64 (wrap64 ((wrap64 (a0.2.2 * (6364136223846793005:Int))) + (1442695040888963407:Int))) (45:Int))) (255:Int)) + (wrap64 (a0.1.getD a0.2.1.toNat (0:Int))))) (255:Int)),(a0.1,(wrap64 (a0.2.1 + (1:Int))),(wrap64 ((wrap64 (a0.2.2 * (6364136223846793005:Int))) + (1442695040888963407:Int))))) else none) else some ((andI .i64 (xorI .i64 (shrI .i64 (wrap64 ((wrap64 (a0.2.2 * (6364136223846793005:Int))) + (1442695040888963407:Int))) (33:Int)) (shrI .i64 (wrap64 ((wrap64 (a0.2.2 * (6364136223846793005:Int))) + (1442695040888963407:Int))) (45:Int))) (255:Int)),(a0.1,a0.2.1,(wrap64 ((wrap64 (a0.2.2 * (6364136223846793005:Int))) + (1442695040888963407:Int))))))).bind fun r => bif (true) then some r else none
abbrev cm_f78 (N : Nat) : CM := ⟨92,(.bv 0 tL01Cur),(.t I),fun a => x_f78 N a⟩
theorem c_f78 (N : Nat) : CMok Tryz.prog (cm_f78 N) :=
 CM_ok (Γ := []) (Θ := []) (Λ := ([] : List (LC (DenR (.t I) × DenW (.bv 0 tL01Cur))))) (by kernel_rfl) mixed trivial (by kernel_rfl)
  trivial (by kernel_rfl) (fun a => by kernel_rfl)
def x_f77 (N : Nat) (a0 : (Den tL01Cur)) (a1 : Int) : Option (Int × DenW (.pr (.bv 0 tL01Cur) (.d 1 I))) :=
 ((bif (decide (a1 ≤ (0:Int))) then some ((0:Int),a0,()) else (bif (decide (a1 ≤ (256:Int))) then (x_f78 N a0).bind fun r1 => (bif (!decide (a1 = 0)) then some ((r1.1.tmod a1),r1.2,()) else none) else (x_f78 N a0).bind fun r2 => (x_f78 N r2.2).bind fun r3 => (x_f78 N r3.2).bind fun r4 => (x_f78 N r4.2).bind fun r5 => (bif (!decide (a1 = 0)) then some (((wrap64 ((wrap64 ((wrap64 ((wrap64 (r2.1 * (16777216:Int))) + (wrap64 (r3.1 * (65536:Int))))) + (wrap64 (r4.1 * (256:Int))))) + r5.1)).tmod a1),r5.2,()) else none)))).bind fun r => bif (true && true) then some r else none
abbrev cm_f77 (N : Nat) : CM := ⟨78,(.pr (.bv 0 tL01Cur) (.d 1 I)),(.t I),fun a => x_f77 N a.1 a.2⟩
theorem c_f77 (N : Nat) : CMok Tryz.prog (cm_f77 N) :=
 CM_ok (Γ := [.m (cm_f78 N)]) (Θ := []) (Λ := ([] : List (LC (DenR (.t I) × DenW (.pr (.bv 0 tL01Cur) (.d 1 I)))))) (by kernel_rfl) mixed ⟨c_f78 N,trivial⟩ (by kernel_rfl)
  trivial (by kernel_rfl) (fun a => by kernel_rfl)
def x_f91 (N : Nat) (a0 : (Den tL01Cur)) : Option ((List Int) × DenW (.bv 0 tL01Cur)) :=
 ((x_f77 N a0 ((5 : Nat) : Int)).bind fun r1 => (bif (decide (0 ≤ r1.1) && decide (r1.1 < ([[(10:Int),(80:Int),(150:Int),(220:Int),(30:Int),(100:Int),(200:Int),(250:Int)],[(1:Int),(2:Int),(3:Int),(4:Int),(5:Int),(6:Int),(7:Int),(8:Int)],[(250:Int),(5:Int),(60:Int),(130:Int),(255:Int),(0:Int),(90:Int),(128:Int)],[(64:Int),(128:Int),(192:Int),(0:Int),(32:Int),(96:Int)],[(9:Int),(99:Int),(199:Int),(249:Int)]]).length)) then (bif (Nat.beq r1.1.toNat r1.1.toNat) then some ((([[(10:Int),(80:Int),(150:Int),(220:Int),(30:Int),(100:Int),(200:Int),(250:Int)],[(1:Int),(2:Int),(3:Int),(4:Int),(5:Int),(6:Int),(7:Int),(8:Int)],[(250:Int),(5:Int),(60:Int),(130:Int),(255:Int),(0:Int),(90:Int),(128:Int)],[(64:Int),(128:Int),(192:Int),(0:Int),(32:Int),(96:Int)],[(9:Int),(99:Int),(199:Int),(249:Int)]]).getD r1.1.toNat []),r1.2.1) else none) else none)).bind fun r => bif (true) then some r else none
abbrev cm_f91 (N : Nat) : CM := ⟨67,(.bv 0 tL01Cur),(.t (.sl I)),fun a => x_f91 N a⟩
theorem c_f91 (N : Nat) : CMok Tryz.prog (cm_f91 N) :=
 CM_ok (Γ := [.m (cm_f77 N)]) (Θ := [(4,I),(5,I),(6,I),(7,I),(8,I),(9,(.sl I))]) (Λ := ([] : List (LC (DenR (.t (.sl I)) × DenW (.bv 0 tL01Cur))))) (by kernel_rfl) mixed ⟨c_f77 N,trivial⟩ (by kernel_rfl)
  trivial (by kernel_rfl) (fun a => by kernel_rfl)
def x_f54 (N : Nat) (a0 : (List Int)) : Option (List Int) :=
 (x_f80 N a0).bind fun r1 => (x_f91 N r1.1).bind fun r2 => some r2.1
abbrev ct_f54 (N : Nat) : CT := ⟨8,(.d (.sl (.i .u8))),(.t (.sl I)),fun a => x_f54 N a⟩
theorem c_f54 (N : Nat) : CTok Tryz.prog (ct_f54 N) :=
 CT_ok (Γ := [.m (cm_f80 N),.m (cm_f91 N)]) (Θ := []) (Λ := ([] : List (LC (DenR (.t (.sl I)))))) (by kernel_rfl) mixed ⟨c_f80 N,⟨c_f91 N,trivial⟩⟩ (by kernel_rfl)
  trivial (by kernel_rfl) (fun a => by kernel_rfl)
def x_f18 (N : Nat) (a0 : Int) (a1 : Int) (a2 : Int) : Option Bool :=
 (bif (decide (a1 ≤ a0)) then some (decide (a0 ≤ a2)) else some false)
abbrev ct_f18 (N : Nat) : CT := ⟨79,(.pr (.d I) (.pr (.d I) (.d I))),(.t .bl),fun a => x_f18 N a.1 a.2.1 a.2.2⟩
theorem c_f18 (N : Nat) : CTok Tryz.prog (ct_f18 N) :=
 CT_ok (Γ := []) (Θ := []) (Λ := ([] : List (LC (DenR (.t .bl))))) (by kernel_rfl) mixed trivial (by kernel_rfl)
  trivial (by kernel_rfl) (fun a => by kernel_rfl)
def x_f19 (N : Nat) (a0 : Int) : Option Bool :=
 (x_f18 N a0 (0:Int) (255:Int)).bind fun r1 => some r1
abbrev ct_f19 (N : Nat) : CT := ⟨69,(.d I),(.t .bl),fun a => x_f19 N a⟩
theorem c_f19 (N : Nat) : CTok Tryz.prog (ct_f19 N) :=
 CT_ok (Γ := [.c (ct_f18 N)]) (Θ := []) (Λ := ([] : List (LC (DenR (.t .bl))))) (by kernel_rfl) mixed ⟨c_f18 N,trivial⟩ (by kernel_rfl)
  trivial (by kernel_rfl) (fun a => by kernel_rfl)
def B_f43_L0 (N : Nat) {Ω : Type} (kx : DenS .un → Option Ω) (kr : Int → Option Ω) (rec_ : DenS (.pr (.d 0 (.sl I)) (.pr (.d 1 I) (.pr (.d 7 I) (.d 8 I)))) → Option Ω) : DenS (.pr (.d 0 (.sl I)) (.pr (.d 1 I) (.pr (.d 7 I) (.d 8 I)))) → Option Ω := fun (s0,s1,s7,s8) =>
 (bif (decide (s8 < s7)) then (bif (decide (0 ≤ s8) && decide (s8 < s0.length)) then (bif (decide (s1 = (s0.getD s8.toNat (0:Int)))) then kr s8 else rec_ (s0,s1,s7,(wrap64 (s8 + (1:Int))))) else none) else kx ())
def x_f43 (N : Nat) (a0 : (List Int)) (a1 : Int) : Option Int :=
 iter (B_f43_L0 N (fun _ => some (-1:Int)) (fun ρ1 => some (ρ1))) N (a0,a1,(a0.length : Int),(0:Int))
abbrev ct_f43 (N : Nat) : CT := ⟨123,(.pr (.d (.sl I)) (.d I)),(.t I),fun a => x_f43 N a.1 a.2⟩
theorem c_f43 (N : Nat) : CTok Tryz.prog (ct_f43 N) :=
 CT_ok (Γ := []) (Θ := []) (Λ := ([⟨0,0,(.pr (.d 0 (.sl I)) (.pr (.d 1 I) (.pr (.d 7 I) (.d 8 I)))),.un,fun {Ω} kx kr => iter (B_f43_L0 N kx kr) N⟩] : List (LC (DenR (.t I))))) (by kernel_rfl) mixed trivial (by kernel_rfl)
  ⟨LoopEq.mk N (fun Ω kx kr => B_f43_L0 N kx kr) (fun Ω g kx kr s => by kernel_rfl),trivial⟩ (by kernel_rfl) (fun a => by kernel_rfl)
def x_f37 (N : Nat) (a0 : (List Int)) (a1 : Int) : Option Bool :=
 (x_f43 N a0 a1).bind fun r1 => some (decide ((0:Int) ≤ r1))
abbrev ct_f37 (N : Nat) : CT := ⟨70,(.pr (.d (.sl I)) (.d I)),(.t .bl),fun a => x_f37 N a.1 a.2⟩
theorem c_f37 (N : Nat) : CTok Tryz.prog (ct_f37 N) :=
 CT_ok (Γ := [.c (ct_f43 N)]) (Θ := []) (Λ := ([] : List (LC (DenR (.t .bl))))) (by kernel_rfl) mixed ⟨c_f43 N,trivial⟩ (by kernel_rfl)
  trivial (by kernel_rfl) (fun a => by kernel_rfl)
def x_f24 (N : Nat) (a0 : Int) : Option Int :=
 some ((wrap64 ((a0.tmod (256:Int)) + (256:Int))).tmod (256:Int))
abbrev ct_f24 (N : Nat) : CT := ⟨135,(.d I),(.t I),fun a => x_f24 N a⟩
theorem c_f24 (N : Nat) : CTok Tryz.prog (ct_f24 N) :=
 CT_ok (Γ := []) (Θ := []) (Λ := ([] : List (LC (DenR (.t I))))) (by kernel_rfl) mixed trivial (by kernel_rfl)
  trivial (by kernel_rfl) (fun a => by kernel_rfl)
def x_f2 (N : Nat) (a0 : Int) (a1 : Int) : Option Int :=
 (x_f24 N a1).bind fun r1 => (x_f24 N a0).bind fun r2 => (x_f24 N (wrap64 (r1 - r2))).bind fun r3 => some r3
abbrev ct_f2 (N : Nat) : CT := ⟨137,(.pr (.d I) (.d I)),(.t I),fun a => x_f2 N a.1 a.2⟩
theorem c_f2 (N : Nat) : CTok Tryz.prog (ct_f2 N) :=
 CT_ok (Γ := [.c (ct_f24 N)]) (Θ := []) (Λ := ([] : List (LC (DenR (.t I))))) (by kernel_rfl) mixed ⟨c_f24 N,trivial⟩ (by kernel_rfl)
  trivial (by kernel_rfl) (fun a => by kernel_rfl)
def x_f6 (N : Nat) (a0 : Int) (a1 : Int) (a2 : Int) : Option Int :=
 (x_f2 N a2 a0).bind fun r1 => (x_f2 N a2 a1).bind fun r2 => some (wrap64 (r1 - r2))
abbrev ct_f6 (N : Nat) : CT := ⟨147,(.pr (.d I) (.pr (.d I) (.ip I))),(.t I),fun a => x_f6 N a.1 a.2.1 a.2.2⟩
theorem c_f6 (N : Nat) : CTok Tryz.prog (ct_f6 N) :=
 CT_ok (Γ := [.c (ct_f2 N)]) (Θ := []) (Λ := ([] : List (LC (DenR (.t I))))) (by kernel_rfl) mixed ⟨c_f2 N,trivial⟩ (by kernel_rfl)
  trivial (by kernel_rfl) (fun a => by kernel_rfl)
def B_f46_L2 (N : Nat) {Ω : Type} (kx : DenS (.pr (.o 0 I) (.pr (.d 1 I) (.pr (.d 2 I) (.pr (.fn 3 147 (.ip I)) (.d 8 I))))) → Option Ω) (kr : (Unit × DenW (.pr (.o 0 I) (.pr (.d 1 I) (.pr (.d 2 I) (.fn 3 147 (.ip I)))))) → Option Ω) (rec_ : DenS (.pr (.o 0 I) (.pr (.d 1 I) (.pr (.d 2 I) (.pr (.fn 3 147 (.ip I)) (.pr (.d 8 I) (.d 9 I)))))) → Option Ω) : DenS (.pr (.o 0 I) (.pr (.d 1 I) (.pr (.d 2 I) (.pr (.fn 3 147 (.ip I)) (.pr (.d 8 I) (.d 9 I)))))) → Option Ω := fun (s0,s1,s2,s3,s8,s9) =>
 (bif (decide (s1 < s9)) then (bif (decide (0 ≤ s9) && decide (s9 < s0.length)) then (bif (decide (0 ≤ (wrap64 (s9 - (1:Int)))) && decide ((wrap64 (s9 - (1:Int))) < s0.length)) then (x_f6 N (s0.getD s9.toNat (0:Int)) (s0.getD ((wrap64 (s9 - (1:Int))).toNat) (0:Int)) s3).bind fun r1 => (bif (decide (r1 < (0:Int))) then (bif (decide (0 ≤ (wrap64 (s9 - (1:Int)))) && decide ((wrap64 (s9 - (1:Int))) < s0.length)) then (bif (decide (0 ≤ s9) && decide (s9 < s0.length)) then (bif (decide (0 ≤ s9) && decide (s9 < s0.length)) then (bif (decide (0 ≤ (wrap64 (s9 - (1:Int)))) && decide ((wrap64 (s9 - (1:Int))) < (s0.set s9.toNat (s0.getD ((wrap64 (s9 - (1:Int))).toNat) (0:Int))).length)) then rec_ (((s0.set s9.toNat (s0.getD ((wrap64 (s9 - (1:Int))).toNat) (0:Int))).set ((wrap64 (s9 - (1:Int))).toNat) (s0.getD s9.toNat (0:Int))),s1,s2,s3,s8,(wrap64 (s9 - (1:Int)))) else none) else none) else none) else none) else kx (s0,s1,s2,s3,s8)) else none) else none) else kx (s0,s1,s2,s3,s8))
def B_f46_L0 (N : Nat) {Ω : Type} (kx : DenS (.o 0 I) → Option Ω) (kr : (Unit × DenW (.pr (.o 0 I) (.pr (.d 1 I) (.pr (.d 2 I) (.fn 3 147 (.ip I)))))) → Option Ω) (rec_ : DenS (.pr (.o 0 I) (.pr (.d 1 I) (.pr (.d 2 I) (.pr (.fn 3 147 (.ip I)) (.d 8 I))))) → Option Ω) : DenS (.pr (.o 0 I) (.pr (.d 1 I) (.pr (.d 2 I) (.pr (.fn 3 147 (.ip I)) (.d 8 I))))) → Option Ω := fun (s0,s1,s2,s3,s8) =>
 (bif (decide (s8 < s2)) then iter (B_f46_L2 N (fun (x2,x3,x4,x5,x6) => rec_ (x2,x3,x4,x5,(wrap64 (x6 + (1:Int))))) (fun ρ7 => kr (ρ7))) N (s0,s1,s2,s3,s8,s8) else kx s0)
def x_f46 (N : Nat) (a0 : (List Int)) (a1 : Int) (a2 : Int) (a3 : (DenP (.ip I))) : Option (Unit × DenW (.pr (.o 0 I) (.pr (.d 1 I) (.pr (.d 2 I) (.fn 3 147 (.ip I)))))) :=
 (iter (B_f46_L0 N (fun x8 => some ((),x8,(),(),())) (fun ρ9 => some (ρ9))) N (a0,a1,a2,a3,(wrap64 (a1 + (1:Int))))).bind fun r => bif (Nat.beq a0.length r.2.1.length && (true && (true && true))) then some r else none
abbrev cm_f46 (N : Nat) : CM := ⟨175,(.pr (.o 0 I) (.pr (.d 1 I) (.pr (.d 2 I) (.fn 3 147 (.ip I))))),.un,fun a => x_f46 N a.1 a.2.1 a.2.2.1 a.2.2.2⟩
theorem c_f46 (N : Nat) : CMok Tryz.prog (cm_f46 N) :=
 CM_ok (Γ := [.c (ct_f6 N)]) (Θ := []) (Λ := ([⟨0,1,(.pr (.o 0 I) (.pr (.d 1 I) (.pr (.d 2 I) (.pr (.fn 3 147 (.ip I)) (.d 8 I))))),(.o 0 I),fun {Ω} kx kr => iter (B_f46_L0 N kx kr) N⟩,⟨2,1,(.pr (.o 0 I) (.pr (.d 1 I) (.pr (.d 2 I) (.pr (.fn 3 147 (.ip I)) (.pr (.d 8 I) (.d 9 I)))))),(.pr (.o 0 I) (.pr (.d 1 I) (.pr (.d 2 I) (.pr (.fn 3 147 (.ip I)) (.d 8 I))))),fun {Ω} kx kr => iter (B_f46_L2 N kx kr) N⟩] : List (LC (DenR .un × DenW (.pr (.o 0 I) (.pr (.d 1 I) (.pr (.d 2 I) (.fn 3 147 (.ip I))))))))) (by kernel_rfl) mixed ⟨c_f6 N,trivial⟩ (by kernel_rfl)
  ⟨LoopEq.mk N (fun Ω kx kr => B_f46_L0 N kx kr) (fun Ω g kx kr s => by kernel_rfl),⟨LoopEq.mk N (fun Ω kx kr => B_f46_L2 N kx kr) (fun Ω g kx kr s => by kernel_rfl),trivial⟩⟩ (by kernel_rfl) (fun a => by kernel_rfl)
def B_f50_L0 (N : Nat) {Ω : Type} (kx : DenS (.o 0 I) → Option Ω) (kr : (Unit × DenW (.pr (.o 0 I) (.pr (.d 1 I) (.pr (.d 2 I) (.pr (.d 3 I) (.fn 4 147 (.ip I))))))) → Option Ω) (rec_ : DenS (.pr (.o 0 I) (.pr (.d 1 I) (.pr (.d 2 I) (.pr (.d 3 I) (.d 10 I))))) → Option Ω) : DenS (.pr (.o 0 I) (.pr (.d 1 I) (.pr (.d 2 I) (.pr (.d 3 I) (.d 10 I))))) → Option Ω := fun (s0,s1,s2,s3,s10) =>
 (bif (decide (s10 < s3)) then (bif (decide (0 ≤ (wrap64 (s2 + s10))) && decide ((wrap64 (s2 + s10)) < s0.length)) then (bif (decide (0 ≤ (wrap64 (s1 + s10))) && decide ((wrap64 (s1 + s10)) < s0.length)) then (bif (decide (0 ≤ (wrap64 (s1 + s10))) && decide ((wrap64 (s1 + s10)) < s0.length)) then (bif (decide (0 ≤ (wrap64 (s2 + s10))) && decide ((wrap64 (s2 + s10)) < (s0.set ((wrap64 (s1 + s10)).toNat) (s0.getD ((wrap64 (s2 + s10)).toNat) (0:Int))).length)) then (let l1 : List Int := ((s0.set ((wrap64 (s1 + s10)).toNat) (s0.getD ((wrap64 (s2 + s10)).toNat) (0:Int))).set ((wrap64 (s2 + s10)).toNat) (s0.getD ((wrap64 (s1 + s10)).toNat) (0:Int))); rec_ (l1,s1,s2,s3,(wrap64 (s10 + (1:Int))))) else none) else none) else none) else none) else kx s0)
def x_f50 (N : Nat) (a0 : (List Int)) (a1 : Int) (a2 : Int) (a3 : Int) (a4 : (DenP (.ip I))) : Option (Unit × DenW (.pr (.o 0 I) (.pr (.d 1 I) (.pr (.d 2 I) (.pr (.d 3 I) (.fn 4 147 (.ip I))))))) :=
 (iter (B_f50_L0 N (fun x2 => some ((),x2,(),(),(),())) (fun ρ3 => some (ρ3))) N (a0,a1,a2,a3,(0:Int))).bind fun r => bif (Nat.beq a0.length r.2.1.length && (true && (true && (true && true)))) then some r else none
abbrev cm_f50 (N : Nat) : CM := ⟨180,(.pr (.o 0 I) (.pr (.d 1 I) (.pr (.d 2 I) (.pr (.d 3 I) (.fn 4 147 (.ip I)))))),.un,fun a => x_f50 N a.1 a.2.1 a.2.2.1 a.2.2.2.1 a.2.2.2.2⟩
theorem c_f50 (N : Nat) : CMok Tryz.prog (cm_f50 N) :=
 CM_ok (Γ := []) (Θ := []) (Λ := ([⟨0,1,(.pr (.o 0 I) (.pr (.d 1 I) (.pr (.d 2 I) (.pr (.d 3 I) (.d 10 I))))),(.o 0 I),fun {Ω} kx kr => iter (B_f50_L0 N kx kr) N⟩] : List (LC (DenR .un × DenW (.pr (.o 0 I) (.pr (.d 1 I) (.pr (.d 2 I) (.pr (.d 3 I) (.fn 4 147 (.ip I)))))))))) (by kernel_rfl) mixed trivial (by kernel_rfl)
  ⟨LoopEq.mk N (fun Ω kx kr => B_f50_L0 N kx kr) (fun Ω g kx kr s => by kernel_rfl),trivial⟩ (by kernel_rfl) (fun a => by kernel_rfl)
def B_f48_L0 (N : Nat) {Ω : Type} (kx : DenS (.pr (.o 0 I) (.pr (.d 2 I) (.pr (.fn 4 147 (.ip I)) (.d 10 I)))) → Option Ω) (kr : (Unit × DenW (.pr (.o 0 I) (.pr (.d 1 I) (.pr (.d 2 I) (.pr (.d 3 I) (.fn 4 147 (.ip I))))))) → Option Ω) (rec_ : DenS (.pr (.o 0 I) (.pr (.d 2 I) (.pr (.fn 4 147 (.ip I)) (.pr (.d 10 I) (.d 11 I))))) → Option Ω) : DenS (.pr (.o 0 I) (.pr (.d 2 I) (.pr (.fn 4 147 (.ip I)) (.pr (.d 10 I) (.d 11 I))))) → Option Ω := fun (s0,s2,s4,s10,s11) =>
 (bif (!decide (s10 = s11)) then (bif (decide (s11 < s10)) then (x_f50 N s0 (wrap64 (s2 - s10)) s2 s11 s4).bind fun r1 => rec_ (r1.2.1,s2,s4,(wrap64 (s10 - s11)),s11) else (x_f50 N s0 (wrap64 (s2 - s10)) (wrap64 ((wrap64 (s2 + s11)) - s10)) s10 s4).bind fun r2 => rec_ (r2.2.1,s2,s4,s10,(wrap64 (s11 - s10)))) else kx (s0,s2,s4,s10))
def x_f48 (N : Nat) (a0 : (List Int)) (a1 : Int) (a2 : Int) (a3 : Int) (a4 : (DenP (.ip I))) : Option (Unit × DenW (.pr (.o 0 I) (.pr (.d 1 I) (.pr (.d 2 I) (.pr (.d 3 I) (.fn 4 147 (.ip I))))))) :=
 (iter (B_f48_L0 N (fun (x3,x4,x5,x6) => (x_f50 N x3 (wrap64 (x4 - x6)) x4 x6 x5).bind fun r7 => some ((),r7.2.1,(),(),(),())) (fun ρ8 => some (ρ8))) N (a0,a2,a4,(wrap64 (a2 - a1)),(wrap64 (a3 - a2)))).bind fun r => bif (Nat.beq a0.length r.2.1.length && (true && (true && (true && true)))) then some r else none
abbrev cm_f48 (N : Nat) : CM := ⟨179,(.pr (.o 0 I) (.pr (.d 1 I) (.pr (.d 2 I) (.pr (.d 3 I) (.fn 4 147 (.ip I)))))),.un,fun a => x_f48 N a.1 a.2.1 a.2.2.1 a.2.2.2.1 a.2.2.2.2⟩
theorem c_f48 (N : Nat) : CMok Tryz.prog (cm_f48 N) :=
 CM_ok (Γ := [.m (cm_f50 N)]) (Θ := []) (Λ := ([⟨0,1,(.pr (.o 0 I) (.pr (.d 2 I) (.pr (.fn 4 147 (.ip I)) (.pr (.d 10 I) (.d 11 I))))),(.pr (.o 0 I) (.pr (.d 2 I) (.pr (.fn 4 147 (.ip I)) (.d 10 I)))),fun {Ω} kx kr => iter (B_f48_L0 N kx kr) N⟩] : List (LC (DenR .un × DenW (.pr (.o 0 I) (.pr (.d 1 I) (.pr (.d 2 I) (.pr (.d 3 I) (.fn 4 147 (.ip I)))))))))) (by kernel_rfl) mixed ⟨c_f50 N,trivial⟩ (by kernel_rfl)
  ⟨LoopEq.mk N (fun Ω kx kr => B_f48_L0 N kx kr) (fun Ω g kx kr s => by kernel_rfl),trivial⟩ (by kernel_rfl) (fun a => by kernel_rfl)
def B_f51_L0 (N : Nat) {Ω : Type} (kx : DenS (.pr (.o 0 I) (.pr (.d 1 I) (.d 10 I))) → Option Ω) (kr : (Unit × DenW (.pr (.o 0 I) (.pr (.d 1 I) (.pr (.d 2 I) (.pr (.d 3 I) (.fn 4 147 (.ip I))))))) → Option Ω) (rec_ : DenS (.pr (.o 0 I) (.pr (.d 1 I) (.pr (.fn 4 147 (.ip I)) (.pr (.d 10 I) (.d 11 I))))) → Option Ω) : DenS (.pr (.o 0 I) (.pr (.d 1 I) (.pr (.fn 4 147 (.ip I)) (.pr (.d 10 I) (.d 11 I))))) → Option Ω := fun (s0,s1,s4,s10,s11) =>
 (bif (decide (s10 < s11)) then (bif (decide (0 ≤ (wrap64 (shrI .u64 ((wrap64 (s10 + s11)) % 18446744073709551616) (1:Int)))) && decide ((wrap64 (shrI .u64 ((wrap64 (s10 + s11)) % 18446744073709551616) (1:Int))) < s0.length)) then (bif (decide (0 ≤ s1) && decide (s1 < s0.length)) then (x_f6 N (s0.getD ((wrap64 (shrI .u64 ((wrap64 (s10 + s11)) % 18446744073709551616) (1:Int))).toNat) (0:Int)) (s0.getD s1.toNat (0:Int)) s4).bind fun r1 => (bif (decide (r1 < (0:Int))) then rec_ (s0,s1,s4,(wrap64 ((wrap64 (shrI .u64 ((wrap64 (s10 + s11)) % 18446744073709551616) (1:Int))) + (1:Int))),s11) else rec_ (s0,s1,s4,s10,(wrap64 (shrI .u64 ((wrap64 (s10 + s11)) % 18446744073709551616) (1:Int))))) else none) else none) else kx (s0,s1,s10))
def B_f51_L2 (N : Nat) {Ω : Type} (kx : DenS (.o 0 I) → Option Ω) (kr : (Unit × DenW (.pr (.o 0 I) (.pr (.d 1 I) (.pr (.d 2 I) (.pr (.d 3 I) (.fn 4 147 (.ip I))))))) → Option Ω) (rec_ : DenS (.pr (.o 0 I) (.pr (.d 10 I) (.d 13 I))) → Option Ω) : DenS (.pr (.o 0 I) (.pr (.d 10 I) (.d 13 I))) → Option Ω := fun (s0,s10,s13) =>
 (bif (decide (s13 < (wrap64 (s10 - (1:Int))))) then (bif (decide (0 ≤ (wrap64 (s13 + (1:Int)))) && decide ((wrap64 (s13 + (1:Int))) < s0.length)) then (bif (decide (0 ≤ s13) && decide (s13 < s0.length)) then (bif (decide (0 ≤ s13) && decide (s13 < s0.length)) then (bif (decide (0 ≤ (wrap64 (s13 + (1:Int)))) && decide ((wrap64 (s13 + (1:Int))) < (s0.set s13.toNat (s0.getD ((wrap64 (s13 + (1:Int))).toNat) (0:Int))).length)) then rec_ (((s0.set s13.toNat (s0.getD ((wrap64 (s13 + (1:Int))).toNat) (0:Int))).set ((wrap64 (s13 + (1:Int))).toNat) (s0.getD s13.toNat (0:Int))),s10,(wrap64 (s13 + (1:Int)))) else none) else none) else none) else none) else kx s0)
def B_f51_L4 (N : Nat) {Ω : Type} (kx : DenS (.pr (.o 0 I) (.pr (.d 2 I) (.d 14 I))) → Option Ω) (kr : (Unit × DenW (.pr (.o 0 I) (.pr (.d 1 I) (.pr (.d 2 I) (.pr (.d 3 I) (.fn 4 147 (.ip I))))))) → Option Ω) (rec_ : DenS (.pr (.o 0 I) (.pr (.d 2 I) (.pr (.fn 4 147 (.ip I)) (.pr (.d 14 I) (.d 15 I))))) → Option Ω) : DenS (.pr (.o 0 I) (.pr (.d 2 I) (.pr (.fn 4 147 (.ip I)) (.pr (.d 14 I) (.d 15 I))))) → Option Ω := fun (s0,s2,s4,s14,s15) =>
 (bif (decide (s14 < s15)) then (bif (decide (0 ≤ s2) && decide (s2 < s0.length)) then (bif (decide (0 ≤ (wrap64 (shrI .u64 ((wrap64 (s14 + s15)) % 18446744073709551616) (1:Int)))) && decide ((wrap64 (shrI .u64 ((wrap64 (s14 + s15)) % 18446744073709551616) (1:Int))) < s0.length)) then (x_f6 N (s0.getD s2.toNat (0:Int)) (s0.getD ((wrap64 (shrI .u64 ((wrap64 (s14 + s15)) % 18446744073709551616) (1:Int))).toNat) (0:Int)) s4).bind fun r8 => (bif (!(decide (r8 < (0:Int)))) then rec_ (s0,s2,s4,(wrap64 ((wrap64 (shrI .u64 ((wrap64 (s14 + s15)) % 18446744073709551616) (1:Int))) + (1:Int))),s15) else rec_ (s0,s2,s4,s14,(wrap64 (shrI .u64 ((wrap64 (s14 + s15)) % 18446744073709551616) (1:Int))))) else none) else none) else kx (s0,s2,s14))
def B_f51_L6 (N : Nat) {Ω : Type} (kx : DenS (.o 0 I) → Option Ω) (kr : (Unit × DenW (.pr (.o 0 I) (.pr (.d 1 I) (.pr (.d 2 I) (.pr (.d 3 I) (.fn 4 147 (.ip I))))))) → Option Ω) (rec_ : DenS (.pr (.o 0 I) (.pr (.d 14 I) (.d 17 I))) → Option Ω) : DenS (.pr (.o 0 I) (.pr (.d 14 I) (.d 17 I))) → Option Ω := fun (s0,s14,s17) =>
 (bif (decide (s14 < s17)) then (bif (decide (0 ≤ (wrap64 (s17 - (1:Int)))) && decide ((wrap64 (s17 - (1:Int))) < s0.length)) then (bif (decide (0 ≤ s17) && decide (s17 < s0.length)) then (bif (decide (0 ≤ s17) && decide (s17 < s0.length)) then (bif (decide (0 ≤ (wrap64 (s17 - (1:Int)))) && decide ((wrap64 (s17 - (1:Int))) < (s0.set s17.toNat (s0.getD ((wrap64 (s17 - (1:Int))).toNat) (0:Int))).length)) then rec_ (((s0.set s17.toNat (s0.getD ((wrap64 (s17 - (1:Int))).toNat) (0:Int))).set ((wrap64 (s17 - (1:Int))).toNat) (s0.getD s17.toNat (0:Int))),s14,(wrap64 (s17 - (1:Int)))) else none) else none) else none) else none) else kx s0)
def B_f51_L8 (N : Nat) {Ω : Type} (kx : DenS (.pr (.o 0 I) (.pr (.d 1 I) (.pr (.d 2 I) (.pr (.d 3 I) (.pr (.fn 4 147 (.ip I)) (.pr (.d 18 I) (.pr (.d 19 I) (.d 20 I)))))))) → Option Ω) (kr : (Unit × DenW (.pr (.o 0 I) (.pr (.d 1 I) (.pr (.d 2 I) (.pr (.d 3 I) (.fn 4 147 (.ip I))))))) → Option Ω) (rec_ : DenS (.pr (.o 0 I) (.pr (.d 1 I) (.pr (.d 2 I) (.pr (.d 3 I) (.pr (.fn 4 147 (.ip I)) (.pr (.d 18 I) (.pr (.d 19 I) (.pr (.d 20 I) (.pr (.d 21 I) (.d 22 I)))))))))) → Option Ω) : DenS (.pr (.o 0 I) (.pr (.d 1 I) (.pr (.d 2 I) (.pr (.d 3 I) (.pr (.fn 4 147 (.ip I)) (.pr (.d 18 I) (.pr (.d 19 I) (.pr (.d 20 I) (.pr (.d 21 I) (.d 22 I)))))))))) → Option Ω := fun (s0,s1,s2,s3,s4,s18,s19,s20,s21,s22) =>
 (bif (decide (s20 < s21)) then (bif (decide (0 ≤ (wrap64 (s22 - (wrap64 (shrI .u64 ((wrap64 (s20 + s21)) % 18446744073709551616) (1:Int)))))) && decide ((wrap64 (s22 - (wrap64 (shrI .u64 ((wrap64 (s20 + s21)) % 18446744073709551616) (1:Int))))) < s0.length)) then (bif (decide (0 ≤ (wrap64 (shrI .u64 ((wrap64 (s20 + s21)) % 18446744073709551616) (1:Int)))) && decide ((wrap64 (shrI .u64 ((wrap64 (s20 + s21)) % 18446744073709551616) (1:Int))) < s0.length)) then (x_f6 N (s0.getD ((wrap64 (s22 - (wrap64 (shrI .u64 ((wrap64 (s20 + s21)) % 18446744073709551616) (1:Int))))).toNat) (0:Int)) (s0.getD ((wrap64 (shrI .u64 ((wrap64 (s20 + s21)) % 18446744073709551616) (1:Int))).toNat) (0:Int)) s4).bind fun r15 => (bif (!(decide (r15 < (0:Int)))) then rec_ (s0,s1,s2,s3,s4,s18,s19,(wrap64 ((wrap64 (shrI .u64 ((wrap64 (s20 + s21)) % 18446744073709551616) (1:Int))) + (1:Int))),s21,s22) else rec_ (s0,s1,s2,s3,s4,s18,s19,s20,(wrap64 (shrI .u64 ((wrap64 (s20 + s21)) % 18446744073709551616) (1:Int))),s22)) else none) else none) else kx (s0,s1,s2,s3,s4,s18,s19,s20))
def x_f51 : (N : Nat) → (List Int) → Int → Int → Int → (DenP (.ip I)) → Option (Unit × DenW (.pr (.o 0 I) (.pr (.d 1 I) (.pr (.d 2 I) (.pr (.d 3 I) (.fn 4 147 (.ip I)))))))
 | 0,_,_,_,_,_ => none
 | N + 1,a0,a1,a2,a3,a4 => ((bif (decide ((wrap64 (a2 - a1)) = (1:Int))) then iter (B_f51_L0 N (fun (x2,x3,x4) => iter (B_f51_L2 N (fun x5 => some ((),x5,(),(),(),())) (fun ρ6 => some (ρ6))) N (x2,x4,x3)) (fun ρ7 => some (ρ7))) N (a0,a1,a4,a2,a3) else (bif (decide ((wrap64 (a3 - a2)) = (1:Int))) then iter (B_f51_L4 N (fun (x9,x10,x11) => iter (B_f51_L6 N (fun x12 => some ((),x12,(),(),(),())) (fun ρ13 => some (ρ13))) N (x9,x11,x10)) (fun ρ14 => some (ρ14))) N (a0,a2,a4,a1,a2) else (bif (decide ((wrap64 (shrI .u64 ((wrap64 (a1 + a3)) % 18446744073709551616) (1:Int))) < a2)) then iter (B_f51_L8 N (fun (x16,x17,x18,x19,x20,x21,x22,x23) => (bif (decide (x23 < x18)) then (bif (decide (x18 < (wrap64 (x22 - x23)))) then (x_f48 N x16 x23 x18 (wrap64 (x22 - x23)) x20).bind fun r24 => (bif (decide (x17 < x23)) then (bif (decide (x23 < x21)) then (x_f51 N r24.2.1 x17 x23 x21 x20).bind fun r25 => (bif (decide (x21 < (wrap64 (x22 - x23)))) then (bif (decide ((wrap64 (x22 - x23)) < x19)) then (x_f51 N r25.2.1 x21 (wrap64 (x22 - x23)) x19 x20).bind fun r26 => some ((),r26.2.1,(),(),(),()) else some ((),r25.2.1,(),(),(),())) else some ((),r25.2.1,(),(),(),())) else (bif (decide (x21 < (wrap64 (x22 - x23)))) then (bif (decide ((wrap64 (x22 - x23)) < x19)) then (x_f51 N r24.2.1 x21 (wrap64 (x22 - x23)) x19 x20).bind fun r27 => some ((),r27.2.1,(),(),(),()) else some ((),r24.2.1,(),(),(),())) else some ((),r24.2.1,(),(),(),()))) else (bif (decide (x21 < (wrap64 (x22 - x23)))) then (bif (decide ((wrap64 (x22 - x23)) < x19)) then (x_f51 N r24.2.1 x21 (wrap64 (x22 - x23)) x19 x20).bind fun r28 => some ((),r28.2.1,(),(),(),()) else some ((),r24.2.1,(),(),(),())) else some ((),r24.2.1,(),(),(),()))) else (bif (decide (x17 < x23)) then (bif (decide (x23 < x21)) then (x_f51 N x16 x17 x23 x21 x20).bind fun r29 => (bif (decide (x21 < (wrap64 (x22 - x23)))) then (bif (decide ((wrap64 (x22 - x23)) < x19)) then (x_f51 N r29.2.1 x21 (wrap64 (x22 - x23)) x19 x20).bind fun r30 => some ((),r30.2.1,(),(),(),()) else some ((),r29.2.1,(),(),(),())) else some ((),r29.2.1,(),(),(),())) else (bif (decide (x21 < (wrap64 (x22 - x23)))) then (bif (decide ((wrap64 (x22 - x23)) < x19)) then (x_f51 N x16 x21 (wrap64 (x22 - x23)) x19 x20).bind fun r31 => some ((),r31.2.1,(),(),(),()) else some ((),x16,(),(),(),())) else some ((),x16,(),(),(),()))) else (bif (decide (x21 < (wrap64 (x22 - x23)))) then (bif (decide ((wrap64 (x22 - x23)) < x19)) then (x_f51 N x16 x21 (wrap64 (x22 - x23)) x19 x20).bind fun r32 => some ((),r32.2.1,(),(),(),()) else some ((),x16,(),(),(),())) else some ((),x16,(),(),(),())))) else (bif (decide (x17 < x23)) then (bif (decide (x23 < x21)) then (x_f51 N x16 x17 x23 x21 x20).bind fun r33 => (bif (decide (x21 < (wrap64 (x22 - x23)))) then (bif (decide ((wrap64 (x22 - x23)) < x19)) then (x_f51 N r33.2.1 x21 (wrap64 (x22 - x23)) x19 x20).bind fun r34 => some ((),r34.2.1,(),(),(),()) else some ((),r33.2.1,(),(),(),())) else some ((),r33.2.1,(),(),(),())) else (bif (decide (x21 < (wrap64 (x22 - x23)))) then (bif (decide ((wrap64 (x22 - x23)) < x19)) then (x_f51 N x16 x21 (wrap64 (x22 - x23)) x19 x20).bind fun r35 => some ((),r35.2.1,(),(),(),()) else some ((),x16,(),(),(),())) else some ((),x16,(),(),(),()))) else (bif (decide (x21 < (wrap64 (x22 - x23)))) then (bif (decide ((wrap64 (x22 - x23)) < x19)) then (x_f51 N x16 x21 (wrap64 (x22 - x23)) x19 x20).bind fun r36 => some ((),r36.2.1,(),(),(),()) else some ((),x16,(),(),(),())) else some ((),x16,(),(),(),()))))) (fun ρ37 => some (ρ37))) N (a0,a1,a2,a3,a4,(wrap64 (shrI .u64 ((wrap64 (a1 + a3)) % 18446744073709551616) (1:Int))),(wrap64 ((wrap64 (shrI .u64 ((wrap64 (a1 + a3)) % 18446744073709551616) (1:Int))) + a2)),(wrap64 ((wrap64 ((wrap64 (shrI .u64 ((wrap64 (a1 + a3)) % 18446744073709551616) (1:Int))) + a2)) - a3)),(wrap64 (shrI .u64 ((wrap64 (a1 + a3)) % 18446744073709551616) (1:Int))),(wrap64 ((wrap64 ((wrap64 (shrI .u64 ((wrap64 (a1 + a3)) % 18446744073709551616) (1:Int))) + a2)) - (1:Int)))) else iter (B_f51_L8 N (fun (x38,x39,x40,x41,x42,x43,x44,x45) => (bif (decide (x45 < x40)) then (bif (decide (x40 < (wrap64 (x44 - x45)))) then (x_f48 N x38 x45 x40 (wrap64 (x44 - x45)) x42).bind fun r46 => (bif (decide (x39 < x45)) then (bif (decide (x45 < x43)) then (x_f51 N r46.2.1 x39 x45 x43 x42).bind fun r47 => (bif (decide (x43 < (wrap64 (x44 - x45)))) then (bif (decide ((wrap64 (x44 - x45)) < x41)) then (x_f51 N r47.2.1 x43 (wrap64 (x44 - x45)) x41 x42).bind fun r48 => some ((),r48.2.1,(),(),(),()) else some ((),r47.2.1,(),(),(),())) else some ((),r47.2.1,(),(),(),())) else (bif (decide (x43 < (wrap64 (x44 - x45)))) then (bif (decide ((wrap64 (x44 - x45)) < x41)) then (x_f51 N r46.2.1 x43 (wrap64 (x44 - x45)) x41 x42).bind fun r49 => some ((),r49.2.1,(),(),(),()) else some ((),r46.2.1,(),(),(),())) else some ((),r46.2.1,(),(),(),()))) else (bif (decide (x43 < (wrap64 (x44 - x45)))) then (bif (decide ((wrap64 (x44 - x45)) < x41)) then (x_f51 N r46.2.1 x43 (wrap64 (x44 - x45)) x41 x42).bind fun r50 => some ((),r50.2.1,(),(),(),()) else some ((),r46.2.1,(),(),(),())) else some ((),r46.2.1,(),(),(),()))) else (bif (decide (x39 < x45)) then (bif (decide (x45 < x43)) then (x_f51 N x38 x39 x45 x43 x42).bind fun r51 => (bif (decide (x43 < (wrap64 (x44 - x45)))) then (bif (decide ((wrap64 (x44 - x45)) < x41)) then (x_f51 N r51.2.1 x43 (wrap64 (x44 - x45)) x41 x42).bind fun r52 => some ((),r52.2.1,(),(),(),()) else some ((),r51.2.1,(),(),(),())) else some ((),r51.2.1,(),(),(),())) else (bif (decide (x43 < (wrap64 (x44 - x45)))) then (bif (decide ((wrap64 (x44 - x45)) < x41)) then (x_f51 N x38 x43 (wrap64 (x44 - x45)) x41 x42).bind fun r53 => some ((),r53.2.1,(),(),(),()) else some ((),x38,(),(),(),())) else some ((),x38,(),(),(),()))) else (bif (decide (x43 < (wrap64 (x44 - x45)))) then (bif (decide ((wrap64 (x44 - x45)) < x41)) then (x_f51 N x38 x43 (wrap64 (x44 - x45)) x41 x42).bind fun r54 => some ((),r54.2.1,(),(),(),()) else some ((),x38,(),(),(),())) else some ((),x38,(),(),(),())))) else (bif (decide (x39 < x45)) then (bif (decide (x45 < x43)) then (x_f51 N x38 x39 x45 x43 x42).bind fun r55 => (bif (decide (x43 < (wrap64 (x44 - x45)))) then (bif (decide ((wrap64 (x44 - x45)) < x41)) then (x_f51 N r55.2.1 x43 (wrap64 (x44 - x45)) x41 x42).bind fun r56 => some ((),r56.2.1,(),(),(),()) else some ((),r55.2.1,(),(),(),())) else some ((),r55.2.1,(),(),(),())) else (bif (decide (x43 < (wrap64 (x44 - x45)))) then (bif (decide ((wrap64 (x44 - x45)) < x41)) then (x_f51 N x38 x43 (wrap64 (x44 - x45)) x41 x42).bind fun r57 => some ((),r57.2.1,(),(),(),()) else some ((),x38,(),(),(),())) else some ((),x38,(),(),(),()))) else (bif (decide (x43 < (wrap64 (x44 - x45)))) then (bif (decide ((wrap64 (x44 - x45)) < x41)) then (x_f51 N x38 x43 (wrap64 (x44 - x45)) x41 x42).bind fun r58 => some ((),r58.2.1,(),(),(),()) else some ((),x38,(),(),(),())) else some ((),x38,(),(),(),()))))) (fun ρ59 => some (ρ59))) N (a0,a1,a2,a3,a4,(wrap64 (shrI .u64 ((wrap64 (a1 + a3)) % 18446744073709551616) (1:Int))),(wrap64 ((wrap64 (shrI .u64 ((wrap64 (a1 + a3)) % 18446744073709551616) (1:Int))) + a2)),a1,a2,(wrap64 ((wrap64 ((wrap64 (shrI .u64 ((wrap64 (a1 + a3)) % 18446744073709551616) (1:Int))) + a2)) - (1:Int)))))))).bind fun r => bif (Nat.beq a0.length r.2.1.length && (true && (true && (true && true)))) then some r else none
abbrev cm_f51 (N : Nat) : CM := ⟨176,(.pr (.o 0 I) (.pr (.d 1 I) (.pr (.d 2 I) (.pr (.d 3 I) (.fn 4 147 (.ip I)))))),.un,fun a => x_f51 N a.1 a.2.1 a.2.2.1 a.2.2.2.1 a.2.2.2.2⟩
theorem c_f51 : ∀ N : Nat,CMok Tryz.prog (cm_f51 N)
 | 0 => fun x r h => by cases h
 | N + 1 => CM_ok (Γ := [.c (ct_f6 N),.m (cm_f48 N),.m (cm_f51 N)]) (Θ := []) (Λ := ([⟨0,1,(.pr (.o 0 I) (.pr (.d 1 I) (.pr (.fn 4 147 (.ip I)) (.pr (.d 10 I) (.d 11 I))))),(.pr (.o 0 I) (.pr (.d 1 I) (.d 10 I))),fun {Ω} kx kr => iter (B_f51_L0 N kx kr) N⟩,⟨2,1,(.pr (.o 0 I) (.pr (.d 10 I) (.d 13 I))),(.o 0 I),fun {Ω} kx kr => iter (B_f51_L2 N kx kr) N⟩,⟨4,1,(.pr (.o 0 I) (.pr (.d 2 I) (.pr (.fn 4 147 (.ip I)) (.pr (.d 14 I) (.d 15 I))))),(.pr (.o 0 I) (.pr (.d 2 I) (.d 14 I))),fun {Ω} kx kr => iter (B_f51_L4 N kx kr) N⟩,⟨6,1,(.pr (.o 0 I) (.pr (.d 14 I) (.d 17 I))),(.o 0 I),fun {Ω} kx kr => iter (B_f51_L6 N kx kr) N⟩,⟨8,1,(.pr (.o 0 I) (.pr (.d 1 I) (.pr (.d 2 I) (.pr (.d 3 I) (.pr (.fn 4 147 (.ip I)) (.pr (.d 18 I) (.pr (.d 19 I) (.pr (.d 20 I) (.pr (.d 21 I) (.d 22 I)))))))))),(.pr (.o 0 I) (.pr (.d 1 I) (.pr (.d 2 I) (.pr (.d 3 I) (.pr (.fn 4 147 (.ip I)) (.pr (.d 18 I) (.pr (.d 19 I) (.d 20 I)))))))),fun {Ω} kx kr => iter (B_f51_L8 N kx kr) N⟩] : List (LC (DenR .un × DenW (.pr (.o 0 I) (.pr (.d 1 I) (.pr (.d 2 I) (.pr (.d 3 I) (.fn 4 147 (.ip I)))))))))) (by kernel_rfl) mixed ⟨c_f6 N,⟨c_f48 N,⟨c_f51 N,trivial⟩⟩⟩ (by kernel_rfl)
  ⟨LoopEq.mk N (fun Ω kx kr => B_f51_L0 N kx kr) (fun Ω g kx kr s => by kernel_rfl),⟨LoopEq.mk N (fun Ω kx kr => B_f51_L2 N kx kr) (fun Ω g kx kr s => by kernel_rfl),⟨LoopEq.mk N (fun Ω kx kr => B_f51_L4 N kx kr) (fun Ω g kx kr s => by kernel_rfl),⟨LoopEq.mk N (fun Ω kx kr => B_f51_L6 N kx kr) (fun Ω g kx kr s => by kernel_rfl),⟨LoopEq.mk N (fun Ω kx kr => B_f51_L8 N kx kr) (fun Ω g kx kr s => by kernel_rfl),trivial⟩⟩⟩⟩⟩ (by kernel_rfl) (fun a => by kernel_rfl)
def B_f49_L0 (N : Nat) {Ω : Type} (kx : DenS (.pr (.o 0 I) (.pr (.d 1 I) (.pr (.fn 2 147 (.ip I)) (.pr (.d 6 I) (.d 7 I))))) → Option Ω) (kr : (Unit × DenW (.pr (.o 0 I) (.pr (.d 1 I) (.fn 2 147 (.ip I))))) → Option Ω) (rec_ : DenS (.pr (.o 0 I) (.pr (.d 1 I) (.pr (.fn 2 147 (.ip I)) (.pr (.d 6 I) (.pr (.d 7 I) (.d 8 I)))))) → Option Ω) : DenS (.pr (.o 0 I) (.pr (.d 1 I) (.pr (.fn 2 147 (.ip I)) (.pr (.d 6 I) (.pr (.d 7 I) (.d 8 I)))))) → Option Ω := fun (s0,s1,s2,s6,s7,s8) =>
 (bif (decide (s8 ≤ s1)) then (x_f46 N s0 s7 s8 s2).bind fun r1 => rec_ (r1.2.1,s1,s2,s6,s8,(wrap64 (s8 + s6))) else kx (s0,s1,s2,s6,s7))
def B_f49_L4 (N : Nat) {Ω : Type} (kx : DenS (.pr (.o 0 I) (.pr (.d 1 I) (.pr (.fn 2 147 (.ip I)) (.pr (.d 6 I) (.d 7 I))))) → Option Ω) (kr : (Unit × DenW (.pr (.o 0 I) (.pr (.d 1 I) (.fn 2 147 (.ip I))))) → Option Ω) (rec_ : DenS (.pr (.o 0 I) (.pr (.d 1 I) (.pr (.fn 2 147 (.ip I)) (.pr (.d 6 I) (.pr (.d 7 I) (.d 8 I)))))) → Option Ω) : DenS (.pr (.o 0 I) (.pr (.d 1 I) (.pr (.fn 2 147 (.ip I)) (.pr (.d 6 I) (.pr (.d 7 I) (.d 8 I)))))) → Option Ω := fun (s0,s1,s2,s6,s7,s8) =>
 (bif (decide (s8 ≤ s1)) then (x_f51 N s0 s7 (wrap64 (s7 + s6)) s8 s2).bind fun r8 => rec_ (r8.2.1,s1,s2,s6,s8,(wrap64 (s8 + (wrap64 ((2:Int) * s6))))) else kx (s0,s1,s2,s6,s7))
def B_f49_L2 (N : Nat) {Ω : Type} (kx : DenS (.o 0 I) → Option Ω) (kr : (Unit × DenW (.pr (.o 0 I) (.pr (.d 1 I) (.fn 2 147 (.ip I))))) → Option Ω) (rec_ : DenS (.pr (.o 0 I) (.pr (.d 1 I) (.pr (.fn 2 147 (.ip I)) (.d 6 I)))) → Option Ω) : DenS (.pr (.o 0 I) (.pr (.d 1 I) (.pr (.fn 2 147 (.ip I)) (.d 6 I)))) → Option Ω := fun (s0,s1,s2,s6) =>
 (bif (decide (s6 < s1)) then iter (B_f49_L4 N (fun (x9,x10,x11,x12,x13) => (bif (decide ((wrap64 (x13 + x12)) < x10)) then (x_f51 N x9 x13 (wrap64 (x13 + x12)) x10 x11).bind fun r14 => rec_ (r14.2.1,x10,x11,(wrap64 (x12 * (2:Int)))) else rec_ (x9,x10,x11,(wrap64 (x12 * (2:Int)))))) (fun ρ15 => kr (ρ15))) N (s0,s1,s2,s6,(0:Int),(wrap64 ((2:Int) * s6))) else kx s0)
def x_f49 (N : Nat) (a0 : (List Int)) (a1 : Int) (a2 : (DenP (.ip I))) : Option (Unit × DenW (.pr (.o 0 I) (.pr (.d 1 I) (.fn 2 147 (.ip I))))) :=
 (iter (B_f49_L0 N (fun (x2,x3,x4,x5,x6) => (x_f46 N x2 x6 x3 x4).bind fun r7 => iter (B_f49_L2 N (fun x16 => some ((),x16,(),())) (fun ρ17 => some (ρ17))) N (r7.2.1,x3,x4,x5)) (fun ρ18 => some (ρ18))) N (a0,a1,a2,(20:Int),(0:Int),(20:Int))).bind fun r => bif (Nat.beq a0.length r.2.1.length && (true && true)) then some r else none
abbrev cm_f49 (N : Nat) : CM := ⟨164,(.pr (.o 0 I) (.pr (.d 1 I) (.fn 2 147 (.ip I)))),.un,fun a => x_f49 N a.1 a.2.1 a.2.2⟩
theorem c_f49 (N : Nat) : CMok Tryz.prog (cm_f49 N) :=
 CM_ok (Γ := [.m (cm_f46 N),.m (cm_f51 N)]) (Θ := []) (Λ := ([⟨0,1,(.pr (.o 0 I) (.pr (.d 1 I) (.pr (.fn 2 147 (.ip I)) (.pr (.d 6 I) (.pr (.d 7 I) (.d 8 I)))))),(.pr (.o 0 I) (.pr (.d 1 I) (.pr (.fn 2 147 (.ip I)) (.pr (.d 6 I) (.d 7 I))))),fun {Ω} kx kr => iter (B_f49_L0 N kx kr) N⟩,⟨2,1,(.pr (.o 0 I) (.pr (.d 1 I) (.pr (.fn 2 147 (.ip I)) (.d 6 I)))),(.o 0 I),fun {Ω} kx kr => iter (B_f49_L2 N kx kr) N⟩,⟨4,1,(.pr (.o 0 I) (.pr (.d 1 I) (.pr (.fn 2 147 (.ip I)) (.pr (.d 6 I) (.pr (.d 7 I) (.d 8 I)))))),(.pr (.o 0 I) (.pr (.d 1 I) (.pr (.fn 2 147 (.ip I)) (.pr (.d 6 I) (.d 7 I))))),fun {Ω} kx kr => iter (B_f49_L4 N kx kr) N⟩] : List (LC (DenR .un × DenW (.pr (.o 0 I) (.pr (.d 1 I) (.fn 2 147 (.ip I)))))))) (by kernel_rfl) mixed ⟨c_f46 N,⟨c_f51 N,trivial⟩⟩ (by kernel_rfl)
  ⟨LoopEq.mk N (fun Ω kx kr => B_f49_L0 N kx kr) (fun Ω g kx kr s => by kernel_rfl),⟨LoopEq.mk N (fun Ω kx kr => B_f49_L2 N kx kr) (fun Ω g kx kr s => by kernel_rfl),⟨LoopEq.mk N (fun Ω kx kr => B_f49_L4 N kx kr) (fun Ω g kx kr s => by kernel_rfl),trivial⟩⟩⟩ (by kernel_rfl) (fun a => by kernel_rfl)
def x_f44 (N : Nat) (a0 : (List Int)) (a1 : (DenP (.ip I))) : Option (Unit × DenW (.pr (.o 0 I) (.fn 1 147 (.ip I)))) :=
 ((x_f49 N a0 (a0.length : Int) a1).bind fun r1 => some ((),r1.2.1,())).bind fun r => bif (Nat.beq a0.length r.2.1.length && true) then some r else none
abbrev cm_f44 (N : Nat) : CM := ⟨146,(.pr (.o 0 I) (.fn 1 147 (.ip I))),.un,fun a => x_f44 N a.1 a.2⟩
theorem c_f44 (N : Nat) : CMok Tryz.prog (cm_f44 N) :=
 CM_ok (Γ := [.m (cm_f49 N)]) (Θ := []) (Λ := ([] : List (LC (DenR .un × DenW (.pr (.o 0 I) (.fn 1 147 (.ip I))))))) (by kernel_rfl) mixed ⟨c_f49 N,trivial⟩ (by kernel_rfl)
  trivial (by kernel_rfl) (fun a => by kernel_rfl)
def B_f5_L0 (N : Nat) {Ω : Type} (kx : DenS (.pr (.ip 3 I) (.o 5 I)) → Option Ω) (kr : (List Int) → Option Ω) (rec_ : DenS (.pr (.ip 3 I) (.pr (.o 5 I) (.pr (.d 9 (.sl I)) (.pr (.d 10 I) (.d 11 I))))) → Option Ω) : DenS (.pr (.ip 3 I) (.pr (.o 5 I) (.pr (.d 9 (.sl I)) (.pr (.d 10 I) (.d 11 I))))) → Option Ω := fun (s3,s5,s9,s10,s11) =>
 (bif (decide (s11 < s10)) then (bif (decide (0 ≤ s11) && decide (s11 < s9.length)) then (bif (!decide ((s9.getD s11.toNat (0:Int)) = s3)) then (x_f37 N s5 (s9.getD s11.toNat (0:Int))).bind fun r1 => (bif (!r1) then (bif (decide ((s5.length + [(s9.getD s11.toNat (0:Int))].length) * 8 ≤ 140737488355328)) then rec_ (s3,(s5 ++ [(s9.getD s11.toNat (0:Int))]),s9,s10,(wrap64 (s11 + (1:Int)))) else none) else rec_ (s3,s5,s9,s10,(wrap64 (s11 + (1:Int))))) else rec_ (s3,s5,s9,s10,(wrap64 (s11 + (1:Int))))) else none) else kx (s3,s5))
def x_f5 (N : Nat) (a0 : (List Int)) (a1 : Int) : Option (List Int) :=
 iter (B_f5_L0 N (fun (x2,x3) => (x_f44 N x3 x2).bind fun r4 => some r4.2.1) (fun ρ5 => some (ρ5))) N (a1,[],a0,(a0.length : Int),(0:Int))
abbrev ct_f5 (N : Nat) : CT := ⟨125,(.pr (.d (.sl I)) (.d I)),(.t (.sl I)),fun a => x_f5 N a.1 a.2⟩
theorem c_f5 (N : Nat) : CTok Tryz.prog (ct_f5 N) :=
 CT_ok (Γ := [.c (ct_f37 N),.m (cm_f44 N)]) (Θ := [(8,I),(26,I)]) (Λ := ([⟨0,0,(.pr (.ip 3 I) (.pr (.o 5 I) (.pr (.d 9 (.sl I)) (.pr (.d 10 I) (.d 11 I))))),(.pr (.ip 3 I) (.o 5 I)),fun {Ω} kx kr => iter (B_f5_L0 N kx kr) N⟩] : List (LC (DenR (.t (.sl I)))))) (by kernel_rfl) mixed ⟨c_f37 N,⟨c_f44 N,trivial⟩⟩ (by kernel_rfl)
  ⟨LoopEq.mk N (fun Ω kx kr => B_f5_L0 N kx kr) (fun Ω g kx kr s => by kernel_rfl),trivial⟩ (by kernel_rfl) (fun a => by kernel_rfl)
def x_f16 (N : Nat) (a0 : Int) (a1 : Int) : Option Int :=
 (bif (decide (0 ≤ a1)) then some (wrap64 (a0 + (shlI .i64 (1:Int) a1))) else none)
abbrev ct_f16 (N : Nat) : CT := ⟨101,(.pr (.d I) (.d I)),(.t I),fun a => x_f16 N a.1 a.2⟩
theorem c_f16 (N : Nat) : CTok Tryz.prog (ct_f16 N) :=
 CT_ok (Γ := []) (Θ := []) (Λ := ([] : List (LC (DenR (.t I))))) (by kernel_rfl) mixed trivial (by kernel_rfl)
  trivial (by kernel_rfl) (fun a => by kernel_rfl)
def B_f7_L0 (N : Nat) {Ω : Type} (kx : DenS (.pr (.d 0 (.sl I)) (.d 5 I)) → Option Ω) (kr : Int → Option Ω) (rec_ : DenS (.pr (.d 0 (.sl I)) (.pr (.d 1 I) (.pr (.d 5 I) (.pr (.d 8 (.sl I)) (.pr (.d 9 I) (.d 10 I)))))) → Option Ω) : DenS (.pr (.d 0 (.sl I)) (.pr (.d 1 I) (.pr (.d 5 I) (.pr (.d 8 (.sl I)) (.pr (.d 9 I) (.d 10 I)))))) → Option Ω := fun (s0,s1,s5,s8,s9,s10) =>
 (bif (decide (s10 < s9)) then (bif (decide (0 ≤ s10) && decide (s10 < s8.length)) then (bif (decide (s5 < (0:Int))) then rec_ (s0,s1,s10,s8,s9,(wrap64 (s10 + (1:Int)))) else (bif (decide (0 ≤ s5) && decide (s5 < s0.length)) then (x_f2 N s1 (s8.getD s10.toNat (0:Int))).bind fun r1 => (x_f2 N s1 (s0.getD s5.toNat (0:Int))).bind fun r2 => (bif (decide (r1 < r2)) then rec_ (s0,s1,s10,s8,s9,(wrap64 (s10 + (1:Int)))) else rec_ (s0,s1,s5,s8,s9,(wrap64 (s10 + (1:Int))))) else none)) else none) else kx (s0,s5))
def x_f7 (N : Nat) (a0 : (List Int)) (a1 : Int) : Option Int :=
 iter (B_f7_L0 N (fun (x3,x4) => (bif (decide (x4 < (0:Int))) then some (-1:Int) else (bif (decide (0 ≤ x4) && decide (x4 < x3.length)) then some (x3.getD x4.toNat (0:Int)) else none))) (fun ρ5 => some (ρ5))) N (a0,a1,(-1:Int),a0,(a0.length : Int),(0:Int))
abbrev ct_f7 (N : Nat) : CT := ⟨126,(.pr (.d (.sl I)) (.d I)),(.t I),fun a => x_f7 N a.1 a.2⟩
theorem c_f7 (N : Nat) : CTok Tryz.prog (ct_f7 N) :=
 CT_ok (Γ := [.c (ct_f2 N)]) (Θ := []) (Λ := ([⟨0,0,(.pr (.d 0 (.sl I)) (.pr (.d 1 I) (.pr (.d 5 I) (.pr (.d 8 (.sl I)) (.pr (.d 9 I) (.d 10 I)))))),(.pr (.d 0 (.sl I)) (.d 5 I)),fun {Ω} kx kr => iter (B_f7_L0 N kx kr) N⟩] : List (LC (DenR (.t I))))) (by kernel_rfl) mixed ⟨c_f2 N,trivial⟩ (by kernel_rfl)
  ⟨LoopEq.mk N (fun Ω kx kr => B_f7_L0 N kx kr) (fun Ω g kx kr s => by kernel_rfl),trivial⟩ (by kernel_rfl) (fun a => by kernel_rfl)
def B_f17_L0 (N : Nat) {Ω : Type} (kx : DenS (.pr (.bx 4 tPeer) (.bx 5 tPeer)) → Option Ω) (kr : (Den tPeer) → Option Ω) (rec_ : DenS (.pr (.d 0 (.sl I)) (.pr (.d 1 I) (.pr (.bx 4 tPeer) (.pr (.bx 5 tPeer) (.d 29 I))))) → Option Ω) : DenS (.pr (.d 0 (.sl I)) (.pr (.d 1 I) (.pr (.bx 4 tPeer) (.pr (.bx 5 tPeer) (.d 29 I))))) → Option Ω := fun (s0,s1,s4,s5,s29) =>
 (bif (decide (s29 < (8:Int))) then (x_f16 N s1 s29).bind fun r2 => (x_f7 N s0 r2).bind fun r3 => (bif (decide ((s5.2.2.2.2.1.length + [r3].length) * 8 ≤ 140737488355328)) then rec_ (s0,s1,s4,(s5.1,s5.2.1,s5.2.2.1,s5.2.2.2.1,(s5.2.2.2.2.1 ++ [r3]),s5.2.2.2.2.2),(wrap64 (s29 + (1:Int)))) else none) else kx (s4,s5))
def x_f17 (N : Nat) (a0 : (List Int)) (a1 : Int) : Option (Den tPeer) :=
 (x_f5 N a0 a1).bind fun r1 => (bif (decide ((0:Int) < (r1.length : Int))) then (bif (decide (0 ≤ (wrap64 ((r1.length : Int) - (1:Int)))) && decide ((wrap64 ((r1.length : Int) - (1:Int))) < r1.length)) then (bif (inB (0:Int) (if (r1.length : Int) < (3:Int) then (r1.length : Int) else (3:Int)) (r1.length : Int)) then iter (B_f17_L0 N (fun (x4,x5) => some x5) (fun ρ6 => some (ρ6))) N (a0,a1,((0:Int),false,(0:Int),[],[],[]),(a1,true,(r1.getD ((wrap64 ((r1.length : Int) - (1:Int))).toNat) (0:Int)),(r1.take ((if (r1.length : Int) < (3:Int) then (r1.length : Int) else (3:Int)).toNat - (0:Int).toNat)),[],[]),(0:Int)) else none) else none) else (bif (inB (0:Int) (if (r1.length : Int) < (3:Int) then (r1.length : Int) else (3:Int)) (r1.length : Int)) then iter (B_f17_L0 N (fun (x7,x8) => some x8) (fun ρ9 => some (ρ9))) N (a0,a1,((0:Int),false,(0:Int),[],[],[]),(a1,true,(-1:Int),(r1.take ((if (r1.length : Int) < (3:Int) then (r1.length : Int) else (3:Int)).toNat - (0:Int).toNat)),[],[]),(0:Int)) else none))
abbrev ct_f17 (N : Nat) : CT := ⟨72,(.pr (.d (.sl I)) (.d I)),(.t tPeer),fun a => x_f17 N a.1 a.2⟩
theorem c_f17 (N : Nat) : CTok Tryz.prog (ct_f17 N) :=
 CT_ok (Γ := [.c (ct_f5 N),.c (ct_f16 N),.c (ct_f7 N)]) (Θ := [(27,I),(39,I)]) (Λ := ([⟨0,0,(.pr (.d 0 (.sl I)) (.pr (.d 1 I) (.pr (.bx 4 tPeer) (.pr (.bx 5 tPeer) (.d 29 I))))),(.pr (.bx 4 tPeer) (.bx 5 tPeer)),fun {Ω} kx kr => iter (B_f17_L0 N kx kr) N⟩] : List (LC (DenR (.t tPeer))))) (by kernel_rfl) mixed ⟨c_f5 N,⟨c_f16 N,⟨c_f7 N,trivial⟩⟩⟩ (by kernel_rfl)
  ⟨LoopEq.mk N (fun Ω kx kr => B_f17_L0 N kx kr) (fun Ω g kx kr s => by kernel_rfl),trivial⟩ (by kernel_rfl) (fun a => by kernel_rfl)
def x_f32 (N : Nat) (a0 : (List Int)) : Option (List Int) :=
 (bif (decide (a0.length = 0)) then agree (some []) ((bif (decide ((([] : List Int).length + a0.length) * 8 ≤ 140737488355328)) then some (([] : List Int) ++ a0) else none)) else (bif (decide ((([] : List Int).length + a0.length) * 8 ≤ 140737488355328)) then some (([] : List Int) ++ a0) else none))
abbrev ct_f32 (N : Nat) : CT := ⟨124,(.d (.sl I)),(.t (.sl I)),fun a => x_f32 N a⟩
theorem c_f32 (N : Nat) : CTok Tryz.prog (ct_f32 N) :=
 CT_ok (Γ := []) (Θ := [(5,I)]) (Λ := ([] : List (LC (DenR (.t (.sl I)))))) (by kernel_rfl) mixed trivial (by kernel_rfl)
  trivial (by kernel_rfl) (fun a => by kernel_rfl)
def x_f31 (N : Nat) (a0 : (List (Den tItem))) : Option (List (Den tItem)) :=
 (bif (decide (a0.length = 0)) then agree (some []) ((bif (decide ((([] : List (Den tItem)).length + a0.length) * 24 ≤ 140737488355328)) then some (([] : List (Den tItem)) ++ a0) else none)) else (bif (decide ((([] : List (Den tItem)).length + a0.length) * 24 ≤ 140737488355328)) then some (([] : List (Den tItem)) ++ a0) else none))
abbrev ct_f31 (N : Nat) : CT := ⟨118,(.d (.sl tItem)),(.t (.sl tItem)),fun a => x_f31 N a⟩
theorem c_f31 (N : Nat) : CTok Tryz.prog (ct_f31 N) :=
 CT_ok (Γ := []) (Θ := [(5,tItem)]) (Λ := ([] : List (LC (DenR (.t (.sl tItem)))))) (by kernel_rfl) mixed trivial (by kernel_rfl)
  trivial (by kernel_rfl) (fun a => by kernel_rfl)
def B_f15_L0 (N : Nat) {Ω : Type} (kx : DenS (.pr (.bx 1 tPeer) (.bx 2 tPeer)) → Option Ω) (kr : (Den tPeer) → Option Ω) (rec_ : DenS (.pr (.bx 1 tPeer) (.pr (.bx 2 tPeer) (.pr (.d 17 (.sl tShelf)) (.pr (.d 18 I) (.d 19 I))))) → Option Ω) : DenS (.pr (.bx 1 tPeer) (.pr (.bx 2 tPeer) (.pr (.d 17 (.sl tShelf)) (.pr (.d 18 I) (.d 19 I))))) → Option Ω := fun (s1,s2,s17,s18,s19) =>
 (bif (decide (s19 < s18)) then (bif (decide (0 ≤ s19) && decide (s19 < s17.length)) then (x_f31 N ((s17.getD s19.toNat (dft tShelf)).2)).bind fun r3 => (bif (decide ((s1.2.2.2.2.2.length + [((s17.getD s19.toNat (dft tShelf)).1,r3)].length) * 32 ≤ 140737488355328)) then rec_ ((s1.1,s1.2.1,s1.2.2.1,s1.2.2.2.1,s1.2.2.2.2.1,(s1.2.2.2.2.2 ++ [((s17.getD s19.toNat (dft tShelf)).1,r3)])),s2,s17,s18,(wrap64 (s19 + (1:Int)))) else none) else none) else kx (s1,s2))
def x_f15 (N : Nat) (a0 : (Den tPeer)) : Option (Den tPeer) :=
 (x_f32 N a0.2.2.2.1).bind fun r1 => (x_f32 N a0.2.2.2.2.1).bind fun r2 => iter (B_f15_L0 N (fun (x4,x5) => some x4) (fun ρ6 => some (ρ6))) N ((a0.1,a0.2.1,a0.2.2.1,r1,r2,[]),((0:Int),false,(0:Int),[],[],[]),a0.2.2.2.2.2,(a0.2.2.2.2.2.length : Int),(0:Int))
abbrev ct_f15 (N : Nat) : CT := ⟨71,(.d tPeer),(.t tPeer),fun a => x_f15 N a⟩
theorem c_f15 (N : Nat) : CTok Tryz.prog (ct_f15 N) :=
 CT_ok (Γ := [.c (ct_f32 N),.c (ct_f31 N)]) (Θ := [(31,tShelf)]) (Λ := ([⟨0,0,(.pr (.bx 1 tPeer) (.pr (.bx 2 tPeer) (.pr (.d 17 (.sl tShelf)) (.pr (.d 18 I) (.d 19 I))))),(.pr (.bx 1 tPeer) (.bx 2 tPeer)),fun {Ω} kx kr => iter (B_f15_L0 N kx kr) N⟩] : List (LC (DenR (.t tPeer))))) (by kernel_rfl) mixed ⟨c_f32 N,⟨c_f31 N,trivial⟩⟩ (by kernel_rfl)
  ⟨LoopEq.mk N (fun Ω kx kr => B_f15_L0 N kx kr) (fun Ω g kx kr s => by kernel_rfl),trivial⟩ (by kernel_rfl) (fun a => by kernel_rfl)
def B_f12_L0 (N : Nat) {Ω : Type} (kx : DenS (.pr (.bx 2 tRing) (.o 3 I)) → Option Ω) (kr : (Den tRing) → Option Ω) (rec_ : DenS (.pr (.bx 2 tRing) (.pr (.o 3 I) (.pr (.d 11 (.sl I)) (.pr (.d 12 I) (.d 13 I))))) → Option Ω) : DenS (.pr (.bx 2 tRing) (.pr (.o 3 I) (.pr (.d 11 (.sl I)) (.pr (.d 12 I) (.d 13 I))))) → Option Ω := fun (s2,s3,s11,s12,s13) =>
 (bif (decide (s13 < s12)) then (bif (decide (0 ≤ s13) && decide (s13 < s11.length)) then (x_f19 N (s11.getD s13.toNat (0:Int))).bind fun r1 => (bif r1 then (x_f37 N s3 (s11.getD s13.toNat (0:Int))).bind fun r2 => (bif (!r2) then (bif (decide ((s3.length : Int) < (8:Int))) then (bif (decide ((s3.length + [(s11.getD s13.toNat (0:Int))].length) * 8 ≤ 140737488355328)) then rec_ (s2,(s3 ++ [(s11.getD s13.toNat (0:Int))]),s11,s12,(wrap64 (s13 + (1:Int)))) else none) else rec_ (s2,s3,s11,s12,(wrap64 (s13 + (1:Int))))) else rec_ (s2,s3,s11,s12,(wrap64 (s13 + (1:Int))))) else rec_ (s2,s3,s11,s12,(wrap64 (s13 + (1:Int))))) else none) else kx (s2,s3))
def B_f12_L2 (N : Nat) {Ω : Type} (kx : DenS (.pr (.bx 2 tRing) (.bx 6 tRing)) → Option Ω) (kr : (Den tRing) → Option Ω) (rec_ : DenS (.pr (.bx 2 tRing) (.pr (.d 3 (.sl I)) (.pr (.bx 6 tRing) (.pr (.d 40 (.sl I)) (.pr (.d 41 I) (.d 42 I)))))) → Option Ω) : DenS (.pr (.bx 2 tRing) (.pr (.d 3 (.sl I)) (.pr (.bx 6 tRing) (.pr (.d 40 (.sl I)) (.pr (.d 41 I) (.d 42 I)))))) → Option Ω := fun (s2,s3,s6,s40,s41,s42) =>
 (bif (decide (s42 < s41)) then (bif (decide (0 ≤ s42) && decide (s42 < s40.length)) then (bif (decide (s42 < (4:Int))) then (bif (inB (0:Int) (4:Int) (s3.length : Int)) then (x_f17 N ((s3.drop (0:Int).toNat).take ((4:Int).toNat - (0:Int).toNat)) (s40.getD s42.toNat (0:Int))).bind fun r5 => (x_f15 N r5).bind fun r6 => (bif (decide ((s6.length + [r6].length) * 96 ≤ 140737488355328)) then rec_ (s2,s3,(s6 ++ [r6]),s40,s41,(wrap64 (s42 + (1:Int)))) else none) else none) else (bif (decide ((s6.length + ([((s40.getD s42.toNat (0:Int)),false,(0:Int),[],[],[])] : List (Den tPeer)).length) * 96 ≤ 140737488355328)) then rec_ (s2,s3,(s6 ++ ([((s40.getD s42.toNat (0:Int)),false,(0:Int),[],[],[])] : List (Den tPeer))),s40,s41,(wrap64 (s42 + (1:Int)))) else none)) else none) else kx (s2,s6))
def x_f12 (N : Nat) (a0 : (List Int)) : Option (Den tRing) :=
 iter (B_f12_L0 N (fun (x3,x4) => (bif (decide ((x4.length : Int) < (4:Int))) then some [] else iter (B_f12_L2 N (fun (x7,x8) => some x8) (fun ρ9 => some (ρ9))) N (x3,x4,[],x4,(x4.length : Int),(0:Int)))) (fun ρ10 => some (ρ10))) N ([],[],a0,(a0.length : Int),(0:Int))
abbrev ct_f12 (N : Nat) : CT := ⟨9,(.d (.sl I)),(.t tRing),fun a => x_f12 N a⟩
theorem c_f12 (N : Nat) : CTok Tryz.prog (ct_f12 N) :=
 CT_ok (Γ := [.c (ct_f19 N),.c (ct_f37 N),.c (ct_f17 N),.c (ct_f15 N)]) (Θ := [(10,I),(32,I),(59,tPeer)]) (Λ := ([⟨0,0,(.pr (.bx 2 tRing) (.pr (.o 3 I) (.pr (.d 11 (.sl I)) (.pr (.d 12 I) (.d 13 I))))),(.pr (.bx 2 tRing) (.o 3 I)),fun {Ω} kx kr => iter (B_f12_L0 N kx kr) N⟩,⟨2,0,(.pr (.bx 2 tRing) (.pr (.d 3 (.sl I)) (.pr (.bx 6 tRing) (.pr (.d 40 (.sl I)) (.pr (.d 41 I) (.d 42 I)))))),(.pr (.bx 2 tRing) (.bx 6 tRing)),fun {Ω} kx kr => iter (B_f12_L2 N kx kr) N⟩] : List (LC (DenR (.t tRing))))) (by kernel_rfl) mixed ⟨c_f19 N,⟨c_f37 N,⟨c_f17 N,⟨c_f15 N,trivial⟩⟩⟩⟩ (by kernel_rfl)
  ⟨LoopEq.mk N (fun Ω kx kr => B_f12_L0 N kx kr) (fun Ω g kx kr s => by kernel_rfl),⟨LoopEq.mk N (fun Ω kx kr => B_f12_L2 N kx kr) (fun Ω g kx kr s => by kernel_rfl),trivial⟩⟩ (by kernel_rfl) (fun a => by kernel_rfl)
def x_f1 (N : Nat) (a0 : Int) : Option Bool :=
 some (!decide (a0 = a0))
abbrev ct_f1 (N : Nat) : CT := ⟨170,(.d I),(.t .bl),fun a => x_f1 N a⟩
theorem c_f1 (N : Nat) : CTok Tryz.prog (ct_f1 N) :=
 CT_ok (Γ := []) (Θ := []) (Λ := ([] : List (LC (DenR (.t .bl))))) (by kernel_rfl) mixed trivial (by kernel_rfl)
  trivial (by kernel_rfl) (fun a => by kernel_rfl)
def x_f0 (N : Nat) (a0 : Int) (a1 : Int) : Option Bool :=
 (x_f1 N a0).bind fun r1 => (bif r1 then (x_f1 N a1).bind fun r2 => (bif (!r2) then some true else some (decide (a0 < a1))) else some (decide (a0 < a1)))
abbrev ct_f0 (N : Nat) : CT := ⟨154,(.pr (.d I) (.d I)),(.t .bl),fun a => x_f0 N a.1 a.2⟩
theorem c_f0 (N : Nat) : CTok Tryz.prog (ct_f0 N) :=
 CT_ok (Γ := [.c (ct_f1 N)]) (Θ := []) (Λ := ([] : List (LC (DenR (.t .bl))))) (by kernel_rfl) mixed ⟨c_f1 N,trivial⟩ (by kernel_rfl)
  trivial (by kernel_rfl) (fun a => by kernel_rfl)
def B_f47_L2 (N : Nat) {Ω : Type} (kx : DenS (.pr (.o 0 I) (.pr (.d 1 I) (.pr (.d 2 I) (.d 6 I)))) → Option Ω) (kr : (Unit × DenW (.pr (.o 0 I) (.pr (.d 1 I) (.d 2 I)))) → Option Ω) (rec_ : DenS (.pr (.o 0 I) (.pr (.d 1 I) (.pr (.d 2 I) (.pr (.d 6 I) (.d 7 I))))) → Option Ω) : DenS (.pr (.o 0 I) (.pr (.d 1 I) (.pr (.d 2 I) (.pr (.d 6 I) (.d 7 I))))) → Option Ω := fun (s0,s1,s2,s6,s7) =>
 (bif (decide (s1 < s7)) then (bif (decide (0 ≤ s7) && decide (s7 < s0.length)) then (bif (decide (0 ≤ (wrap64 (s7 - (1:Int)))) && decide ((wrap64 (s7 - (1:Int))) < s0.length)) then (x_f0 N (s0.getD s7.toNat (0:Int)) (s0.getD ((wrap64 (s7 - (1:Int))).toNat) (0:Int))).bind fun r1 => (bif r1 then (bif (decide (0 ≤ (wrap64 (s7 - (1:Int)))) && decide ((wrap64 (s7 - (1:Int))) < s0.length)) then (bif (decide (0 ≤ s7) && decide (s7 < s0.length)) then (bif (decide (0 ≤ s7) && decide (s7 < s0.length)) then (bif (decide (0 ≤ (wrap64 (s7 - (1:Int)))) && decide ((wrap64 (s7 - (1:Int))) < (s0.set s7.toNat (s0.getD ((wrap64 (s7 - (1:Int))).toNat) (0:Int))).length)) then rec_ (((s0.set s7.toNat (s0.getD ((wrap64 (s7 - (1:Int))).toNat) (0:Int))).set ((wrap64 (s7 - (1:Int))).toNat) (s0.getD s7.toNat (0:Int))),s1,s2,s6,(wrap64 (s7 - (1:Int)))) else none) else none) else none) else none) else kx (s0,s1,s2,s6)) else none) else none) else kx (s0,s1,s2,s6))
def B_f47_L0 (N : Nat) {Ω : Type} (kx : DenS (.o 0 I) → Option Ω) (kr : (Unit × DenW (.pr (.o 0 I) (.pr (.d 1 I) (.d 2 I)))) → Option Ω) (rec_ : DenS (.pr (.o 0 I) (.pr (.d 1 I) (.pr (.d 2 I) (.d 6 I)))) → Option Ω) : DenS (.pr (.o 0 I) (.pr (.d 1 I) (.pr (.d 2 I) (.d 6 I)))) → Option Ω := fun (s0,s1,s2,s6) =>
 (bif (decide (s6 < s2)) then iter (B_f47_L2 N (fun (x2,x3,x4,x5) => rec_ (x2,x3,x4,(wrap64 (x5 + (1:Int))))) (fun ρ6 => kr (ρ6))) N (s0,s1,s2,s6,s6) else kx s0)
def x_f47 (N : Nat) (a0 : (List Int)) (a1 : Int) (a2 : Int) : Option (Unit × DenW (.pr (.o 0 I) (.pr (.d 1 I) (.d 2 I)))) :=
 (iter (B_f47_L0 N (fun x7 => some ((),x7,(),())) (fun ρ8 => some (ρ8))) N (a0,a1,a2,(wrap64 (a1 + (1:Int))))).bind fun r => bif (Nat.beq a0.length r.2.1.length && (true && true)) then some r else none
abbrev cm_f47 (N : Nat) : CM := ⟨148,(.pr (.o 0 I) (.pr (.d 1 I) (.d 2 I))),.un,fun a => x_f47 N a.1 a.2.1 a.2.2⟩
theorem c_f47 (N : Nat) : CMok Tryz.prog (cm_f47 N) :=
 CM_ok (Γ := [.c (ct_f0 N)]) (Θ := []) (Λ := ([⟨0,1,(.pr (.o 0 I) (.pr (.d 1 I) (.pr (.d 2 I) (.d 6 I)))),(.o 0 I),fun {Ω} kx kr => iter (B_f47_L0 N kx kr) N⟩,⟨2,1,(.pr (.o 0 I) (.pr (.d 1 I) (.pr (.d 2 I) (.pr (.d 6 I) (.d 7 I))))),(.pr (.o 0 I) (.pr (.d 1 I) (.pr (.d 2 I) (.d 6 I)))),fun {Ω} kx kr => iter (B_f47_L2 N kx kr) N⟩] : List (LC (DenR .un × DenW (.pr (.o 0 I) (.pr (.d 1 I) (.d 2 I))))))) (by kernel_rfl) mixed ⟨c_f0 N,trivial⟩ (by kernel_rfl)
  ⟨LoopEq.mk N (fun Ω kx kr => B_f47_L0 N kx kr) (fun Ω g kx kr s => by kernel_rfl),⟨LoopEq.mk N (fun Ω kx kr => B_f47_L2 N kx kr) (fun Ω g kx kr s => by kernel_rfl),trivial⟩⟩ (by kernel_rfl) (fun a => by kernel_rfl)
abbrev rawLen64 : CT := ⟨158,.d (.i .u64),.t I,rawC Tryz.prog [] 158 (.d (.i .u64)) (.t I)⟩
theorem rawLen64_ok : CTok Tryz.prog rawLen64 := rawC_ok (by kernel_rfl) mixed trivial (by kernel_rfl) (by kernel_rfl)
abbrev rawLen : CT := ⟨128,.d (.i .u64),.t I,rawC Tryz.prog [.c rawLen64] 128 (.d (.i .u64)) (.t I)⟩
theorem rawLen_ok : CTok Tryz.prog rawLen := rawC_ok (by kernel_rfl) mixed ⟨rawLen64_ok,trivial⟩ (by kernel_rfl) (by kernel_rfl)
abbrev sPdq : SK := (.pr (.o 0 I) (.pr (.d 1 I) (.pr (.d 2 I) (.d 3 I))))
abbrev rawPdq : CM := ⟨127,sPdq,.un,rawM Tryz.prog [.m (cm_f47 9)] 127 sPdq (.pr (.o 0 I) (.pr (.d 1 I) (.pr (.d 2 I) (.pr (.d 3 I) (.pr (.d 8 .bl) (.d 9 .bl)))))) (.o 0 I)⟩
theorem rawPdq_ok : CMok Tryz.prog rawPdq := rawM_ok (by kernel_rfl) mixed ⟨c_f47 9,trivial⟩ (by kernel_rfl) (by kernel_rfl) (by kernel_rfl)
abbrev rawSort : CM := ⟨73,.o 0 I,.un,rawM0 Tryz.prog [.c rawLen,.m rawPdq] 73 (.o 0 I)⟩
theorem rawSort_ok : CMok Tryz.prog rawSort := rawM0_ok (by kernel_rfl) mixed ⟨rawLen_ok,rawPdq_ok,trivial⟩ (by kernel_rfl) (by kernel_rfl)
def x_f45 (N : Nat) (a0 : (List Int)) : Option (Unit × DenW (.o 0 I)) :=
 bif decide (List.length (α := Int) a0 ≤ 140737488355328) then some ((),sortI a0) else none
abbrev cm_f45 (N : Nat) : CM := ⟨73,(.o 0 I),.un,fun a => x_f45 N a⟩
theorem c_f45 (N : Nat) : CMok Tryz.prog (cm_f45 N) :=
 sort_CM (ρ := Tryz.laysSort_ren) Tryz.laysSort ⟨_,Tryz.func73,by kernel_rfl,by kernel_rfl⟩ rawSort.F (by kernel_rfl) rawSort_ok
def B_f3_L0 (N : Nat) {Ω : Type} (kx : DenS (.o 3 I) → Option Ω) (kr : (List Int) → Option Ω) (rec_ : DenS (.pr (.o 3 I) (.pr (.d 8 (.sl tPeer)) (.pr (.d 9 I) (.d 10 I)))) → Option Ω) : DenS (.pr (.o 3 I) (.pr (.d 8 (.sl tPeer)) (.pr (.d 9 I) (.d 10 I)))) → Option Ω := fun (s3,s8,s9,s10) =>
 (bif (decide (s10 < s9)) then (bif (decide (0 ≤ s10) && decide (s10 < s8.length)) then (bif ((s8.getD s10.toNat (dft tPeer)).2).1 then (bif (decide ((s3.length + [(s8.getD s10.toNat (dft tPeer)).1].length) * 8 ≤ 140737488355328)) then rec_ ((s3 ++ [(s8.getD s10.toNat (dft tPeer)).1]),s8,s9,(wrap64 (s10 + (1:Int)))) else none) else rec_ (s3,s8,s9,(wrap64 (s10 + (1:Int))))) else none) else kx s3)
def x_f3 (N : Nat) (a0 : (Den tRing)) : Option (List Int) :=
 iter (B_f3_L0 N (fun x1 => (x_f45 N x1).bind fun r2 => some r2.2) (fun ρ3 => some (ρ3))) N ([],a0,(a0.length : Int),(0:Int))
abbrev ct_f3 (N : Nat) : CT := ⟨10,(.d tRing),(.t (.sl I)),fun a => x_f3 N a⟩
theorem c_f3 (N : Nat) : CTok Tryz.prog (ct_f3 N) :=
 CT_ok (Γ := [.m (cm_f45 N)]) (Θ := [(6,I),(19,I)]) (Λ := ([⟨0,0,(.pr (.o 3 I) (.pr (.d 8 (.sl tPeer)) (.pr (.d 9 I) (.d 10 I)))),(.o 3 I),fun {Ω} kx kr => iter (B_f3_L0 N kx kr) N⟩] : List (LC (DenR (.t (.sl I)))))) (by kernel_rfl) mixed ⟨c_f45 N,trivial⟩ (by kernel_rfl)
  ⟨LoopEq.mk N (fun Ω kx kr => B_f3_L0 N kx kr) (fun Ω g kx kr s => by kernel_rfl),trivial⟩ (by kernel_rfl) (fun a => by kernel_rfl)
def x_f23 (N : Nat) (a0 : (Den tPeer)) (a1 : Int) : Option Bool :=
 (bif a0.2.1 then some (decide (a0.1 = a1)) else some false)
abbrev ct_f23 (N : Nat) : CT := ⟨129,(.pr (.d tPeer) (.ip I)),(.t .bl),fun a => x_f23 N a.1 a.2⟩
theorem c_f23 (N : Nat) : CTok Tryz.prog (ct_f23 N) :=
 CT_ok (Γ := []) (Θ := []) (Λ := ([] : List (LC (DenR (.t .bl))))) (by kernel_rfl) mixed trivial (by kernel_rfl)
  trivial (by kernel_rfl) (fun a => by kernel_rfl)
def B_f39_L0 (N : Nat) {Ω : Type} (kx : DenS .un → Option Ω) (kr : Int → Option Ω) (rec_ : DenS (.pr (.d 0 (.sl tPeer)) (.pr (.fn 1 129 (.ip I)) (.pr (.d 7 I) (.d 8 I)))) → Option Ω) : DenS (.pr (.d 0 (.sl tPeer)) (.pr (.fn 1 129 (.ip I)) (.pr (.d 7 I) (.d 8 I)))) → Option Ω := fun (s0,s1,s7,s8) =>
 (bif (decide (s8 < s7)) then (bif (decide (0 ≤ s8) && decide (s8 < s0.length)) then (x_f23 N (s0.getD s8.toNat (dft tPeer)) s1).bind fun r1 => (bif r1 then kr s8 else rec_ (s0,s1,s7,(wrap64 (s8 + (1:Int))))) else none) else kx ())
def x_f39 (N : Nat) (a0 : (List (Den tPeer))) (a1 : Int) : Option Int :=
 iter (B_f39_L0 N (fun _ => some (-1:Int)) (fun ρ2 => some (ρ2))) N (a0,a1,(a0.length : Int),(0:Int))
abbrev ct_f39 (N : Nat) : CT := ⟨94,(.pr (.d (.sl tPeer)) (.fn 129 (.ip I))),(.t I),fun a => x_f39 N a.1 a.2⟩
theorem c_f39 (N : Nat) : CTok Tryz.prog (ct_f39 N) :=
 CT_ok (Γ := [.c (ct_f23 N)]) (Θ := []) (Λ := ([⟨0,0,(.pr (.d 0 (.sl tPeer)) (.pr (.fn 1 129 (.ip I)) (.pr (.d 7 I) (.d 8 I)))),.un,fun {Ω} kx kr => iter (B_f39_L0 N kx kr) N⟩] : List (LC (DenR (.t I))))) (by kernel_rfl) mixed ⟨c_f23 N,trivial⟩ (by kernel_rfl)
  ⟨LoopEq.mk N (fun Ω kx kr => B_f39_L0 N kx kr) (fun Ω g kx kr s => by kernel_rfl),trivial⟩ (by kernel_rfl) (fun a => by kernel_rfl)
def x_f22 (N : Nat) (a0 : (Den tRing)) (a1 : Int) : Option Int :=
 (x_f39 N a0 a1).bind fun r1 => some r1
abbrev ct_f22 (N : Nat) : CT := ⟨74,(.pr (.d tRing) (.d I)),(.t I),fun a => x_f22 N a.1 a.2⟩
theorem c_f22 (N : Nat) : CTok Tryz.prog (ct_f22 N) :=
 CT_ok (Γ := [.c (ct_f39 N)]) (Θ := []) (Λ := ([] : List (LC (DenR (.t I))))) (by kernel_rfl) mixed ⟨c_f39 N,trivial⟩ (by kernel_rfl)
  trivial (by kernel_rfl) (fun a => by kernel_rfl)
def x_f8 (N : Nat) (a0 : (Den tRing)) (a1 : Int) : Option Int :=
 (x_f22 N a0 a1).bind fun r1 => some r1
abbrev ct_f8 (N : Nat) : CT := ⟨11,(.pr (.d tRing) (.d I)),(.t I),fun a => x_f8 N a.1 a.2⟩
theorem c_f8 (N : Nat) : CTok Tryz.prog (ct_f8 N) :=
 CT_ok (Γ := [.c (ct_f22 N)]) (Θ := []) (Λ := ([] : List (LC (DenR (.t I))))) (by kernel_rfl) mixed ⟨c_f22 N,trivial⟩ (by kernel_rfl)
  trivial (by kernel_rfl) (fun a => by kernel_rfl)
def B_f4_L0 (N : Nat) {Ω : Type} (kx : DenS .un → Option Ω) (kr : Int → Option Ω) (rec_ : DenS (.pr (.ip 2 tRing) (.pr (.d 18 (.sl I)) (.pr (.d 19 I) (.d 20 I)))) → Option Ω) : DenS (.pr (.ip 2 tRing) (.pr (.d 18 (.sl I)) (.pr (.d 19 I) (.d 20 I)))) → Option Ω := fun (s2,s18,s19,s20) =>
 (bif (decide (s20 < s19)) then (bif (decide (0 ≤ s20) && decide (s20 < s18.length)) then (x_f22 N s2 (s18.getD s20.toNat (0:Int))).bind fun r2 => (bif (decide ((0:Int) ≤ r2)) then kr (s18.getD s20.toNat (0:Int)) else rec_ (s2,s18,s19,(wrap64 (s20 + (1:Int))))) else none) else kx ())
def x_f4 (N : Nat) (a0 : (Den tRing)) (a1 : Int) : Option Int :=
 (x_f22 N a0 a1).bind fun r1 => (bif (decide (r1 < (0:Int))) then some (-1:Int) else (bif (decide (0 ≤ r1) && decide (r1 < a0.length)) then iter (B_f4_L0 N (fun _ => some (-1:Int)) (fun ρ3 => some (ρ3))) N (a0,((((a0.getD r1.toNat (dft tPeer)).2).2).2).1,((((((a0.getD r1.toNat (dft tPeer)).2).2).2).1).length : Int),(0:Int)) else none))
abbrev ct_f4 (N : Nat) : CT := ⟨12,(.pr (.d tRing) (.d I)),(.t I),fun a => x_f4 N a.1 a.2⟩
theorem c_f4 (N : Nat) : CTok Tryz.prog (ct_f4 N) :=
 CT_ok (Γ := [.c (ct_f22 N)]) (Θ := []) (Λ := ([⟨0,0,(.pr (.ip 2 tRing) (.pr (.d 18 (.sl I)) (.pr (.d 19 I) (.d 20 I)))),.un,fun {Ω} kx kr => iter (B_f4_L0 N kx kr) N⟩] : List (LC (DenR (.t I))))) (by kernel_rfl) mixed ⟨c_f22 N,trivial⟩ (by kernel_rfl)
  ⟨LoopEq.mk N (fun Ω kx kr => B_f4_L0 N kx kr) (fun Ω g kx kr s => by kernel_rfl),trivial⟩ (by kernel_rfl) (fun a => by kernel_rfl)
def B_f83_L0 (N : Nat) {Ω : Type} (kx : DenS .un → Option Ω) (kr : Bool → Option Ω) (rec_ : DenS (.pr (.d 0 (.sl I)) (.pr (.d 1 I) (.d 5 I))) → Option Ω) : DenS (.pr (.d 0 (.sl I)) (.pr (.d 1 I) (.d 5 I))) → Option Ω := fun (s0,s1,s5) =>
 (bif (decide (s5 < (s0.length : Int))) then (bif (decide (0 ≤ s5) && decide (s5 < s0.length)) then (bif (decide ((s0.getD s5.toNat (0:Int)) = s1)) then kr true else rec_ (s0,s1,(wrap64 (s5 + (1:Int))))) else none) else kx ())
def x_f83 (N : Nat) (a0 : (List Int)) (a1 : Int) : Option Bool :=
 iter (B_f83_L0 N (fun _ => some false) (fun ρ1 => some (ρ1))) N (a0,a1,(0:Int))
abbrev ct_f83 (N : Nat) : CT := ⟨75,(.pr (.d (.sl I)) (.d I)),(.t .bl),fun a => x_f83 N a.1 a.2⟩
theorem c_f83 (N : Nat) : CTok Tryz.prog (ct_f83 N) :=
 CT_ok (Γ := []) (Θ := []) (Λ := ([⟨0,0,(.pr (.d 0 (.sl I)) (.pr (.d 1 I) (.d 5 I))),.un,fun {Ω} kx kr => iter (B_f83_L0 N kx kr) N⟩] : List (LC (DenR (.t .bl))))) (by kernel_rfl) mixed trivial (by kernel_rfl)
  ⟨LoopEq.mk N (fun Ω kx kr => B_f83_L0 N kx kr) (fun Ω g kx kr s => by kernel_rfl),trivial⟩ (by kernel_rfl) (fun a => by kernel_rfl)
def x_f84 (N : Nat) (a0 : Int) : Option Int :=
 (bif (decide ((a0.tmod (256:Int)) < (0:Int))) then some (wrap64 ((a0.tmod (256:Int)) + (256:Int))) else some (a0.tmod (256:Int)))
abbrev ct_f84 (N : Nat) : CT := ⟨130,(.d I),(.t I),fun a => x_f84 N a⟩
theorem c_f84 (N : Nat) : CTok Tryz.prog (ct_f84 N) :=
 CT_ok (Γ := []) (Θ := []) (Λ := ([] : List (LC (DenR (.t I))))) (by kernel_rfl) mixed trivial (by kernel_rfl)
  trivial (by kernel_rfl) (fun a => by kernel_rfl)
def x_f52 (N : Nat) (a0 : Int) (a1 : Int) : Option Int :=
 (x_f84 N a1).bind fun r1 => (x_f84 N a0).bind fun r2 => (x_f84 N (wrap64 (r1 - r2))).bind fun r3 => some r3
abbrev ct_f52 (N : Nat) : CT := ⟨76,(.pr (.d I) (.d I)),(.t I),fun a => x_f52 N a.1 a.2⟩
theorem c_f52 (N : Nat) : CTok Tryz.prog (ct_f52 N) :=
 CT_ok (Γ := [.c (ct_f84 N)]) (Θ := []) (Λ := ([] : List (LC (DenR (.t I))))) (by kernel_rfl) mixed ⟨c_f84 N,trivial⟩ (by kernel_rfl)
  trivial (by kernel_rfl) (fun a => by kernel_rfl)
def B_f66_L2 (N : Nat) {Ω : Type} (kx : DenS (.pr (.d 0 (.sl I)) (.pr (.d 1 I) (.pr (.d 6 I) (.pr (.o 7 I) (.d 8 .bl))))) → Option Ω) (kr : (List Int) → Option Ω) (rec_ : DenS (.pr (.d 0 (.sl I)) (.pr (.d 1 I) (.pr (.o 5 I) (.pr (.d 6 I) (.pr (.o 7 I) (.pr (.d 8 .bl) (.d 9 I))))))) → Option Ω) : DenS (.pr (.d 0 (.sl I)) (.pr (.d 1 I) (.pr (.o 5 I) (.pr (.d 6 I) (.pr (.o 7 I) (.pr (.d 8 .bl) (.d 9 I))))))) → Option Ω := fun (s0,s1,s5,s6,s7,s8,s9) =>
 (bif (decide (s9 < (s5.length : Int))) then (bif (!s8) then (bif (decide (0 ≤ s6) && decide (s6 < s0.length)) then (bif (decide (0 ≤ s9) && decide (s9 < s5.length)) then (x_f52 N s1 (s0.getD s6.toNat (0:Int))).bind fun r2 => (x_f52 N s1 (s5.getD s9.toNat (0:Int))).bind fun r3 => (bif (decide (r2 < r3)) then (bif (decide (0 ≤ s6) && decide (s6 < s0.length)) then (bif (decide ((s7.length + [(s0.getD s6.toNat (0:Int))].length) * 8 ≤ 140737488355328)) then (bif (decide (0 ≤ s9) && decide (s9 < s5.length)) then (bif (decide (((s7 ++ [(s0.getD s6.toNat (0:Int))]).length + [(s5.getD s9.toNat (0:Int))].length) * 8 ≤ 140737488355328)) then rec_ (s0,s1,s5,s6,((s7 ++ [(s0.getD s6.toNat (0:Int))]) ++ [(s5.getD s9.toNat (0:Int))]),true,(wrap64 (s9 + (1:Int)))) else none) else none) else none) else none) else (bif (decide (0 ≤ s9) && decide (s9 < s5.length)) then (bif (decide ((s7.length + [(s5.getD s9.toNat (0:Int))].length) * 8 ≤ 140737488355328)) then rec_ (s0,s1,s5,s6,(s7 ++ [(s5.getD s9.toNat (0:Int))]),s8,(wrap64 (s9 + (1:Int)))) else none) else none)) else none) else none) else (bif (decide (0 ≤ s9) && decide (s9 < s5.length)) then (bif (decide ((s7.length + [(s5.getD s9.toNat (0:Int))].length) * 8 ≤ 140737488355328)) then rec_ (s0,s1,s5,s6,(s7 ++ [(s5.getD s9.toNat (0:Int))]),s8,(wrap64 (s9 + (1:Int)))) else none) else none)) else kx (s0,s1,s6,s7,s8))
def B_f66_L0 (N : Nat) {Ω : Type} (kx : DenS (.o 5 I) → Option Ω) (kr : (List Int) → Option Ω) (rec_ : DenS (.pr (.d 0 (.sl I)) (.pr (.d 1 I) (.pr (.o 5 I) (.d 6 I)))) → Option Ω) : DenS (.pr (.d 0 (.sl I)) (.pr (.d 1 I) (.pr (.o 5 I) (.d 6 I)))) → Option Ω := fun (s0,s1,s5,s6) =>
 (bif (decide (s6 < (s0.length : Int))) then (bif (decide (0 ≤ s6) && decide (s6 < s0.length)) then (bif (decide ((s0.getD s6.toNat (0:Int)) = s1)) then rec_ (s0,s1,s5,(wrap64 (s6 + (1:Int)))) else (bif (decide (0 ≤ s6) && decide (s6 < s0.length)) then (x_f83 N s5 (s0.getD s6.toNat (0:Int))).bind fun r1 => (bif r1 then rec_ (s0,s1,s5,(wrap64 (s6 + (1:Int)))) else iter (B_f66_L2 N (fun (x4,x5,x6,x7,x8) => (bif (!x8) then (bif (decide (0 ≤ x6) && decide (x6 < x4.length)) then (bif (decide ((x7.length + [(x4.getD x6.toNat (0:Int))].length) * 8 ≤ 140737488355328)) then rec_ (x4,x5,(x7 ++ [(x4.getD x6.toNat (0:Int))]),(wrap64 (x6 + (1:Int)))) else none) else none) else rec_ (x4,x5,x7,(wrap64 (x6 + (1:Int)))))) (fun ρ9 => kr (ρ9))) N (s0,s1,s5,s6,[],false,(0:Int))) else none)) else none) else kx s5)
def x_f66 (N : Nat) (a0 : (List Int)) (a1 : Int) : Option (List Int) :=
 iter (B_f66_L0 N (fun x10 => some x10) (fun ρ11 => some (ρ11))) N (a0,a1,[],(0:Int))
abbrev ct_f66 (N : Nat) : CT := ⟨13,(.pr (.d (.sl I)) (.d I)),(.t (.sl I)),fun a => x_f66 N a.1 a.2⟩
theorem c_f66 (N : Nat) : CTok Tryz.prog (ct_f66 N) :=
 CT_ok (Γ := [.c (ct_f83 N),.c (ct_f52 N)]) (Θ := [(10,I),(31,I),(60,I),(67,I),(76,I)]) (Λ := ([⟨0,0,(.pr (.d 0 (.sl I)) (.pr (.d 1 I) (.pr (.o 5 I) (.d 6 I)))),(.o 5 I),fun {Ω} kx kr => iter (B_f66_L0 N kx kr) N⟩,⟨2,0,(.pr (.d 0 (.sl I)) (.pr (.d 1 I) (.pr (.o 5 I) (.pr (.d 6 I) (.pr (.o 7 I) (.pr (.d 8 .bl) (.d 9 I))))))),(.pr (.d 0 (.sl I)) (.pr (.d 1 I) (.pr (.d 6 I) (.pr (.o 7 I) (.d 8 .bl))))),fun {Ω} kx kr => iter (B_f66_L2 N kx kr) N⟩] : List (LC (DenR (.t (.sl I)))))) (by kernel_rfl) mixed ⟨c_f83 N,⟨c_f52 N,trivial⟩⟩ (by kernel_rfl)
  ⟨LoopEq.mk N (fun Ω kx kr => B_f66_L0 N kx kr) (fun Ω g kx kr s => by kernel_rfl),⟨LoopEq.mk N (fun Ω kx kr => B_f66_L2 N kx kr) (fun Ω g kx kr s => by kernel_rfl),trivial⟩⟩ (by kernel_rfl) (fun a => by kernel_rfl)
def x_f79 (N : Nat) (a0 : Int) (a1 : Int) (a2 : Int) : Option Bool :=
 (bif (decide (a1 ≤ a0)) then some (decide (a0 ≤ a2)) else some false)
abbrev ct_f79 (N : Nat) : CT := ⟨83,(.pr (.d I) (.pr (.d I) (.d I))),(.t .bl),fun a => x_f79 N a.1 a.2.1 a.2.2⟩
theorem c_f79 (N : Nat) : CTok Tryz.prog (ct_f79 N) :=
 CT_ok (Γ := []) (Θ := []) (Λ := ([] : List (LC (DenR (.t .bl))))) (by kernel_rfl) mixed trivial (by kernel_rfl)
  trivial (by kernel_rfl) (fun a => by kernel_rfl)
def x_f88 (N : Nat) (a0 : (List Int)) : Option (List Int) :=
 (bif (decide ((3:Int) < (a0.length : Int))) then (bif (inB (0:Int) (3:Int) (a0.length : Int)) then (bif (decide ((([] : List Int).length + ((a0.drop (0:Int).toNat).take ((3:Int).toNat - (0:Int).toNat)).length) * 8 ≤ 140737488355328)) then some (([] : List Int) ++ ((a0.drop (0:Int).toNat).take ((3:Int).toNat - (0:Int).toNat))) else none) else none) else (bif (decide ((([] : List Int).length + a0.length) * 8 ≤ 140737488355328)) then some (([] : List Int) ++ a0) else none))
abbrev ct_f88 (N : Nat) : CT := ⟨84,(.d (.sl I)),(.t (.sl I)),fun a => x_f88 N a⟩
theorem c_f88 (N : Nat) : CTok Tryz.prog (ct_f88 N) :=
 CT_ok (Γ := []) (Θ := [(8,I)]) (Λ := ([] : List (LC (DenR (.t (.sl I)))))) (by kernel_rfl) mixed trivial (by kernel_rfl)
  trivial (by kernel_rfl) (fun a => by kernel_rfl)
def B_f67_L0 (N : Nat) {Ω : Type} (kx : DenS (.pr (.d 0 (.sl I)) (.d 5 I)) → Option Ω) (kr : Int → Option Ω) (rec_ : DenS (.pr (.d 0 (.sl I)) (.pr (.d 1 I) (.pr (.d 5 I) (.d 6 I)))) → Option Ω) : DenS (.pr (.d 0 (.sl I)) (.pr (.d 1 I) (.pr (.d 5 I) (.d 6 I)))) → Option Ω := fun (s0,s1,s5,s6) =>
 (bif (decide (s6 < (s0.length : Int))) then (bif (decide (s5 < (0:Int))) then rec_ (s0,s1,s6,(wrap64 (s6 + (1:Int)))) else (bif (decide (0 ≤ s6) && decide (s6 < s0.length)) then (bif (decide (0 ≤ s5) && decide (s5 < s0.length)) then (x_f52 N s1 (s0.getD s6.toNat (0:Int))).bind fun r1 => (x_f52 N s1 (s0.getD s5.toNat (0:Int))).bind fun r2 => (bif (decide (r1 < r2)) then rec_ (s0,s1,s6,(wrap64 (s6 + (1:Int)))) else rec_ (s0,s1,s5,(wrap64 (s6 + (1:Int))))) else none) else none)) else kx (s0,s5))
def x_f67 (N : Nat) (a0 : (List Int)) (a1 : Int) : Option Int :=
 iter (B_f67_L0 N (fun (x3,x4) => (bif (decide (x4 < (0:Int))) then some (-1:Int) else (bif (decide (0 ≤ x4) && decide (x4 < x3.length)) then some (x3.getD x4.toNat (0:Int)) else none))) (fun ρ5 => some (ρ5))) N (a0,a1,(-1:Int),(0:Int))
abbrev ct_f67 (N : Nat) : CT := ⟨85,(.pr (.d (.sl I)) (.d I)),(.t I),fun a => x_f67 N a.1 a.2⟩
theorem c_f67 (N : Nat) : CTok Tryz.prog (ct_f67 N) :=
 CT_ok (Γ := [.c (ct_f52 N)]) (Θ := []) (Λ := ([⟨0,0,(.pr (.d 0 (.sl I)) (.pr (.d 1 I) (.pr (.d 5 I) (.d 6 I)))),(.pr (.d 0 (.sl I)) (.d 5 I)),fun {Ω} kx kr => iter (B_f67_L0 N kx kr) N⟩] : List (LC (DenR (.t I))))) (by kernel_rfl) mixed ⟨c_f52 N,trivial⟩ (by kernel_rfl)
  ⟨LoopEq.mk N (fun Ω kx kr => B_f67_L0 N kx kr) (fun Ω g kx kr s => by kernel_rfl),trivial⟩ (by kernel_rfl) (fun a => by kernel_rfl)
def B_f72_L0 (N : Nat) {Ω : Type} (kx : DenS (.pr (.bx 2 tRing) (.o 3 I)) → Option Ω) (kr : (Den tRing) → Option Ω) (rec_ : DenS (.pr (.d 0 (.sl I)) (.pr (.bx 2 tRing) (.pr (.o 3 I) (.d 4 I)))) → Option Ω) : DenS (.pr (.d 0 (.sl I)) (.pr (.bx 2 tRing) (.pr (.o 3 I) (.d 4 I)))) → Option Ω := fun (s0,s2,s3,s4) =>
 (bif (decide (s4 < (s0.length : Int))) then (bif (decide (0 ≤ s4) && decide (s4 < s0.length)) then (x_f79 N (s0.getD s4.toNat (0:Int)) (0:Int) (255:Int)).bind fun r1 => (bif r1 then (bif (decide (0 ≤ s4) && decide (s4 < s0.length)) then (x_f83 N s3 (s0.getD s4.toNat (0:Int))).bind fun r2 => (bif (!r2) then (bif (decide ((s3.length : Int) < (8:Int))) then (bif (decide (0 ≤ s4) && decide (s4 < s0.length)) then (bif (decide ((s3.length + [(s0.getD s4.toNat (0:Int))].length) * 8 ≤ 140737488355328)) then rec_ (s0,s2,(s3 ++ [(s0.getD s4.toNat (0:Int))]),(wrap64 (s4 + (1:Int)))) else none) else none) else rec_ (s0,s2,s3,(wrap64 (s4 + (1:Int))))) else rec_ (s0,s2,s3,(wrap64 (s4 + (1:Int))))) else none) else rec_ (s0,s2,s3,(wrap64 (s4 + (1:Int))))) else none) else kx (s2,s3))
def B_f72_L4 (N : Nat) {Ω : Type} (kx : DenS (.pr (.bx 2 tRing) (.pr (.d 3 (.sl I)) (.pr (.d 5 (.sl I)) (.pr (.bx 6 tRing) (.pr (.d 7 I) (.bx 9 tPeer)))))) → Option Ω) (kr : (Den tRing) → Option Ω) (rec_ : DenS (.pr (.bx 2 tRing) (.pr (.d 3 (.sl I)) (.pr (.d 5 (.sl I)) (.pr (.bx 6 tRing) (.pr (.d 7 I) (.pr (.bx 9 tPeer) (.d 10 I))))))) → Option Ω) : DenS (.pr (.bx 2 tRing) (.pr (.d 3 (.sl I)) (.pr (.d 5 (.sl I)) (.pr (.bx 6 tRing) (.pr (.d 7 I) (.pr (.bx 9 tPeer) (.d 10 I))))))) → Option Ω := fun (s2,s3,s5,s6,s7,s9,s10) =>
 (bif (decide (s10 < (8:Int))) then (bif (decide (0 ≤ s7) && decide (s7 < s3.length)) then (bif (decide (0 ≤ (s10 % 18446744073709551616))) then (x_f67 N s5 (wrap64 ((s3.getD s7.toNat (0:Int)) + (shlI .i64 (1:Int) (s10 % 18446744073709551616))))).bind fun r7 => (bif (decide ((s9.2.2.2.2.1.length + [r7].length) * 8 ≤ 140737488355328)) then rec_ (s2,s3,s5,s6,s7,(s9.1,s9.2.1,s9.2.2.1,s9.2.2.2.1,(s9.2.2.2.2.1 ++ [r7]),s9.2.2.2.2.2),(wrap64 (s10 + (1:Int)))) else none) else none) else none) else kx (s2,s3,s5,s6,s7,s9))
def B_f72_L2 (N : Nat) {Ω : Type} (kx : DenS (.pr (.bx 2 tRing) (.bx 6 tRing)) → Option Ω) (kr : (Den tRing) → Option Ω) (rec_ : DenS (.pr (.bx 2 tRing) (.pr (.d 3 (.sl I)) (.pr (.d 5 (.sl I)) (.pr (.bx 6 tRing) (.d 7 I))))) → Option Ω) : DenS (.pr (.bx 2 tRing) (.pr (.d 3 (.sl I)) (.pr (.d 5 (.sl I)) (.pr (.bx 6 tRing) (.d 7 I))))) → Option Ω := fun (s2,s3,s5,s6,s7) =>
 (bif (decide (s7 < (s3.length : Int))) then (bif (decide ((4:Int) ≤ s7)) then (bif (decide (0 ≤ s7) && decide (s7 < s3.length)) then (bif (decide ((s6.length + ([((s3.getD s7.toNat (0:Int)),false,(0:Int),[],[],[])] : List (Den tPeer)).length) * 96 ≤ 140737488355328)) then rec_ (s2,s3,s5,(s6 ++ ([((s3.getD s7.toNat (0:Int)),false,(0:Int),[],[],[])] : List (Den tPeer))),(wrap64 (s7 + (1:Int)))) else none) else none) else (bif (decide (0 ≤ s7) && decide (s7 < s3.length)) then (x_f66 N s5 (s3.getD s7.toNat (0:Int))).bind fun r5 => (bif (decide (0 ≤ s7) && decide (s7 < s3.length)) then (bif (decide (0 ≤ (wrap64 ((r5.length : Int) - (1:Int)))) && decide ((wrap64 ((r5.length : Int) - (1:Int))) < r5.length)) then agree ((x_f88 N r5).bind fun r6 => iter (B_f72_L4 N (fun (x8,x9,x10,x11,x12,x13) => (bif (decide ((x11.length + [x13].length) * 96 ≤ 140737488355328)) then rec_ (x8,x9,x10,(x11 ++ [x13]),(wrap64 (x12 + (1:Int)))) else none)) (fun ρ14 => kr (ρ14))) N (s2,s3,s5,s6,s7,((s3.getD s7.toNat (0:Int)),true,(r5.getD ((wrap64 ((r5.length : Int) - (1:Int))).toNat) (0:Int)),r6,[],[]),(0:Int))) ((x_f88 N r5).bind fun r15 => iter (B_f72_L4 N (fun (x16,x17,x18,x19,x20,x21) => (bif (decide ((x19.length + [x21].length) * 96 ≤ 140737488355328)) then rec_ (x16,x17,x18,(x19 ++ [x21]),(wrap64 (x20 + (1:Int)))) else none)) (fun ρ22 => kr (ρ22))) N (s2,s3,s5,s6,s7,((s3.getD s7.toNat (0:Int)),true,(r5.getD ((wrap64 ((r5.length : Int) - (1:Int))).toNat) (0:Int)),r15,[],[]),(0:Int))) else none) else none) else none)) else kx (s2,s6))
def x_f72 (N : Nat) (a0 : (List Int)) : Option (Den tRing) :=
 iter (B_f72_L0 N (fun (x3,x4) => (bif (decide ((x4.length : Int) < (4:Int))) then some [] else (bif (inB (0:Int) (4:Int) (x4.length : Int)) then iter (B_f72_L2 N (fun (x23,x24) => some x24) (fun ρ25 => some (ρ25))) N (x3,x4,((x4.drop ((0:Int).toNat)).take ((4:Int).toNat - (0:Int).toNat)),[],(0:Int)) else none))) (fun ρ26 => some (ρ26))) N (a0,[],[],(0:Int))
abbrev ct_f72 (N : Nat) : CT := ⟨24,(.d (.sl I)),(.t tRing),fun a => x_f72 N a⟩
theorem c_f72 (N : Nat) : CTok Tryz.prog (ct_f72 N) :=
 CT_ok (Γ := [.c (ct_f79 N),.c (ct_f83 N),.c (ct_f66 N),.c (ct_f88 N),.c (ct_f67 N)]) (Θ := [(11,I),(42,I),(66,tPeer),(104,I),(110,tPeer)]) (Λ := ([⟨0,0,(.pr (.d 0 (.sl I)) (.pr (.bx 2 tRing) (.pr (.o 3 I) (.d 4 I)))),(.pr (.bx 2 tRing) (.o 3 I)),fun {Ω} kx kr => iter (B_f72_L0 N kx kr) N⟩,⟨2,0,(.pr (.bx 2 tRing) (.pr (.d 3 (.sl I)) (.pr (.d 5 (.sl I)) (.pr (.bx 6 tRing) (.d 7 I))))),(.pr (.bx 2 tRing) (.bx 6 tRing)),fun {Ω} kx kr => iter (B_f72_L2 N kx kr) N⟩,⟨4,0,(.pr (.bx 2 tRing) (.pr (.d 3 (.sl I)) (.pr (.d 5 (.sl I)) (.pr (.bx 6 tRing) (.pr (.d 7 I) (.pr (.bx 9 tPeer) (.d 10 I))))))),(.pr (.bx 2 tRing) (.pr (.d 3 (.sl I)) (.pr (.d 5 (.sl I)) (.pr (.bx 6 tRing) (.pr (.d 7 I) (.bx 9 tPeer)))))),fun {Ω} kx kr => iter (B_f72_L4 N kx kr) N⟩] : List (LC (DenR (.t tRing))))) (by kernel_rfl) mixed ⟨c_f79 N,⟨c_f83 N,⟨c_f66 N,⟨c_f88 N,⟨c_f67 N,trivial⟩⟩⟩⟩⟩ (by kernel_rfl)
  ⟨LoopEq.mk N (fun Ω kx kr => B_f72_L0 N kx kr) (fun Ω g kx kr s => by kernel_rfl),⟨LoopEq.mk N (fun Ω kx kr => B_f72_L2 N kx kr) (fun Ω g kx kr s => by kernel_rfl),⟨LoopEq.mk N (fun Ω kx kr => B_f72_L4 N kx kr) (fun Ω g kx kr s => by kernel_rfl),trivial⟩⟩⟩ (by kernel_rfl) (fun a => by kernel_rfl)
def B_f87_L0 (N : Nat) {Ω : Type} (kx : DenS (.pr (.bx 2 tPeer) (.bx 3 tPeer)) → Option Ω) (kr : (Den tPeer) → Option Ω) (rec_ : DenS (.pr (.ip 1 tPeer) (.pr (.bx 2 tPeer) (.pr (.bx 3 tPeer) (.d 4 I)))) → Option Ω) : DenS (.pr (.ip 1 tPeer) (.pr (.bx 2 tPeer) (.pr (.bx 3 tPeer) (.d 4 I)))) → Option Ω := fun (s1,s2,s3,s4) =>
 (bif (decide (s4 < (s1.2.2.2.2.2.length : Int))) then (bif (decide (0 ≤ s4) && decide (s4 < s1.2.2.2.2.2.length)) then agree (agree ((bif (decide (0 ≤ s4) && decide (s4 < s1.2.2.2.2.2.length)) then agree ((bif (decide ((([] : List (Den tItem)).length + ((s1.2.2.2.2.2.getD s4.toNat (dft tShelf)).2).length) * 24 ≤ 140737488355328)) then (bif (decide ((s3.2.2.2.2.2.length + ([((s1.2.2.2.2.2.getD s4.toNat (dft tShelf)).1,(([] : List (Den tItem)) ++ ((s1.2.2.2.2.2.getD s4.toNat (dft tShelf)).2)))] : List (Den tShelf)).length) * 32 ≤ 140737488355328)) then rec_ (s1,s2,(s3.1,s3.2.1,s3.2.2.1,s3.2.2.2.1,s3.2.2.2.2.1,(s3.2.2.2.2.2 ++ ([((s1.2.2.2.2.2.getD s4.toNat (dft tShelf)).1,(([] : List (Den tItem)) ++ ((s1.2.2.2.2.2.getD s4.toNat (dft tShelf)).2)))] : List (Den tShelf)))),(wrap64 (s4 + (1:Int)))) else none) else none)) (agree ((bif (decide ((([] : List (Den tItem)).length + ((s1.2.2.2.2.2.getD s4.toNat (dft tShelf)).2).length) * 24 ≤ 140737488355328)) then (bif (decide ((s3.2.2.2.2.2.length + ([((s1.2.2.2.2.2.getD s4.toNat (dft tShelf)).1,(([] : List (Den tItem)) ++ ((s1.2.2.2.2.2.getD s4.toNat (dft tShelf)).2)))] : List (Den tShelf)).length) * 32 ≤ 140737488355328)) then rec_ (s1,s2,(s3.1,s3.2.1,s3.2.2.1,s3.2.2.2.1,s3.2.2.2.2.1,(s3.2.2.2.2.2 ++ ([((s1.2.2.2.2.2.getD s4.toNat (dft tShelf)).1,(([] : List (Den tItem)) ++ ((s1.2.2.2.2.2.getD s4.toNat (dft tShelf)).2)))] : List (Den tShelf)))),(wrap64 (s4 + (1:Int)))) else none) else none)) ((bif (decide ((([] : List (Den tItem)).length + ((s1.2.2.2.2.2.getD s4.toNat (dft tShelf)).2).length) * 24 ≤ 140737488355328)) then (bif (decide ((s3.2.2.2.2.2.length + ([((s1.2.2.2.2.2.getD s4.toNat (dft tShelf)).1,(([] : List (Den tItem)) ++ ((s1.2.2.2.2.2.getD s4.toNat (dft tShelf)).2)))] : List (Den tShelf)).length) * 32 ≤ 140737488355328)) then rec_ (s1,s2,(s3.1,s3.2.1,s3.2.2.1,s3.2.2.2.1,s3.2.2.2.2.1,(s3.2.2.2.2.2 ++ ([((s1.2.2.2.2.2.getD s4.toNat (dft tShelf)).1,(([] : List (Den tItem)) ++ ((s1.2.2.2.2.2.getD s4.toNat (dft tShelf)).2)))] : List (Den tShelf)))),(wrap64 (s4 + (1:Int)))) else none) else none))) else none)) (agree ((bif (decide (0 ≤ s4) && decide (s4 < s1.2.2.2.2.2.length)) then agree ((bif (decide ((([] : List (Den tItem)).length + ((s1.2.2.2.2.2.getD s4.toNat (dft tShelf)).2).length) * 24 ≤ 140737488355328)) then (bif (decide ((s3.2.2.2.2.2.length + ([((s1.2.2.2.2.2.getD s4.toNat (dft tShelf)).1,(([] : List (Den tItem)) ++ ((s1.2.2.2.2.2.getD s4.toNat (dft tShelf)).2)))] : List (Den tShelf)).length) * 32 ≤ 140737488355328)) then rec_ (s1,s2,(s3.1,s3.2.1,s3.2.2.1,s3.2.2.2.1,s3.2.2.2.2.1,(s3.2.2.2.2.2 ++ ([((s1.2.2.2.2.2.getD s4.toNat (dft tShelf)).1,(([] : List (Den tItem)) ++ ((s1.2.2.2.2.2.getD s4.toNat (dft tShelf)).2)))] : List (Den tShelf)))),(wrap64 (s4 + (1:Int)))) else none) else none)) ((bif (decide ((([] : List (Den tItem)).length + ((s1.2.2.2.2.2.getD s4.toNat (dft tShelf)).2).length) * 24 ≤ 140737488355328)) then (bif (decide ((s3.2.2.2.2.2.length + ([((s1.2.2.2.2.2.getD s4.toNat (dft tShelf)).1,(([] : List (Den tItem)) ++ ((s1.2.2.2.2.2.getD s4.toNat (dft tShelf)).2)))] : List (Den tShelf)).length) * 32 ≤ 140737488355328)) then rec_ (s1,s2,(s3.1,s3.2.1,s3.2.2.1,s3.2.2.2.1,s3.2.2.2.2.1,(s3.2.2.2.2.2 ++ ([((s1.2.2.2.2.2.getD s4.toNat (dft tShelf)).1,(([] : List (Den tItem)) ++ ((s1.2.2.2.2.2.getD s4.toNat (dft tShelf)).2)))] : List (Den tShelf)))),(wrap64 (s4 + (1:Int)))) else none) else none)) else none)) ((bif (decide ((([] : List (Den tItem)).length + ((s1.2.2.2.2.2.getD s4.toNat (dft tShelf)).2).length) * 24 ≤ 140737488355328)) then (bif (decide (0 ≤ s4) && decide (s4 < s1.2.2.2.2.2.length)) then (bif (decide ((s3.2.2.2.2.2.length + ([((s1.2.2.2.2.2.getD s4.toNat (dft tShelf)).1,(([] : List (Den tItem)) ++ ((s1.2.2.2.2.2.getD s4.toNat (dft tShelf)).2)))] : List (Den tShelf)).length) * 32 ≤ 140737488355328)) then rec_ (s1,s2,(s3.1,s3.2.1,s3.2.2.1,s3.2.2.2.1,s3.2.2.2.2.1,(s3.2.2.2.2.2 ++ ([((s1.2.2.2.2.2.getD s4.toNat (dft tShelf)).1,(([] : List (Den tItem)) ++ ((s1.2.2.2.2.2.getD s4.toNat (dft tShelf)).2)))] : List (Den tShelf)))),(wrap64 (s4 + (1:Int)))) else none) else none) else none)))) (agree ((bif (decide (0 ≤ s4) && decide (s4 < s1.2.2.2.2.2.length)) then agree (agree ((bif (decide ((([] : List (Den tItem)).length + ((s1.2.2.2.2.2.getD s4.toNat (dft tShelf)).2).length) * 24 ≤ 140737488355328)) then (bif (decide ((s3.2.2.2.2.2.length + ([((s1.2.2.2.2.2.getD s4.toNat (dft tShelf)).1,(([] : List (Den tItem)) ++ ((s1.2.2.2.2.2.getD s4.toNat (dft tShelf)).2)))] : List (Den tShelf)).length) * 32 ≤ 140737488355328)) then rec_ (s1,s2,(s3.1,s3.2.1,s3.2.2.1,s3.2.2.2.1,s3.2.2.2.2.1,(s3.2.2.2.2.2 ++ ([((s1.2.2.2.2.2.getD s4.toNat (dft tShelf)).1,(([] : List (Den tItem)) ++ ((s1.2.2.2.2.2.getD s4.toNat (dft tShelf)).2)))] : List (Den tShelf)))),(wrap64 (s4 + (1:Int)))) else none) else none)) (agree ((bif (decide ((([] : List (Den tItem)).length + ((s1.2.2.2.2.2.getD s4.toNat (dft tShelf)).2).length) * 24 ≤ 140737488355328)) then (bif (decide ((s3.2.2.2.2.2.length + ([((s1.2.2.2.2.2.getD s4.toNat (dft tShelf)).1,(([] : List (Den tItem)) ++ ((s1.2.2.2.2.2.getD s4.toNat (dft tShelf)).2)))] : List (Den tShelf)).length) * 32 ≤ 140737488355328)) then rec_ (s1,s2,(s3.1,s3.2.1,s3.2.2.1,s3.2.2.2.1,s3.2.2.2.2.1,(s3.2.2.2.2.2 ++ ([((s1.2.2.2.2.2.getD s4.toNat (dft tShelf)).1,(([] : List (Den tItem)) ++ ((s1.2.2.2.2.2.getD s4.toNat (dft tShelf)).2)))] : List (Den tShelf)))),(wrap64 (s4 + (1:Int)))) else none) else none)) ((bif (decide ((([] : List (Den tItem)).length + ((s1.2.2.2.2.2.getD s4.toNat (dft tShelf)).2).length) * 24 ≤ 140737488355328)) then (bif (decide ((s3.2.2.2.2.2.length + ([((s1.2.2.2.2.2.getD s4.toNat (dft tShelf)).1,(([] : List (Den tItem)) ++ ((s1.2.2.2.2.2.getD s4.toNat (dft tShelf)).2)))] : List (Den tShelf)).length) * 32 ≤ 140737488355328)) then rec_ (s1,s2,(s3.1,s3.2.1,s3.2.2.1,s3.2.2.2.1,s3.2.2.2.2.1,(s3.2.2.2.2.2 ++ ([((s1.2.2.2.2.2.getD s4.toNat (dft tShelf)).1,(([] : List (Den tItem)) ++ ((s1.2.2.2.2.2.getD s4.toNat (dft tShelf)).2)))] : List (Den tShelf)))),(wrap64 (s4 + (1:Int)))) else none) else none)))) (agree (agree ((bif (decide ((([] : List (Den tItem)).length + ((s1.2.2.2.2.2.getD s4.toNat (dft tShelf)).2).length) * 24 ≤ 140737488355328)) then (bif (decide ((s3.2.2.2.2.2.length + ([((s1.2.2.2.2.2.getD s4.toNat (dft tShelf)).1,(([] : List (Den tItem)) ++ ((s1.2.2.2.2.2.getD s4.toNat (dft tShelf)).2)))] : List (Den tShelf)).length) * 32 ≤ 140737488355328)) then rec_ (s1,s2,(s3.1,s3.2.1,s3.2.2.1,s3.2.2.2.1,s3.2.2.2.2.1,(s3.2.2.2.2.2 ++ ([((s1.2.2.2.2.2.getD s4.toNat (dft tShelf)).1,(([] : List (Den tItem)) ++ ((s1.2.2.2.2.2.getD s4.toNat (dft tShelf)).2)))] : List (Den tShelf)))),(wrap64 (s4 + (1:Int)))) else none) else none)) (agree ((bif (decide ((([] : List (Den tItem)).length + ((s1.2.2.2.2.2.getD s4.toNat (dft tShelf)).2).length) * 24 ≤ 140737488355328)) then (bif (decide ((s3.2.2.2.2.2.length + ([((s1.2.2.2.2.2.getD s4.toNat (dft tShelf)).1,(([] : List (Den tItem)) ++ ((s1.2.2.2.2.2.getD s4.toNat (dft tShelf)).2)))] : List (Den tShelf)).length) * 32 ≤ 140737488355328)) then rec_ (s1,s2,(s3.1,s3.2.1,s3.2.2.1,s3.2.2.2.1,s3.2.2.2.2.1,(s3.2.2.2.2.2 ++ ([((s1.2.2.2.2.2.getD s4.toNat (dft tShelf)).1,(([] : List (Den tItem)) ++ ((s1.2.2.2.2.2.getD s4.toNat (dft tShelf)).2)))] : List (Den tShelf)))),(wrap64 (s4 + (1:Int)))) else none) else none)) ((bif (decide ((([] : List (Den tItem)).length + ((s1.2.2.2.2.2.getD s4.toNat (dft tShelf)).2).length) * 24 ≤ 140737488355328)) then (bif (decide ((s3.2.2.2.2.2.length + ([((s1.2.2.2.2.2.getD s4.toNat (dft tShelf)).1,(([] : List (Den tItem)) ++ ((s1.2.2.2.2.2.getD s4.toNat (dft tShelf)).2)))] : List (Den tShelf)).length) * 32 ≤ 140737488355328)) then rec_ (s1,s2,(s3.1,s3.2.1,s3.2.2.1,s3.2.2.2.1,s3.2.2.2.2.1,(s3.2.2.2.2.2 ++ ([((s1.2.2.2.2.2.getD s4.toNat (dft tShelf)).1,(([] : List (Den tItem)) ++ ((s1.2.2.2.2.2.getD s4.toNat (dft tShelf)).2)))] : List (Den tShelf)))),(wrap64 (s4 + (1:Int)))) else none) else none)))) (agree (agree ((bif (decide ((([] : List (Den tItem)).length + ((s1.2.2.2.2.2.getD s4.toNat (dft tShelf)).2).length) * 24 ≤ 140737488355328)) then (bif (decide ((s3.2.2.2.2.2.length + ([((s1.2.2.2.2.2.getD s4.toNat (dft tShelf)).1,(([] : List (Den tItem)) ++ ((s1.2.2.2.2.2.getD s4.toNat (dft tShelf)).2)))] : List (Den tShelf)).length) * 32 ≤ 140737488355328)) then rec_ (s1,s2,(s3.1,s3.2.1,s3.2.2.1,s3.2.2.2.1,s3.2.2.2.2.1,(s3.2.2.2.2.2 ++ ([((s1.2.2.2.2.2.getD s4.toNat (dft tShelf)).1,(([] : List (Den tItem)) ++ ((s1.2.2.2.2.2.getD s4.toNat (dft tShelf)).2)))] : List (Den tShelf)))),(wrap64 (s4 + (1:Int)))) else none) else none)) ((bif (decide ((([] : List (Den tItem)).length + ((s1.2.2.2.2.2.getD s4.toNat (dft tShelf)).2).length) * 24 ≤ 140737488355328)) then (bif (decide ((s3.2.2.2.2.2.length + ([((s1.2.2.2.2.2.getD s4.toNat (dft tShelf)).1,(([] : List (Den tItem)) ++ ((s1.2.2.2.2.2.getD s4.toNat (dft tShelf)).2)))] : List (Den tShelf)).length) * 32 ≤ 140737488355328)) then rec_ (s1,s2,(s3.1,s3.2.1,s3.2.2.1,s3.2.2.2.1,s3.2.2.2.2.1,(s3.2.2.2.2.2 ++ ([((s1.2.2.2.2.2.getD s4.toNat (dft tShelf)).1,(([] : List (Den tItem)) ++ ((s1.2.2.2.2.2.getD s4.toNat (dft tShelf)).2)))] : List (Den tShelf)))),(wrap64 (s4 + (1:Int)))) else none) else none))) (agree (agree ((bif (decide ((([] : List (Den tItem)).length + ((s1.2.2.2.2.2.getD s4.toNat (dft tShelf)).2).length) * 24 ≤ 140737488355328)) then (bif (decide ((s3.2.2.2.2.2.length + ([((s1.2.2.2.2.2.getD s4.toNat (dft tShelf)).1,(([] : List (Den tItem)) ++ ((s1.2.2.2.2.2.getD s4.toNat (dft tShelf)).2)))] : List (Den tShelf)).length) * 32 ≤ 140737488355328)) then rec_ (s1,s2,(s3.1,s3.2.1,s3.2.2.1,s3.2.2.2.1,s3.2.2.2.2.1,(s3.2.2.2.2.2 ++ ([((s1.2.2.2.2.2.getD s4.toNat (dft tShelf)).1,(([] : List (Den tItem)) ++ ((s1.2.2.2.2.2.getD s4.toNat (dft tShelf)).2)))] : List (Den tShelf)))),(wrap64 (s4 + (1:Int)))) else none) else none)) ((bif (decide ((([] : List (Den tItem)).length + ((s1.2.2.2.2.2.getD s4.toNat (dft tShelf)).2).length) * 24 ≤ 140737488355328)) then (bif (decide ((s3.2.2.2.2.2.length + ([((s1.2.2.2.2.2.getD s4.toNat (dft tShelf)).1,(([] : List (Den tItem)) ++ ((s1.2.2.2.2.2.getD s4.toNat (dft tShelf)).2)))] : List (Den tShelf)).length) * 32 ≤ 140737488355328)) then rec_ (s1,s2,(s3.1,s3.2.1,s3.2.2.1,s3.2.2.2.1,s3.2.2.2.2.1,(s3.2.2.2.2.2 ++ ([((s1.2.2.2.2.2.getD s4.toNat (dft tShelf)).1,(([] : List (Den tItem)) ++ ((s1.2.2.2.2.2.getD s4.toNat (dft tShelf)).2)))] : List (Den tShelf)))),(wrap64 (s4 + (1:Int)))) else none) else none))) ((bif (decide ((([] : List (Den tItem)).length + ((s1.2.2.2.2.2.getD s4.toNat (dft tShelf)).2).length) * 24 ≤ 140737488355328)) then (bif (decide ((s3.2.2.2.2.2.length + ([((s1.2.2.2.2.2.getD s4.toNat (dft tShelf)).1,(([] : List (Den tItem)) ++ ((s1.2.2.2.2.2.getD s4.toNat (dft tShelf)).2)))] : List (Den tShelf)).length) * 32 ≤ 140737488355328)) then rec_ (s1,s2,(s3.1,s3.2.1,s3.2.2.1,s3.2.2.2.1,s3.2.2.2.2.1,(s3.2.2.2.2.2 ++ ([((s1.2.2.2.2.2.getD s4.toNat (dft tShelf)).1,(([] : List (Den tItem)) ++ ((s1.2.2.2.2.2.getD s4.toNat (dft tShelf)).2)))] : List (Den tShelf)))),(wrap64 (s4 + (1:Int)))) else none) else none))))) else none)) (agree (agree ((bif (decide (0 ≤ s4) && decide (s4 < s1.2.2.2.2.2.length)) then agree ((bif (decide ((([] : List (Den tItem)).length + ((s1.2.2.2.2.2.getD s4.toNat (dft tShelf)).2).length) * 24 ≤ 140737488355328)) then (bif (decide ((s3.2.2.2.2.2.length + ([((s1.2.2.2.2.2.getD s4.toNat (dft tShelf)).1,(([] : List (Den tItem)) ++ ((s1.2.2.2.2.2.getD s4.toNat (dft tShelf)).2)))] : List (Den tShelf)).length) * 32 ≤ 140737488355328)) then rec_ (s1,s2,(s3.1,s3.2.1,s3.2.2.1,s3.2.2.2.1,s3.2.2.2.2.1,(s3.2.2.2.2.2 ++ ([((s1.2.2.2.2.2.getD s4.toNat (dft tShelf)).1,(([] : List (Den tItem)) ++ ((s1.2.2.2.2.2.getD s4.toNat (dft tShelf)).2)))] : List (Den tShelf)))),(wrap64 (s4 + (1:Int)))) else none) else none)) ((bif (decide ((([] : List (Den tItem)).length + ((s1.2.2.2.2.2.getD s4.toNat (dft tShelf)).2).length) * 24 ≤ 140737488355328)) then (bif (decide ((s3.2.2.2.2.2.length + ([((s1.2.2.2.2.2.getD s4.toNat (dft tShelf)).1,(([] : List (Den tItem)) ++ ((s1.2.2.2.2.2.getD s4.toNat (dft tShelf)).2)))] : List (Den tShelf)).length) * 32 ≤ 140737488355328)) then rec_ (s1,s2,(s3.1,s3.2.1,s3.2.2.1,s3.2.2.2.1,s3.2.2.2.2.1,(s3.2.2.2.2.2 ++ ([((s1.2.2.2.2.2.getD s4.toNat (dft tShelf)).1,(([] : List (Den tItem)) ++ ((s1.2.2.2.2.2.getD s4.toNat (dft tShelf)).2)))] : List (Den tShelf)))),(wrap64 (s4 + (1:Int)))) else none) else none)) else none)) ((bif (decide ((([] : List (Den tItem)).length + ((s1.2.2.2.2.2.getD s4.toNat (dft tShelf)).2).length) * 24 ≤ 140737488355328)) then (bif (decide (0 ≤ s4) && decide (s4 < s1.2.2.2.2.2.length)) then (bif (decide ((s3.2.2.2.2.2.length + ([((s1.2.2.2.2.2.getD s4.toNat (dft tShelf)).1,(([] : List (Den tItem)) ++ ((s1.2.2.2.2.2.getD s4.toNat (dft tShelf)).2)))] : List (Den tShelf)).length) * 32 ≤ 140737488355328)) then rec_ (s1,s2,(s3.1,s3.2.1,s3.2.2.1,s3.2.2.2.1,s3.2.2.2.2.1,(s3.2.2.2.2.2 ++ ([((s1.2.2.2.2.2.getD s4.toNat (dft tShelf)).1,(([] : List (Den tItem)) ++ ((s1.2.2.2.2.2.getD s4.toNat (dft tShelf)).2)))] : List (Den tShelf)))),(wrap64 (s4 + (1:Int)))) else none) else none) else none))) (agree ((bif (decide (0 ≤ s4) && decide (s4 < s1.2.2.2.2.2.length)) then agree (agree ((bif (decide ((([] : List (Den tItem)).length + ((s1.2.2.2.2.2.getD s4.toNat (dft tShelf)).2).length) * 24 ≤ 140737488355328)) then (bif (decide ((s3.2.2.2.2.2.length + ([((s1.2.2.2.2.2.getD s4.toNat (dft tShelf)).1,(([] : List (Den tItem)) ++ ((s1.2.2.2.2.2.getD s4.toNat (dft tShelf)).2)))] : List (Den tShelf)).length) * 32 ≤ 140737488355328)) then rec_ (s1,s2,(s3.1,s3.2.1,s3.2.2.1,s3.2.2.2.1,s3.2.2.2.2.1,(s3.2.2.2.2.2 ++ ([((s1.2.2.2.2.2.getD s4.toNat (dft tShelf)).1,(([] : List (Den tItem)) ++ ((s1.2.2.2.2.2.getD s4.toNat (dft tShelf)).2)))] : List (Den tShelf)))),(wrap64 (s4 + (1:Int)))) else none) else none)) ((bif (decide ((([] : List (Den tItem)).length + ((s1.2.2.2.2.2.getD s4.toNat (dft tShelf)).2).length) * 24 ≤ 140737488355328)) then (bif (decide ((s3.2.2.2.2.2.length + ([((s1.2.2.2.2.2.getD s4.toNat (dft tShelf)).1,(([] : List (Den tItem)) ++ ((s1.2.2.2.2.2.getD s4.toNat (dft tShelf)).2)))] : List (Den tShelf)).length) * 32 ≤ 140737488355328)) then rec_ (s1,s2,(s3.1,s3.2.1,s3.2.2.1,s3.2.2.2.1,s3.2.2.2.2.1,(s3.2.2.2.2.2 ++ ([((s1.2.2.2.2.2.getD s4.toNat (dft tShelf)).1,(([] : List (Den tItem)) ++ ((s1.2.2.2.2.2.getD s4.toNat (dft tShelf)).2)))] : List (Den tShelf)))),(wrap64 (s4 + (1:Int)))) else none) else none))) (agree (agree ((bif (decide ((([] : List (Den tItem)).length + ((s1.2.2.2.2.2.getD s4.toNat (dft tShelf)).2).length) * 24 ≤ 140737488355328)) then (bif (decide ((s3.2.2.2.2.2.length + ([((s1.2.2.2.2.2.getD s4.toNat (dft tShelf)).1,(([] : List (Den tItem)) ++ ((s1.2.2.2.2.2.getD s4.toNat (dft tShelf)).2)))] : List (Den tShelf)).length) * 32 ≤ 140737488355328)) then rec_ (s1,s2,(s3.1,s3.2.1,s3.2.2.1,s3.2.2.2.1,s3.2.2.2.2.1,(s3.2.2.2.2.2 ++ ([((s1.2.2.2.2.2.getD s4.toNat (dft tShelf)).1,(([] : List (Den tItem)) ++ ((s1.2.2.2.2.2.getD s4.toNat (dft tShelf)).2)))] : List (Den tShelf)))),(wrap64 (s4 + (1:Int)))) else none) else none)) ((bif (decide ((([] : List (Den tItem)).length + ((s1.2.2.2.2.2.getD s4.toNat (dft tShelf)).2).length) * 24 ≤ 140737488355328)) then (bif (decide ((s3.2.2.2.2.2.length + ([((s1.2.2.2.2.2.getD s4.toNat (dft tShelf)).1,(([] : List (Den tItem)) ++ ((s1.2.2.2.2.2.getD s4.toNat (dft tShelf)).2)))] : List (Den tShelf)).length) * 32 ≤ 140737488355328)) then rec_ (s1,s2,(s3.1,s3.2.1,s3.2.2.1,s3.2.2.2.1,s3.2.2.2.2.1,(s3.2.2.2.2.2 ++ ([((s1.2.2.2.2.2.getD s4.toNat (dft tShelf)).1,(([] : List (Den tItem)) ++ ((s1.2.2.2.2.2.getD s4.toNat (dft tShelf)).2)))] : List (Den tShelf)))),(wrap64 (s4 + (1:Int)))) else none) else none))) ((bif (decide ((([] : List (Den tItem)).length + ((s1.2.2.2.2.2.getD s4.toNat (dft tShelf)).2).length) * 24 ≤ 140737488355328)) then (bif (decide ((s3.2.2.2.2.2.length + ([((s1.2.2.2.2.2.getD s4.toNat (dft tShelf)).1,(([] : List (Den tItem)) ++ ((s1.2.2.2.2.2.getD s4.toNat (dft tShelf)).2)))] : List (Den tShelf)).length) * 32 ≤ 140737488355328)) then rec_ (s1,s2,(s3.1,s3.2.1,s3.2.2.1,s3.2.2.2.1,s3.2.2.2.2.1,(s3.2.2.2.2.2 ++ ([((s1.2.2.2.2.2.getD s4.toNat (dft tShelf)).1,(([] : List (Den tItem)) ++ ((s1.2.2.2.2.2.getD s4.toNat (dft tShelf)).2)))] : List (Den tShelf)))),(wrap64 (s4 + (1:Int)))) else none) else none))) else none)) ((bif (decide ((([] : List (Den tItem)).length + ((s1.2.2.2.2.2.getD s4.toNat (dft tShelf)).2).length) * 24 ≤ 140737488355328)) then (bif (decide (0 ≤ s4) && decide (s4 < s1.2.2.2.2.2.length)) then (bif (decide ((s3.2.2.2.2.2.length + ([((s1.2.2.2.2.2.getD s4.toNat (dft tShelf)).1,(([] : List (Den tItem)) ++ ((s1.2.2.2.2.2.getD s4.toNat (dft tShelf)).2)))] : List (Den tShelf)).length) * 32 ≤ 140737488355328)) then rec_ (s1,s2,(s3.1,s3.2.1,s3.2.2.1,s3.2.2.2.1,s3.2.2.2.2.1,(s3.2.2.2.2.2 ++ ([((s1.2.2.2.2.2.getD s4.toNat (dft tShelf)).1,(([] : List (Den tItem)) ++ ((s1.2.2.2.2.2.getD s4.toNat (dft tShelf)).2)))] : List (Den tShelf)))),(wrap64 (s4 + (1:Int)))) else none) else none) else none))))) else none) else kx (s2,s3))
def x_f87 (N : Nat) (a0 : (Den tPeer)) : Option (Den tPeer) :=
 (bif (decide ((([] : List Int).length + a0.2.2.2.1.length) * 8 ≤ 140737488355328)) then (bif (decide ((([] : List Int).length + a0.2.2.2.2.1.length) * 8 ≤ 140737488355328)) then iter (B_f87_L0 N (fun (x1,x2) => some x2) (fun ρ3 => some (ρ3))) N (a0,((0:Int),false,(0:Int),[],[],[]),(a0.1,a0.2.1,a0.2.2.1,(([] : List Int) ++ a0.2.2.2.1),(([] : List Int) ++ a0.2.2.2.2.1),[]),(0:Int)) else none) else none)
abbrev ct_f87 (N : Nat) : CT := ⟨114,(.d tPeer),(.t tPeer),fun a => x_f87 N a⟩
theorem c_f87 (N : Nat) : CTok Tryz.prog (ct_f87 N) :=
 CT_ok (Γ := []) (Θ := [(6,I),(11,I),(16,tShelf),(33,tItem),(42,tShelf)]) (Λ := ([⟨0,0,(.pr (.ip 1 tPeer) (.pr (.bx 2 tPeer) (.pr (.bx 3 tPeer) (.d 4 I)))),(.pr (.bx 2 tPeer) (.bx 3 tPeer)),fun {Ω} kx kr => iter (B_f87_L0 N kx kr) N⟩] : List (LC (DenR (.t tPeer))))) (by kernel_rfl) mixed trivial (by kernel_rfl)
  ⟨LoopEq.mk N (fun Ω kx kr => B_f87_L0 N kx kr) (fun Ω g kx kr s => by kernel_rfl),trivial⟩ (by kernel_rfl) (fun a => by kernel_rfl)
def B_f86_L0 (N : Nat) {Ω : Type} (kx : DenS (.pr (.bx 2 tRing) (.bx 3 tRing)) → Option Ω) (kr : (Den tRing) → Option Ω) (rec_ : DenS (.pr (.ip 1 tRing) (.pr (.bx 2 tRing) (.pr (.bx 3 tRing) (.d 4 I)))) → Option Ω) : DenS (.pr (.ip 1 tRing) (.pr (.bx 2 tRing) (.pr (.bx 3 tRing) (.d 4 I)))) → Option Ω := fun (s1,s2,s3,s4) =>
 (bif (decide (s4 < (s1.length : Int))) then (bif (decide (0 ≤ s4) && decide (s4 < s1.length)) then (x_f87 N (s1.getD s4.toNat (dft tPeer))).bind fun r1 => (bif (decide ((s3.length + [r1].length) * 96 ≤ 140737488355328)) then rec_ (s1,s2,(s3 ++ [r1]),(wrap64 (s4 + (1:Int)))) else none) else none) else kx (s2,s3))
def x_f86 (N : Nat) (a0 : (Den tRing)) : Option (Den tRing) :=
 iter (B_f86_L0 N (fun (x2,x3) => some x3) (fun ρ4 => some (ρ4))) N (a0,[],[],(0:Int))
abbrev ct_f86 (N : Nat) : CT := ⟨103,(.d tRing),(.t tRing),fun a => x_f86 N a⟩
theorem c_f86 (N : Nat) : CTok Tryz.prog (ct_f86 N) :=
 CT_ok (Γ := [.c (ct_f87 N)]) (Θ := [(21,tPeer)]) (Λ := ([⟨0,0,(.pr (.ip 1 tRing) (.pr (.bx 2 tRing) (.pr (.bx 3 tRing) (.d 4 I)))),(.pr (.bx 2 tRing) (.bx 3 tRing)),fun {Ω} kx kr => iter (B_f86_L0 N kx kr) N⟩] : List (LC (DenR (.t tRing))))) (by kernel_rfl) mixed ⟨c_f87 N,trivial⟩ (by kernel_rfl)
  ⟨LoopEq.mk N (fun Ω kx kr => B_f86_L0 N kx kr) (fun Ω g kx kr s => by kernel_rfl),trivial⟩ (by kernel_rfl) (fun a => by kernel_rfl)
def B_f68_L0 (N : Nat) {Ω : Type} (kx : DenS .un → Option Ω) (kr : Int → Option Ω) (rec_ : DenS (.pr (.d 1 I) (.pr (.ip 2 tRing) (.d 5 I))) → Option Ω) : DenS (.pr (.d 1 I) (.pr (.ip 2 tRing) (.d 5 I))) → Option Ω := fun (s1,s2,s5) =>
 (bif (decide (s5 < (s2.length : Int))) then (bif (decide (0 ≤ s5) && decide (s5 < s2.length)) then (bif ((s2.getD s5.toNat (dft tPeer)).2).1 then (bif (decide (0 ≤ s5) && decide (s5 < s2.length)) then (bif (decide (((s2.getD s5.toNat (dft tPeer)).1) = s1)) then kr s5 else rec_ (s1,s2,(wrap64 (s5 + (1:Int))))) else none) else rec_ (s1,s2,(wrap64 (s5 + (1:Int))))) else none) else kx ())
def x_f68 (N : Nat) (a0 : (Den tRing)) (a1 : Int) : Option Int :=
 iter (B_f68_L0 N (fun _ => some (-1:Int)) (fun ρ1 => some (ρ1))) N (a1,a0,(0:Int))
abbrev ct_f68 (N : Nat) : CT := ⟨18,(.pr (.d tRing) (.d I)),(.t I),fun a => x_f68 N a.1 a.2⟩
theorem c_f68 (N : Nat) : CTok Tryz.prog (ct_f68 N) :=
 CT_ok (Γ := []) (Θ := []) (Λ := ([⟨0,0,(.pr (.d 1 I) (.pr (.ip 2 tRing) (.d 5 I))),.un,fun {Ω} kx kr => iter (B_f68_L0 N kx kr) N⟩] : List (LC (DenR (.t I))))) (by kernel_rfl) mixed trivial (by kernel_rfl)
  ⟨LoopEq.mk N (fun Ω kx kr => B_f68_L0 N kx kr) (fun Ω g kx kr s => by kernel_rfl),trivial⟩ (by kernel_rfl) (fun a => by kernel_rfl)
def B_f65_L0 (N : Nat) {Ω : Type} (kx : DenS .un → Option Ω) (kr : Int → Option Ω) (rec_ : DenS (.pr (.ip 2 tRing) (.pr (.d 5 I) (.d 6 I))) → Option Ω) : DenS (.pr (.ip 2 tRing) (.pr (.d 5 I) (.d 6 I))) → Option Ω := fun (s2,s5,s6) =>
 (bif (decide ((0:Int) ≤ s5)) then (bif (decide (0 ≤ s5) && decide (s5 < s2.length)) then (bif (decide (s6 < ((((((s2.getD s5.toNat (dft tPeer)).2).2).2).1).length : Int))) then (bif (decide (0 ≤ s5) && decide (s5 < s2.length)) then (bif (decide (0 ≤ s6) && decide (s6 < (((((s2.getD s5.toNat (dft tPeer)).2).2).2).1).length)) then (x_f68 N s2 ((((((s2.getD s5.toNat (dft tPeer)).2).2).2).1).getD s6.toNat (0:Int))).bind fun r2 => (bif (decide ((0:Int) ≤ r2)) then (bif (decide (0 ≤ s5) && decide (s5 < s2.length)) then (bif (decide (0 ≤ s6) && decide (s6 < (((((s2.getD s5.toNat (dft tPeer)).2).2).2).1).length)) then kr ((((((s2.getD s5.toNat (dft tPeer)).2).2).2).1).getD s6.toNat (0:Int)) else none) else none) else rec_ (s2,s5,(wrap64 (s6 + (1:Int))))) else none) else none) else kx ()) else none) else kx ())
def x_f65 (N : Nat) (a0 : (Den tRing)) (a1 : Int) : Option Int :=
 (x_f68 N a0 a1).bind fun r1 => iter (B_f65_L0 N (fun _ => some (-1:Int)) (fun ρ3 => some (ρ3))) N (a0,r1,(0:Int))
abbrev ct_f65 (N : Nat) : CT := ⟨21,(.pr (.d tRing) (.d I)),(.t I),fun a => x_f65 N a.1 a.2⟩
theorem c_f65 (N : Nat) : CTok Tryz.prog (ct_f65 N) :=
 CT_ok (Γ := [.c (ct_f68 N)]) (Θ := []) (Λ := ([⟨0,0,(.pr (.ip 2 tRing) (.pr (.d 5 I) (.d 6 I))),.un,fun {Ω} kx kr => iter (B_f65_L0 N kx kr) N⟩] : List (LC (DenR (.t I))))) (by kernel_rfl) mixed ⟨c_f68 N,trivial⟩ (by kernel_rfl)
  ⟨LoopEq.mk N (fun Ω kx kr => B_f65_L0 N kx kr) (fun Ω g kx kr s => by kernel_rfl),trivial⟩ (by kernel_rfl) (fun a => by kernel_rfl)
def x_f53 (N : Nat) (a0 : Int) (a1 : Int) (a2 : Int) : Option Bool :=
 (x_f84 N a0).bind fun r1 => (x_f84 N a2).bind fun r2 => (bif (decide (r1 = r2)) then (x_f52 N a0 a1).bind fun r3 => some (!decide (r3 = (0:Int))) else (x_f52 N a0 a1).bind fun r4 => (bif (decide ((0:Int) < r4)) then (x_f52 N a0 a1).bind fun r5 => (x_f52 N a0 a2).bind fun r6 => some (decide (r5 ≤ r6)) else some false))
abbrev ct_f53 (N : Nat) : CT := ⟨106,(.pr (.d I) (.pr (.d I) (.d I))),(.t .bl),fun a => x_f53 N a.1 a.2.1 a.2.2⟩
theorem c_f53 (N : Nat) : CTok Tryz.prog (ct_f53 N) :=
 CT_ok (Γ := [.c (ct_f84 N),.c (ct_f52 N)]) (Θ := []) (Λ := ([] : List (LC (DenR (.t .bl))))) (by kernel_rfl) mixed ⟨c_f84 N,⟨c_f52 N,trivial⟩⟩ (by kernel_rfl)
  trivial (by kernel_rfl) (fun a => by kernel_rfl)
def B_f76_L0 (N : Nat) {Ω : Type} (kx : DenS (.d 10 I) → Option Ω) (kr : (Int × Bool) → Option Ω) (rec_ : DenS (.pr (.d 1 I) (.pr (.d 2 I) (.pr (.ip 3 tRing) (.pr (.d 10 I) (.pr (.o 11 I) (.d 12 I)))))) → Option Ω) : DenS (.pr (.d 1 I) (.pr (.d 2 I) (.pr (.ip 3 tRing) (.pr (.d 10 I) (.pr (.o 11 I) (.d 12 I)))))) → Option Ω := fun (s1,s2,s3,s10,s11,s12) =>
 (bif (decide (s12 < (s11.length : Int))) then (bif (decide (0 ≤ s12) && decide (s12 < s11.length)) then (bif (!decide ((s11.getD s12.toNat (0:Int)) = s2)) then (x_f68 N s3 (s11.getD s12.toNat (0:Int))).bind fun r5 => (bif (decide ((0:Int) ≤ r5)) then (x_f53 N s1 (s11.getD s12.toNat (0:Int)) s2).bind fun r6 => (bif r6 then (x_f52 N s1 (s11.getD s12.toNat (0:Int))).bind fun r7 => (x_f52 N s1 s10).bind fun r8 => (bif (decide (r8 < r7)) then rec_ (s1,s2,s3,(s11.getD s12.toNat (0:Int)),s11,(wrap64 (s12 + (1:Int)))) else rec_ (s1,s2,s3,s10,s11,(wrap64 (s12 + (1:Int))))) else rec_ (s1,s2,s3,s10,s11,(wrap64 (s12 + (1:Int))))) else rec_ (s1,s2,s3,s10,s11,(wrap64 (s12 + (1:Int))))) else rec_ (s1,s2,s3,s10,s11,(wrap64 (s12 + (1:Int))))) else none) else kx s10)
def x_f76 (N : Nat) (a0 : (Den tRing)) (a1 : Int) (a2 : Int) : Option (Int × Bool) :=
 (x_f68 N a0 a1).bind fun r1 => (x_f65 N a0 a1).bind fun r2 => (x_f84 N a2).bind fun r3 => (bif (decide (r1 < (0:Int))) then some ((-1:Int),false) else (bif (decide (r2 < (0:Int))) then some ((-1:Int),false) else (bif (decide (r3 = a1)) then some (a1,true) else (x_f53 N a1 r3 r2).bind fun r4 => (bif r4 then some (r2,true) else (bif (decide (0 ≤ r1) && decide (r1 < a0.length)) then agree (agree ((bif (decide ((([] : List Int).length + (((((a0.getD r1.toNat (dft tPeer)).2).2).2).1).length) * 8 ≤ 140737488355328)) then (bif (decide (0 ≤ r1) && decide (r1 < a0.length)) then (bif (decide (((([] : List Int) ++ (((((a0.getD r1.toNat (dft tPeer)).2).2).2).1)).length + ((((((a0.getD r1.toNat (dft tPeer)).2).2).2).2).1).length) * 8 ≤ 140737488355328)) then iter (B_f76_L0 N (fun x9 => some (x9,false)) (fun ρ10 => some (ρ10))) N (a1,r3,a0,r2,((([] : List Int) ++ (((((a0.getD r1.toNat (dft tPeer)).2).2).2).1)) ++ ((((((a0.getD r1.toNat (dft tPeer)).2).2).2).2).1)),(0:Int)) else none) else none) else none)) ((bif (decide (0 ≤ r1) && decide (r1 < a0.length)) then agree ((bif (decide ((([] : List Int).length + (((((a0.getD r1.toNat (dft tPeer)).2).2).2).1).length) * 8 ≤ 140737488355328)) then (bif (decide (((([] : List Int) ++ (((((a0.getD r1.toNat (dft tPeer)).2).2).2).1)).length + ((((((a0.getD r1.toNat (dft tPeer)).2).2).2).2).1).length) * 8 ≤ 140737488355328)) then iter (B_f76_L0 N (fun x11 => some (x11,false)) (fun ρ12 => some (ρ12))) N (a1,r3,a0,r2,((([] : List Int) ++ (((((a0.getD r1.toNat (dft tPeer)).2).2).2).1)) ++ ((((((a0.getD r1.toNat (dft tPeer)).2).2).2).2).1)),(0:Int)) else none) else none)) ((bif (decide ((([] : List Int).length + (((((a0.getD r1.toNat (dft tPeer)).2).2).2).1).length) * 8 ≤ 140737488355328)) then (bif (decide (((([] : List Int) ++ (((((a0.getD r1.toNat (dft tPeer)).2).2).2).1)).length + ((((((a0.getD r1.toNat (dft tPeer)).2).2).2).2).1).length) * 8 ≤ 140737488355328)) then iter (B_f76_L0 N (fun x13 => some (x13,false)) (fun ρ14 => some (ρ14))) N (a1,r3,a0,r2,((([] : List Int) ++ (((((a0.getD r1.toNat (dft tPeer)).2).2).2).1)) ++ ((((((a0.getD r1.toNat (dft tPeer)).2).2).2).2).1)),(0:Int)) else none) else none)) else none))) ((bif (decide (0 ≤ r1) && decide (r1 < a0.length)) then agree (agree ((bif (decide ((([] : List Int).length + (((((a0.getD r1.toNat (dft tPeer)).2).2).2).1).length) * 8 ≤ 140737488355328)) then (bif (decide (((([] : List Int) ++ (((((a0.getD r1.toNat (dft tPeer)).2).2).2).1)).length + ((((((a0.getD r1.toNat (dft tPeer)).2).2).2).2).1).length) * 8 ≤ 140737488355328)) then iter (B_f76_L0 N (fun x15 => some (x15,false)) (fun ρ16 => some (ρ16))) N (a1,r3,a0,r2,((([] : List Int) ++ (((((a0.getD r1.toNat (dft tPeer)).2).2).2).1)) ++ ((((((a0.getD r1.toNat (dft tPeer)).2).2).2).2).1)),(0:Int)) else none) else none)) ((bif (decide ((([] : List Int).length + (((((a0.getD r1.toNat (dft tPeer)).2).2).2).1).length) * 8 ≤ 140737488355328)) then (bif (decide (((([] : List Int) ++ (((((a0.getD r1.toNat (dft tPeer)).2).2).2).1)).length + ((((((a0.getD r1.toNat (dft tPeer)).2).2).2).2).1).length) * 8 ≤ 140737488355328)) then iter (B_f76_L0 N (fun x17 => some (x17,false)) (fun ρ18 => some (ρ18))) N (a1,r3,a0,r2,((([] : List Int) ++ (((((a0.getD r1.toNat (dft tPeer)).2).2).2).1)) ++ ((((((a0.getD r1.toNat (dft tPeer)).2).2).2).2).1)),(0:Int)) else none) else none))) ((bif (decide ((([] : List Int).length + (((((a0.getD r1.toNat (dft tPeer)).2).2).2).1).length) * 8 ≤ 140737488355328)) then (bif (decide (((([] : List Int) ++ (((((a0.getD r1.toNat (dft tPeer)).2).2).2).1)).length + ((((((a0.getD r1.toNat (dft tPeer)).2).2).2).2).1).length) * 8 ≤ 140737488355328)) then iter (B_f76_L0 N (fun x19 => some (x19,false)) (fun ρ20 => some (ρ20))) N (a1,r3,a0,r2,((([] : List Int) ++ (((((a0.getD r1.toNat (dft tPeer)).2).2).2).1)) ++ ((((((a0.getD r1.toNat (dft tPeer)).2).2).2).2).1)),(0:Int)) else none) else none)) else none)) else none)))))
abbrev ct_f76 (N : Nat) : CT := ⟨138,(.pr (.d tRing) (.pr (.d I) (.d I))),(.pr (.t I) (.t .bl)),fun a => x_f76 N a.1 a.2.1 a.2.2⟩
theorem c_f76 (N : Nat) : CTok Tryz.prog (ct_f76 N) :=
 CT_ok (Γ := [.c (ct_f68 N),.c (ct_f65 N),.c (ct_f84 N),.c (ct_f53 N),.c (ct_f52 N)]) (Θ := [(38,I)]) (Λ := ([⟨0,0,(.pr (.d 1 I) (.pr (.d 2 I) (.pr (.ip 3 tRing) (.pr (.d 10 I) (.pr (.o 11 I) (.d 12 I)))))),(.d 10 I),fun {Ω} kx kr => iter (B_f76_L0 N kx kr) N⟩] : List (LC (DenR (.pr (.t I) (.t .bl)))))) (by kernel_rfl) mixed ⟨c_f68 N,⟨c_f65 N,⟨c_f84 N,⟨c_f53 N,⟨c_f52 N,trivial⟩⟩⟩⟩⟩ (by kernel_rfl)
  ⟨LoopEq.mk N (fun Ω kx kr => B_f76_L0 N kx kr) (fun Ω g kx kr s => by kernel_rfl),trivial⟩ (by kernel_rfl) (fun a => by kernel_rfl)
def B_f58_L0 (N : Nat) {Ω : Type} (kx : DenS (.bx 6 tTrip) → Option Ω) (kr : ((Den tTrip) × Bool) → Option Ω) (rec_ : DenS (.pr (.d 2 I) (.pr (.ip 3 tRing) (.pr (.bx 6 tTrip) (.pr (.d 8 I) (.d 9 I))))) → Option Ω) : DenS (.pr (.d 2 I) (.pr (.ip 3 tRing) (.pr (.bx 6 tTrip) (.pr (.d 8 I) (.d 9 I))))) → Option Ω := fun (s2,s3,s6,s8,s9) =>
 (bif (decide (s9 ≤ (65:Int))) then (x_f76 N s3 s8 s2).bind fun r1 => (bif (decide (r1.1 < (0:Int))) then kx s6 else (bif (!decide (r1.1 = s8)) then (bif r1.2 then (bif (decide ((65:Int) < (wrap64 (s9 + (1:Int))))) then kx s6 else kr ((r1.1,(wrap64 (s9 + (1:Int)))),true)) else rec_ (s2,s3,s6,r1.1,(wrap64 (s9 + (1:Int))))) else (bif r1.2 then (bif (decide ((65:Int) < s9)) then kx s6 else kr ((r1.1,s9),true)) else rec_ (s2,s3,s6,r1.1,s9)))) else kx s6)
def x_f58 (N : Nat) (a0 : (Den tRing)) (a1 : Int) (a2 : Int) : Option ((Den tTrip) × Bool) :=
 iter (B_f58_L0 N (fun x2 => some (((-1:Int),(0:Int)),false)) (fun ρ3 => some (ρ3))) N (a2,a0,((0:Int),(0:Int)),a1,(0:Int))
abbrev ct_f58 (N : Nat) : CT := ⟨104,(.pr (.d tRing) (.pr (.d I) (.d I))),(.pr (.t tTrip) (.t .bl)),fun a => x_f58 N a.1 a.2.1 a.2.2⟩
theorem c_f58 (N : Nat) : CTok Tryz.prog (ct_f58 N) :=
 CT_ok (Γ := [.c (ct_f76 N)]) (Θ := []) (Λ := ([⟨0,0,(.pr (.d 2 I) (.pr (.ip 3 tRing) (.pr (.bx 6 tTrip) (.pr (.d 8 I) (.d 9 I))))),(.bx 6 tTrip),fun {Ω} kx kr => iter (B_f58_L0 N kx kr) N⟩] : List (LC (DenR (.pr (.t tTrip) (.t .bl)))))) (by kernel_rfl) mixed ⟨c_f76 N,trivial⟩ (by kernel_rfl)
  ⟨LoopEq.mk N (fun Ω kx kr => B_f58_L0 N kx kr) (fun Ω g kx kr s => by kernel_rfl),trivial⟩ (by kernel_rfl) (fun a => by kernel_rfl)
def B_f93_L0 (N : Nat) {Ω : Type} (kx : DenS (.o 5 I) → Option Ω) (kr : (List Int) → Option Ω) (rec_ : DenS (.pr (.d 0 (.sl I)) (.pr (.d 1 I) (.pr (.o 5 I) (.d 6 I)))) → Option Ω) : DenS (.pr (.d 0 (.sl I)) (.pr (.d 1 I) (.pr (.o 5 I) (.d 6 I)))) → Option Ω := fun (s0,s1,s5,s6) =>
 (bif (decide (s6 < (s0.length : Int))) then (bif (decide (0 ≤ s6) && decide (s6 < s0.length)) then (bif (!decide ((s0.getD s6.toNat (0:Int)) = s1)) then (bif (decide (0 ≤ s6) && decide (s6 < s0.length)) then (bif (decide ((s5.length + [(s0.getD s6.toNat (0:Int))].length) * 8 ≤ 140737488355328)) then rec_ (s0,s1,(s5 ++ [(s0.getD s6.toNat (0:Int))]),(wrap64 (s6 + (1:Int)))) else none) else none) else rec_ (s0,s1,s5,(wrap64 (s6 + (1:Int))))) else none) else kx s5)
def x_f93 (N : Nat) (a0 : (List Int)) (a1 : Int) : Option (List Int) :=
 iter (B_f93_L0 N (fun x1 => some x1) (fun ρ2 => some (ρ2))) N (a0,a1,[],(0:Int))
abbrev ct_f93 (N : Nat) : CT := ⟨139,(.pr (.d (.sl I)) (.d I)),(.t (.sl I)),fun a => x_f93 N a.1 a.2⟩
theorem c_f93 (N : Nat) : CTok Tryz.prog (ct_f93 N) :=
 CT_ok (Γ := []) (Θ := [(7,I),(25,I)]) (Λ := ([⟨0,0,(.pr (.d 0 (.sl I)) (.pr (.d 1 I) (.pr (.o 5 I) (.d 6 I)))),(.o 5 I),fun {Ω} kx kr => iter (B_f93_L0 N kx kr) N⟩] : List (LC (DenR (.t (.sl I)))))) (by kernel_rfl) mixed trivial (by kernel_rfl)
  ⟨LoopEq.mk N (fun Ω kx kr => B_f93_L0 N kx kr) (fun Ω g kx kr s => by kernel_rfl),trivial⟩ (by kernel_rfl) (fun a => by kernel_rfl)
def x_f92 (N : Nat) (a0 : (Den tRing)) (a1 : Int) (a2 : Int) : Option (List Int) :=
 agree ((x_f68 N a0 a1).bind fun r1 => (bif (decide (0 ≤ r1) && decide (r1 < a0.length)) then (bif (decide (([a1].length + (((((a0.getD r1.toNat (dft tPeer)).2).2).2).1).length) * 8 ≤ 140737488355328)) then (x_f93 N ([a1] ++ (((((a0.getD r1.toNat (dft tPeer)).2).2).2).1)) a2).bind fun r2 => (x_f88 N r2).bind fun r3 => some r3 else none) else none)) ((x_f68 N a0 a1).bind fun r4 => (bif (decide (0 ≤ r4) && decide (r4 < a0.length)) then (bif (decide (([a1].length + (((((a0.getD r4.toNat (dft tPeer)).2).2).2).1).length) * 8 ≤ 140737488355328)) then (x_f93 N ([a1] ++ (((((a0.getD r4.toNat (dft tPeer)).2).2).2).1)) a2).bind fun r5 => (x_f88 N r5).bind fun r6 => some r6 else none) else none))
abbrev ct_f92 (N : Nat) : CT := ⟨105,(.pr (.d tRing) (.pr (.d I) (.d I))),(.t (.sl I)),fun a => x_f92 N a.1 a.2.1 a.2.2⟩
theorem c_f92 (N : Nat) : CTok Tryz.prog (ct_f92 N) :=
 CT_ok (Γ := [.c (ct_f68 N),.c (ct_f93 N),.c (ct_f88 N)]) (Θ := [(8,I)]) (Λ := ([] : List (LC (DenR (.t (.sl I)))))) (by kernel_rfl) mixed ⟨c_f68 N,⟨c_f93 N,⟨c_f88 N,trivial⟩⟩⟩ (by kernel_rfl)
  trivial (by kernel_rfl) (fun a => by kernel_rfl)
def B_f63_L0 (N : Nat) {Ω : Type} (kx : DenS (.pr (.d 1 I) (.pr (.d 2 I) (.pr (.ip 3 tRing) (.pr (.bx 6 tRing) (.pr (.bx 8 tRing) (.d 9 I)))))) → Option Ω) (kr : ((Den tRing) × Bool) → Option Ω) (rec_ : DenS (.pr (.d 1 I) (.pr (.d 2 I) (.pr (.ip 3 tRing) (.pr (.bx 6 tRing) (.pr (.bx 8 tRing) (.pr (.d 9 I) (.d 10 I))))))) → Option Ω) : DenS (.pr (.d 1 I) (.pr (.d 2 I) (.pr (.ip 3 tRing) (.pr (.bx 6 tRing) (.pr (.bx 8 tRing) (.pr (.d 9 I) (.d 10 I))))))) → Option Ω := fun (s1,s2,s3,s6,s8,s9,s10) =>
 (bif (decide (s10 < (s3.length : Int))) then (bif (decide (0 ≤ s10) && decide (s10 < s3.length)) then (bif (decide (((s3.getD s10.toNat (dft tPeer)).1) = s1)) then (bif (decide (0 ≤ s10) && decide (s10 < s3.length)) then (bif (!(((s3.getD s10.toNat (dft tPeer)).2).1)) then rec_ (s1,s2,s3,s6,s8,s10,(wrap64 (s10 + (1:Int)))) else rec_ (s1,s2,s3,s6,s8,s9,(wrap64 (s10 + (1:Int))))) else none) else rec_ (s1,s2,s3,s6,s8,s9,(wrap64 (s10 + (1:Int))))) else none) else kx (s1,s2,s3,s6,s8,s9))
def B_f63_L2 (N : Nat) {Ω : Type} (kx : DenS (.pr (.bx 6 tRing) (.pr (.bx 8 tRing) (.pr (.d 9 I) (.bx 13 tPeer)))) → Option Ω) (kr : ((Den tRing) × Bool) → Option Ω) (rec_ : DenS (.pr (.bx 6 tRing) (.pr (.bx 8 tRing) (.pr (.d 9 I) (.pr (.bx 13 tPeer) (.d 14 I))))) → Option Ω) : DenS (.pr (.bx 6 tRing) (.pr (.bx 8 tRing) (.pr (.d 9 I) (.pr (.bx 13 tPeer) (.d 14 I))))) → Option Ω := fun (s6,s8,s9,s13,s14) =>
 (bif (decide (s14 < (8:Int))) then (bif (decide ((s13.2.2.2.2.1.length + [(-1:Int)].length) * 8 ≤ 140737488355328)) then rec_ (s6,s8,s9,(s13.1,s13.2.1,s13.2.2.1,s13.2.2.2.1,(s13.2.2.2.2.1 ++ [(-1:Int)]),s13.2.2.2.2.2),(wrap64 (s14 + (1:Int)))) else none) else kx (s6,s8,s9,s13))
def x_f63 (N : Nat) (a0 : (Den tRing)) (a1 : Int) (a2 : Int) : Option ((Den tRing) × Bool) :=
 (x_f86 N a0).bind fun r1 => iter (B_f63_L0 N (fun (x2,x3,x4,x5,x6,x7) => (x_f58 N x4 x3 x2).bind fun r8 => (bif (decide (x7 < (0:Int))) then some (x6,false) else (bif (!r8.2) then some (x6,false) else (x_f68 N x4 x2).bind fun r9 => (bif (decide ((0:Int) ≤ r9)) then some (x6,false) else (x_f68 N x4 r8.1.1).bind fun r10 => (bif (decide (r10 < (0:Int))) then some (x6,false) else (x_f92 N x4 r8.1.1 x2).bind fun r11 => iter (B_f63_L2 N (fun (x12,x13,x14,x15) => (bif (decide (0 ≤ x14) && decide (x14 < x13.length)) then some ((x13.set x14.toNat x15),true) else none)) (fun ρ16 => some (ρ16))) N (x5,x6,x7,(x2,true,(-1:Int),r11,[],[]),(0:Int))))))) (fun ρ17 => some (ρ17))) N (a1,a2,a0,[],r1,(-1:Int),(0:Int))
abbrev ct_f63 (N : Nat) : CT := ⟨35,(.pr (.d tRing) (.pr (.d I) (.d I))),(.pr (.t tRing) (.t .bl)),fun a => x_f63 N a.1 a.2.1 a.2.2⟩
theorem c_f63 (N : Nat) : CTok Tryz.prog (ct_f63 N) :=
 CT_ok (Γ := [.c (ct_f86 N),.c (ct_f58 N),.c (ct_f68 N),.c (ct_f92 N)]) (Θ := [(82,I)]) (Λ := ([⟨0,0,(.pr (.d 1 I) (.pr (.d 2 I) (.pr (.ip 3 tRing) (.pr (.bx 6 tRing) (.pr (.bx 8 tRing) (.pr (.d 9 I) (.d 10 I))))))),(.pr (.d 1 I) (.pr (.d 2 I) (.pr (.ip 3 tRing) (.pr (.bx 6 tRing) (.pr (.bx 8 tRing) (.d 9 I)))))),fun {Ω} kx kr => iter (B_f63_L0 N kx kr) N⟩,⟨2,0,(.pr (.bx 6 tRing) (.pr (.bx 8 tRing) (.pr (.d 9 I) (.pr (.bx 13 tPeer) (.d 14 I))))),(.pr (.bx 6 tRing) (.pr (.bx 8 tRing) (.pr (.d 9 I) (.bx 13 tPeer)))),fun {Ω} kx kr => iter (B_f63_L2 N kx kr) N⟩] : List (LC (DenR (.pr (.t tRing) (.t .bl)))))) (by kernel_rfl) mixed ⟨c_f86 N,⟨c_f58 N,⟨c_f68 N,⟨c_f92 N,trivial⟩⟩⟩⟩ (by kernel_rfl)
  ⟨LoopEq.mk N (fun Ω kx kr => B_f63_L0 N kx kr) (fun Ω g kx kr s => by kernel_rfl),⟨LoopEq.mk N (fun Ω kx kr => B_f63_L2 N kx kr) (fun Ω g kx kr s => by kernel_rfl),trivial⟩⟩ (by kernel_rfl) (fun a => by kernel_rfl)
def B_f60_L0 (N : Nat) {Ω : Type} (kx : DenS (.pr (.bx 4 tRing) (.bx 6 tRing)) → Option Ω) (kr : ((Den tRing) × Bool) → Option Ω) (rec_ : DenS (.pr (.ip 2 tRing) (.pr (.bx 4 tRing) (.pr (.bx 6 tRing) (.d 8 I)))) → Option Ω) : DenS (.pr (.ip 2 tRing) (.pr (.bx 4 tRing) (.pr (.bx 6 tRing) (.d 8 I)))) → Option Ω := fun (s2,s4,s6,s8) =>
 (bif (decide (s8 < (s6.length : Int))) then (bif (decide (0 ≤ s8) && decide (s8 < s6.length)) then (bif ((s6.getD s8.toNat (dft tPeer)).2).1 then (bif (decide (0 ≤ s8) && decide (s8 < s6.length)) then (x_f65 N s6 ((s6.getD s8.toNat (dft tPeer)).1)).bind fun r3 => (bif (decide (r3 < (0:Int))) then (x_f86 N s2).bind fun r4 => kr (r4,false) else rec_ (s2,s4,s6,(wrap64 (s8 + (1:Int))))) else none) else rec_ (s2,s4,s6,(wrap64 (s8 + (1:Int))))) else none) else kx (s4,s6))
def x_f60 (N : Nat) (a0 : (Den tRing)) (a1 : Int) : Option ((Den tRing) × Bool) :=
 (x_f86 N a0).bind fun r1 => (x_f68 N a0 a1).bind fun r2 => (bif (decide (r2 < (4:Int))) then some (r1,false) else (bif (decide (0 ≤ r2) && decide (r2 < r1.length)) then iter (B_f60_L0 N (fun (x5,x6) => some (x6,true)) (fun ρ7 => some (ρ7))) N (a0,[],(r1.set r2.toNat (a1,false,(0:Int),[],[],[])),(0:Int)) else none))
abbrev ct_f60 (N : Nat) : CT := ⟨39,(.pr (.d tRing) (.d I)),(.pr (.t tRing) (.t .bl)),fun a => x_f60 N a.1 a.2⟩
theorem c_f60 (N : Nat) : CTok Tryz.prog (ct_f60 N) :=
 CT_ok (Γ := [.c (ct_f86 N),.c (ct_f68 N),.c (ct_f65 N)]) (Θ := []) (Λ := ([⟨0,0,(.pr (.ip 2 tRing) (.pr (.bx 4 tRing) (.pr (.bx 6 tRing) (.d 8 I)))),(.pr (.bx 4 tRing) (.bx 6 tRing)),fun {Ω} kx kr => iter (B_f60_L0 N kx kr) N⟩] : List (LC (DenR (.pr (.t tRing) (.t .bl)))))) (by kernel_rfl) mixed ⟨c_f86 N,⟨c_f68 N,⟨c_f65 N,trivial⟩⟩⟩ (by kernel_rfl)
  ⟨LoopEq.mk N (fun Ω kx kr => B_f60_L0 N kx kr) (fun Ω g kx kr s => by kernel_rfl),trivial⟩ (by kernel_rfl) (fun a => by kernel_rfl)
end
end Go.Proofs.YtfmlmdnaeonobaaGreat.C
