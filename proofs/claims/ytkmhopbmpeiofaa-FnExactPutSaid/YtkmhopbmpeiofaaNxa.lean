/- Abstract values and what a heap holds of them: sound, with no condition beyond those each lemma names. -/
import Derived.Below
import Derived.Orders
import Derived.WalkKit
set_option linter.unusedVariables false
set_option linter.unusedSimpArgs false
namespace Go.Proofs.Ytkmhopbmpeiofaa.Nx
open Go
inductive AV where
 | any
 | val (x : Value)
 | agg (cs : List AV)
 | tup (vs : List AV)
 | sl (own : Bool) (sz : Nat) (rows : List AV)
 | ref (j ver off len : Nat)
 | ptr (j ver row off : Nat)
 | ipt (cs : List AV)
 | fn (f : FuncId) (cap : List AV)
 deriving Inhabited
def AV.cells : AV → List AV
 | .agg cs => cs
 | x => [x]
mutual
def imm : AV → AV
 | .any => .any
 | .val x => .val x
 | .agg cs => .agg (immL cs)
 | .tup cs => .tup (immL cs)
 | .sl _ sz rows => .sl false sz (immL rows)
 | .ref .. => .any
 | .ptr .. => .any
 | .ipt cs => .ipt (immL cs)
 | .fn f cs => .fn f (immL cs)
def immL : List AV → List AV
 | [] => []
 | x :: xs => imm x :: immL xs
end
theorem immL_map : ∀ xs : List AV,immL xs = xs.map imm
 | [] => rfl
 | x :: xs => by rw [immL,immL_map xs]; rfl
mutual
def AV.low (n : Nat) : AV → Bool
 | .any => true
 | .val _ => true
 | .agg cs => lowL n cs
 | .tup cs => lowL n cs
 | .sl _ _ rows => lowL n rows
 | .ref j _ _ _ => decide (j < n)
 | .ptr j _ _ _ => decide (j < n)
 | .ipt cs => lowL n cs
 | .fn _ cs => lowL n cs
def lowL (n : Nat) : List AV → Bool
 | [] => true
 | x :: xs => x.low n && lowL n xs
end
theorem lowL_all (n : Nat) : ∀ xs : List AV,lowL n xs = xs.all (AV.low n)
 | [] => rfl
 | x :: xs => by rw [lowL,lowL_all n xs]; rfl
structure Cn where
 b : Nat
 o : Nat
 sz : Nat
 len : Nat
 fr : Nat
 virt : Bool
abbrev NT := Nat → Nat → Prop
abbrev MT := Nat → Option (Option Cn)
def Shp (w w' : World) : Prop := ∀ (b : Nat) (c : Array Value) (e : TypeId) (fz : Nat × Nat),w.heap[b]? = some (Obj.cells c e fz) →
 ∃ c' : Array Value,w'.heap[b]? = some (Obj.cells c' e fz) ∧ c'.size = c.size
def Mk (z n : Nat) (fz : Nat × Nat) : Prop := (∀ i,i < n → (decide (fz.1 ≤ i) && decide (i < fz.2)) = false) ∧ (z = 1 ∨ fz.2 ≤ n)
def room (w : World) (z b n : Nat) : Prop := ∃ c e fz,w.heap[b]? = some (.cells c e fz) ∧ n ≤ c.size ∧ Mk z c.size fz
def refOk (w : World) (m : Cn) (off len : Nat) (a : Option Addr) (cap : Nat) : Prop :=
 off + len ≤ m.len ∧ ((len = 0 ∧ cap = 0) ∨ (m.virt = false ∧ a = some ⟨m.b,m.o + off * m.sz,none⟩ ∧ len ≤ cap ∧ room w m.sz m.b (m.o + (off + cap) * m.sz)))
mutual
inductive Rep (w : World) (N : NT) (M : MT) : AV → Value → List Nat → Prop
 | any (v : Value) : Rep w N M .any v []
 | val (v : Value) : Rep w N M (.val v) v []
 | agg {cs : List AV} {vs : List Value} {L : List Nat} : RepL w N M cs vs L → Rep w N M (.agg cs) (.agg ⟨vs⟩) L
 | tup {cs : List AV} {vs : List Value} {L : List Nat} : RepL w N M cs vs L → Rep w N M (.tup cs) (.tuple ⟨vs⟩) L
 | fn {f : FuncId} {cs : List AV} {vs : List Value} {L : List Nat} : RepL w N M cs vs L → Rep w N M (.fn f cs) (.func (.func f) #[] ⟨vs⟩) L
 | slI0 (sz : Nat) (a : Option Addr) (cap : Nat) : Rep w N M (.sl false sz []) (.slice a 0 cap) []
 | slI {sz : Nat} {rows : List AV} {b o cap : Nat} : RepC w N M b o (rows.flatMap AV.cells) [] → (∀ y ∈ rows,y.cells.length = sz) →
   (∀ i,i < rows.length * sz → N b (o + i)) → rows.length ≤ cap → Rep w N M (.sl false sz rows) (.slice (some ⟨b,o,none⟩) rows.length cap) []
 | slO0 (sz : Nat) (a : Option Addr) : Rep w N M (.sl true sz []) (.slice a 0 0) []
 | slO {sz : Nat} {rows : List AV} {b o cap : Nat} {L : List Nat} : RepC w N M b o (rows.flatMap AV.cells) L → (∀ y ∈ rows,y.cells.length = sz) →
   rows.length ≤ cap → room w sz b (o + cap * sz) → Rep w N M (.sl true sz rows) (.slice (some ⟨b,o,none⟩) rows.length cap) (b :: L)
 | ref {j ver off len : Nat} {a : Option Addr} {cap : Nat} (mm : Option Cn) : M j = some mm →
   (∀ m,mm = some m → ver ≤ m.len ∧ (ver = m.len → refOk w m off len a cap)) → Rep w N M (.ref j ver off len) (.slice a len cap) []
 | ptr {j ver row off : Nat} {a : Option Addr} (mm : Option Cn) : M j = some mm →
   (∀ m,mm = some m → ver ≤ m.len ∧ (ver = m.len → row < m.len ∧ m.virt = false ∧ a = some ⟨m.b,m.o + row * m.sz + off,none⟩)) →
   Rep w N M (.ptr j ver row off) (.pointer a) []
 | ipt {cs : List AV} {b o : Nat} : RepC w N M b o cs [] → (∀ i,i < cs.length → N b (o + i)) → Rep w N M (.ipt cs) (.pointer (some ⟨b,o,none⟩)) []
inductive RepL (w : World) (N : NT) (M : MT) : List AV → List Value → List Nat → Prop
 | nil : RepL w N M [] [] []
 | cons {x : AV} {v : Value} {L1 L2 : List Nat} {xs : List AV} {vs : List Value} : Rep w N M x v L1 → RepL w N M xs vs L2 → RepL w N M (x :: xs) (v :: vs) (L1 ++ L2)
inductive RepC (w : World) (N : NT) (M : MT) : Nat → Nat → List AV → List Nat → Prop
 | nil (b o : Nat) : RepC w N M b o [] []
 | cons {b o : Nat} {x : AV} {v : Value} {L1 L2 : List Nat} {xs : List AV} : w.cell? ⟨b,o,none⟩ = some v → Rep w N M x v L1 → RepC w N M b (o + 1) xs L2 →
   RepC w N M b o (x :: xs) (L1 ++ L2)
end
theorem flat_len {sz : Nat} : ∀ {rows : List AV},(∀ y ∈ rows,y.cells.length = sz) → (rows.flatMap AV.cells).length = rows.length * sz
 | [],_ => by simp
 | x :: xs,h => by
  have h1 := h x (by simp)
  have h2 := flat_len (rows := xs) fun y hy => h y (by simp [hy])
  simp only [List.flatMap_cons,List.length_append,h1,h2,List.length_cons,Nat.succ_mul]
  omega
structure Gr (w w' : World) (N N' : NT) (M M' : MT) : Prop where
 shp : Shp w w'
 cell : ∀ b o,N b o → w'.cell? ⟨b,o,none⟩ = w.cell? ⟨b,o,none⟩
 nn : ∀ b o,N b o → N' b o
 mm : ∀ j x,M j = some x → ∃ x',M' j = some x' ∧ ∀ m',x' = some m' → ∃ m,x = some m ∧ (m' = { m with fr := m'.fr } ∨ m.len < m'.len)
theorem room.gr {w w' : World} (shp : Shp w w') {z b n : Nat} (h : room w z b n) : room w' z b n := by
 obtain ⟨c,e,fz,h1,h2,h5⟩ := h
 obtain ⟨c',h3,h4⟩ := shp _ _ _ _ h1
 exact ⟨c',e,fz,h3,by omega,by rw [h4]; exact h5⟩
theorem refOk.gr {w w' : World} (shp : Shp w w') {m : Cn} {off len cap : Nat} {a : Option Addr} (h : refOk w m off len a cap) : refOk w' m off len a cap := by
 obtain ⟨h1,h2⟩ := h
 refine ⟨h1,?_⟩
 rcases h2 with h2 | ⟨h2,h3,h4,h5⟩
 ·exact .inl h2
 ·exact .inr ⟨h2,h3,h4,h5.gr shp⟩
def Same (w w' : World) (b : Nat) : Prop := ∀ o,w'.cell? ⟨b,o,none⟩ = w.cell? ⟨b,o,none⟩
mutual
theorem Rep.gr {w w' : World} {N N' : NT} {M M' : MT} (g : Gr w w' N N' M M') {x : AV} {v : Value} {L : List Nat} : Rep w N M x v L → (∀ b ∈ L,Same w w' b) → Rep w' N' M' x v L
 | .any v,_ => .any v
 | .val v,_ => .val v
 | .agg h,k => .agg (h.gr g k)
 | .tup h,k => .tup (h.gr g k)
 | .fn h,k => .fn (h.gr g k)
 | .slI0 sz a cap,_ => .slI0 sz a cap
 | .slI (rows := rows) h hl hN hc,k => .slI (h.gr g (fun i hi => g.cell _ _ (hN i (by rw [flat_len hl] at hi; exact hi))) k) hl (fun i hi => g.nn _ _ (hN i hi)) hc
 | .slO0 sz a,_ => .slO0 sz a
 | .slO h hl hc hr,k => .slO (h.gr g (fun i _ => k _ (by simp) _) (fun b hb => k b (by simp [hb]))) hl hc (hr.gr g.shp)
 | .ref (j := j) mm hM h,_ => by
  obtain ⟨x',hx,hx'⟩ := g.mm _ _ hM
  refine .ref x' hx fun m' hm' => ?_
  obtain ⟨m,hm,hmm⟩ := hx' m' hm'
  obtain ⟨h1,h2⟩ := h m hm
  rcases hmm with e | hlt
  ·generalize m'.fr = z at e
   subst e
   exact ⟨h1,fun e => (h2 e).gr g.shp⟩
  ·exact ⟨by omega,fun e => by omega⟩
 | .ptr mm hM h,_ => by
  obtain ⟨x',hx,hx'⟩ := g.mm _ _ hM
  refine .ptr x' hx fun m' hm' => ?_
  obtain ⟨m,hm,hmm⟩ := hx' m' hm'
  obtain ⟨h1,h2⟩ := h m hm
  rcases hmm with e | hlt
  ·generalize m'.fr = z at e
   subst e
   exact ⟨h1,h2⟩
  ·exact ⟨by omega,fun e => by omega⟩
 | .ipt h hN,k => .ipt (h.gr g (fun i hi => g.cell _ _ (hN i hi)) k) (fun i hi => g.nn _ _ (hN i hi))
theorem RepL.gr {w w' : World} {N N' : NT} {M M' : MT} (g : Gr w w' N N' M M') {xs : List AV} {vs : List Value} {L : List Nat} : RepL w N M xs vs L → (∀ b ∈ L,Same w w' b) → RepL w' N' M' xs vs L
 | .nil,_ => .nil
 | .cons h t,k => .cons (h.gr g fun b hb => k b (by simp [hb])) (t.gr g fun b hb => k b (by simp [hb]))
theorem RepC.gr {w w' : World} {N N' : NT} {M M' : MT} (g : Gr w w' N N' M M') {b o : Nat} {xs : List AV} {L : List Nat} : RepC w N M b o xs L → (∀ i,i < xs.length → w'.cell? ⟨b,o + i,none⟩ = w.cell? ⟨b,o + i,none⟩) → (∀ b ∈ L,Same w w' b) → RepC w' N' M' b o xs L
 | .nil b o,_,_ => .nil b o
 | .cons (o := o) hc h t,hs,k => .cons (by have := hs 0 (by simp); simp only [Nat.add_zero] at this; rw [this]; exact hc) (h.gr g fun b hb => k b (by simp [hb]))
   (t.gr g (fun i hi => by have := hs (i + 1) (by simp; omega); rw [show o + (i + 1) = o + 1 + i from by omega] at this; exact this) fun b hb => k b (by simp [hb]))
end
end Go.Proofs.Ytkmhopbmpeiofaa.Nx
namespace Go.Proofs.Ytkmhopbmpeiofaa.Nx
open Go
theorem immL_cells {rows : List AV} : (immL rows).flatMap AV.cells = immL (rows.flatMap AV.cells) := by
 induction rows with
 | nil => rfl
 | cons x xs ih =>
  simp only [immL,List.flatMap_cons,ih]
  have : ∀ a b : List AV,immL (a ++ b) = immL a ++ immL b := by intro a b; simp [immL_map]
  rw [this]
  congr 1
  cases x <;> simp [imm,AV.cells,immL]
theorem imm_cells_len (x : AV) : (imm x).cells.length = x.cells.length := by cases x <;> simp [imm,AV.cells,immL_map]
theorem immL_len {sz : Nat} {rows : List AV} (h : ∀ y ∈ rows,y.cells.length = sz) : ∀ y ∈ immL rows,y.cells.length = sz := by
 intro y hy
 rw [immL_map] at hy
 obtain ⟨x,hx,rfl⟩ := List.mem_map.1 hy
 rw [imm_cells_len]; exact h x hx
theorem immL_length (rows : List AV) : (immL rows).length = rows.length := by rw [immL_map]; simp
theorem lowL_append (n : Nat) (a b : List AV) : lowL n (a ++ b) = (lowL n a && lowL n b) := by simp [lowL_all]
theorem lowL_flat (n : Nat) (rows : List AV) : lowL n (rows.flatMap AV.cells) = lowL n rows := by
 induction rows with
 | nil => rfl
 | cons x xs ih =>
  rw [List.flatMap_cons,lowL_append,ih,lowL]
  congr 1
  cases x <;> simp [AV.cells,AV.low,lowL]
mutual
theorem Rep.imm {w : World} {N N' : NT} {M M' : MT} (hn : ∀ b o,N b o → N' b o) {x : AV} {v : Value} {L : List Nat} : Rep w N M x v L → (∀ b ∈ L,∀ o,N' b o) → Rep w N' M' (imm x) v []
 | .any v,_ => .any v
 | .val v,_ => .val v
 | .agg h,k => .agg (h.imm hn k)
 | .tup h,k => .tup (h.imm hn k)
 | .fn h,k => .fn (h.imm hn k)
 | .slI0 sz a cap,_ => .slI0 sz a cap
 | .slI h hl hN hc,k => by
  rw [Nx.imm,← immL_length]
  exact .slI (by rw [immL_cells]; exact h.imm hn k) (immL_len hl) (fun i hi => hn _ _ (hN i (by rw [immL_length] at hi; exact hi))) (by rw [immL_length]; exact hc)
 | .slO0 sz a,_ => .slI0 sz a 0
 | .slO h hl hc _,k => by
  rw [Nx.imm,← immL_length]
  exact .slI (by rw [immL_cells]; exact h.imm hn (fun b hb => k b (by simp [hb]))) (immL_len hl) (fun i _ => k _ (by simp) _) (by rw [immL_length]; exact hc)
 | .ref _ _ _,_ => .any _
 | .ptr _ _ _,_ => .any _
 | .ipt h hN,k => by
  rw [Nx.imm]
  exact .ipt (h.imm hn k) (fun i hi => hn _ _ (hN i (by rw [immL_length] at hi; exact hi)))
theorem RepL.imm {w : World} {N N' : NT} {M M' : MT} (hn : ∀ b o,N b o → N' b o) {xs : List AV} {vs : List Value} {L : List Nat} : RepL w N M xs vs L → (∀ b ∈ L,∀ o,N' b o) → RepL w N' M' (immL xs) vs []
 | .nil,_ => .nil
 | .cons h t,k => .cons (L1 := []) (L2 := []) (h.imm hn fun b hb => k b (by simp [hb])) (t.imm hn fun b hb => k b (by simp [hb]))
theorem RepC.imm {w : World} {N N' : NT} {M M' : MT} (hn : ∀ b o,N b o → N' b o) {b o : Nat} {xs : List AV} {L : List Nat} : RepC w N M b o xs L → (∀ b ∈ L,∀ o,N' b o) → RepC w N' M' b o (immL xs) []
 | .nil b o,_ => .nil b o
 | .cons hc h t,k => .cons (L1 := []) (L2 := []) hc (h.imm hn fun b hb => k b (by simp [hb])) (t.imm hn fun b hb => k b (by simp [hb]))
end
mutual
theorem Rep.lowM {w : World} {N : NT} {M M' : MT} {n : Nat} (hM : ∀ j,j < n → ∀ x,M j = some x → M' j = some x) {x : AV} {v : Value} {L : List Nat} : Rep w N M x v L → x.low n = true → Rep w N M' x v L
 | .any v,_ => .any v
 | .val v,_ => .val v
 | .agg h,k => .agg (h.lowM hM (by simpa [AV.low] using k))
 | .tup h,k => .tup (h.lowM hM (by simpa [AV.low] using k))
 | .fn h,k => .fn (h.lowM hM (by simpa [AV.low] using k))
 | .slI0 sz a cap,_ => .slI0 sz a cap
 | .slI h hl hN hc,k => .slI (h.lowM hM (by rw [lowL_flat]; simpa [AV.low] using k)) hl hN hc
 | .slO0 sz a,_ => .slO0 sz a
 | .slO h hl hc hr,k => .slO (h.lowM hM (by rw [lowL_flat]; simpa [AV.low] using k)) hl hc hr
 | .ref mm h1 h2,k => .ref mm (hM _ (by simpa [AV.low] using k) _ h1) h2
 | .ptr mm h1 h2,k => .ptr mm (hM _ (by simpa [AV.low] using k) _ h1) h2
 | .ipt h hN,k => .ipt (h.lowM hM (by simpa [AV.low] using k)) hN
theorem RepL.lowM {w : World} {N : NT} {M M' : MT} {n : Nat} (hM : ∀ j,j < n → ∀ x,M j = some x → M' j = some x) {xs : List AV} {vs : List Value} {L : List Nat} : RepL w N M xs vs L → lowL n xs = true → RepL w N M' xs vs L
 | .nil,_ => .nil
 | .cons h t,k => by
  simp only [lowL,Bool.and_eq_true] at k
  exact .cons (h.lowM hM k.1) (t.lowM hM k.2)
theorem RepC.lowM {w : World} {N : NT} {M M' : MT} {n : Nat} (hM : ∀ j,j < n → ∀ x,M j = some x → M' j = some x) {b o : Nat} {xs : List AV} {L : List Nat} : RepC w N M b o xs L → lowL n xs = true → RepC w N M' b o xs L
 | .nil b o,_ => .nil b o
 | .cons hc h t,k => by
  simp only [lowL,Bool.and_eq_true] at k
  exact .cons hc (h.lowM hM k.1) (t.lowM hM k.2)
end
def AV.bare1 : AV → Bool
 | .sl own _ _ => !own
 | .agg _ => false
 | .tup _ => false
 | .fn _ cs => cs.isEmpty
 | _ => true
def AV.bare : AV → Bool
 | .sl own _ _ => !own
 | .agg cs => cs.all AV.bare1
 | .tup cs => cs.all AV.bare1
 | .fn _ cs => cs.all AV.bare1
 | _ => true
end Go.Proofs.Ytkmhopbmpeiofaa.Nx
namespace Go.Proofs.Ytkmhopbmpeiofaa.Nx
open Go
theorem Rep.bare1 {w : World} {N : NT} {M : MT} {x : AV} {v : Value} {L : List Nat} (h : Rep w N M x v L) (hb : AV.bare1 x = true) : L = [] := by
 cases h with
 | agg h => simp [AV.bare1] at hb
 | tup h => simp [AV.bare1] at hb
 | fn h =>
  rename_i cs vs
  simp only [AV.bare1,List.isEmpty_iff] at hb
  subst hb
  cases h; rfl
 | slO h _ _ _ => simp [AV.bare1] at hb
 | _ => rfl
theorem RepL.bare {w : World} {N : NT} {M : MT} {xs : List AV} {vs : List Value} {L : List Nat} (h : RepL w N M xs vs L) (hb : xs.all AV.bare1 = true) : L = [] := by
 induction xs generalizing vs L with
 | nil => cases h; rfl
 | cons x xs ih =>
  cases h with
  | cons h t =>
   simp only [List.all_cons,Bool.and_eq_true] at hb
   rw [h.bare1 hb.1,ih t hb.2]; rfl
theorem Rep.bare {w : World} {N : NT} {M : MT} {x : AV} {v : Value} {L : List Nat} (h : Rep w N M x v L) (hb : x.bare = true) : L = [] := by
 cases h with
 | agg h => exact h.bare hb
 | tup h => exact h.bare hb
 | fn h => exact h.bare hb
 | slO h _ _ _ => simp [AV.bare] at hb
 | _ => rfl
theorem RepC.append {w : World} {N : NT} {M : MT} {b o : Nat} {xs ys : List AV} {L : List Nat} : RepC w N M b o (xs ++ ys) L → ∃ L1 L2,L = L1 ++ L2 ∧ RepC w N M b o xs L1 ∧ RepC w N M b (o + xs.length) ys L2 := by
 induction xs generalizing o L with
 | nil => intro h; exact ⟨[],L,rfl,.nil _ _,by simpa using h⟩
 | cons x xs ih =>
  intro h
  cases h with
  | cons hc hx ht =>
   rename_i v L1 L2
   obtain ⟨A,B,rfl,h1,h2⟩ := ih ht
   refine ⟨L1 ++ A,B,by simp,.cons hc hx h1,?_⟩
   rw [List.length_cons,show o + (xs.length + 1) = o + 1 + xs.length from by omega]; exact h2
theorem RepC.join {w : World} {N : NT} {M : MT} {b o : Nat} {xs ys : List AV} {L1 L2 : List Nat} (h1 : RepC w N M b o xs L1) (h2 : RepC w N M b (o + xs.length) ys L2) : RepC w N M b o (xs ++ ys) (L1 ++ L2) := by
 induction xs generalizing o L1 with
 | nil => cases h1; simpa using h2
 | cons x xs ih =>
  cases h1 with
  | cons hc hx ht =>
   rename_i v A B
   rw [List.append_assoc]
   refine .cons hc hx (ih ht ?_)
   rw [List.length_cons,show o + (xs.length + 1) = o + 1 + xs.length from by omega] at h2; exact h2
theorem RepC.values {w : World} {N : NT} {M : MT} {b o : Nat} {xs : List AV} {L : List Nat} : RepC w N M b o xs L → ∃ vs,RepL w N M xs vs L ∧ vs.length = xs.length ∧ ∀ i,i < xs.length → w.cell? ⟨b,o + i,none⟩ = vs[i]? := by
 induction xs generalizing o L with
 | nil => intro h; cases h; exact ⟨[],.nil,rfl,fun i hi => absurd hi (by simp)⟩
 | cons x xs ih =>
  intro h
  cases h with
  | cons hc hx ht =>
   rename_i v A B
   obtain ⟨vs,h1,h2,h3⟩ := ih ht
   refine ⟨v :: vs,.cons hx h1,by simp [h2],?_⟩
   intro i hi
   cases i with
   | zero => simpa using hc
   | succ i =>
    rw [show o + (i + 1) = o + 1 + i from by omega,h3 i (by simpa using hi)]
    simp
theorem RepC.of_values {w : World} {N : NT} {M : MT} {b : Nat} {xs : List AV} {vs : List Value} {L : List Nat} : ∀ {o : Nat},RepL w N M xs vs L → (∀ i,i < vs.length → w.cell? ⟨b,o + i,none⟩ = vs[i]?) → RepC w N M b o xs L := by
 induction xs generalizing vs L with
 | nil => intro o h _; cases h; exact .nil _ _
 | cons x xs ih =>
  intro o h hc
  cases h with
  | cons hx ht =>
   refine .cons (by have := hc 0 (by simp); simpa using this) hx (ih ht fun i hi => ?_)
   have := hc (i + 1) (by simp; omega)
   rw [show o + (i + 1) = o + 1 + i from by omega] at this
   simpa using this
theorem RepL.length {w : World} {N : NT} {M : MT} {xs : List AV} {vs : List Value} {L : List Nat} (h : RepL w N M xs vs L) : vs.length = xs.length := by
 induction xs generalizing vs L with
 | nil => cases h; rfl
 | cons x xs ih => cases h with | cons hx ht => simp [ih ht]
theorem RepL.append {w : World} {N : NT} {M : MT} {xs ys : List AV} {vs : List Value} {L : List Nat} : RepL w N M (xs ++ ys) vs L → ∃ v1 v2 L1 L2,vs = v1 ++ v2 ∧ L = L1 ++ L2 ∧ RepL w N M xs v1 L1 ∧ RepL w N M ys v2 L2 := by
 induction xs generalizing vs L with
 | nil => intro h; exact ⟨[],vs,[],L,rfl,rfl,.nil,h⟩
 | cons x xs ih =>
  intro h
  cases h with
  | cons hx ht =>
   rename_i v L1 L2 vs
   obtain ⟨v1,v2,A,B,rfl,rfl,h1,h2⟩ := ih ht
   exact ⟨v :: v1,v2,L1 ++ A,B,rfl,by simp,.cons hx h1,h2⟩
theorem RepL.join {w : World} {N : NT} {M : MT} {xs ys : List AV} {v1 v2 : List Value} {L1 L2 : List Nat} (h1 : RepL w N M xs v1 L1) (h2 : RepL w N M ys v2 L2) : RepL w N M (xs ++ ys) (v1 ++ v2) (L1 ++ L2) := by
 induction xs generalizing v1 L1 with
 | nil => cases h1; exact h2
 | cons x xs ih =>
  cases h1 with
  | cons hx ht => rw [List.append_assoc]; exact .cons hx (ih ht)
theorem RepL.get {w : World} {N : NT} {M : MT} {xs : List AV} {vs : List Value} (h : RepL w N M xs vs []) (i : Nat) : Rep w N M (xs.getD i .any) (vs.getD i undef) [] := by
 induction xs generalizing vs i with
 | nil => cases h; simpa using Rep.any _
 | cons x xs ih =>
  generalize hL : ([] : List Nat) = L at h
  cases h with
  | cons hx ht =>
   obtain ⟨rfl,rfl⟩ := List.append_eq_nil_iff.1 hL.symm
   cases i with
   | zero => simpa using hx
   | succ i => simpa using ih ht i
theorem RepL.set {w : World} {N : NT} {M : MT} {xs : List AV} {vs : List Value} (h : RepL w N M xs vs []) {x : AV} {v : Value} (hx : Rep w N M x v []) (i : Nat) : RepL w N M (xs.set i x) (vs.set i v) [] := by
 induction xs generalizing vs i with
 | nil => cases h; simpa using RepL.nil
 | cons y xs ih =>
  generalize hL : ([] : List Nat) = L at h
  cases h with
  | cons hy ht =>
   obtain ⟨rfl,rfl⟩ := List.append_eq_nil_iff.1 hL.symm
   cases i with
   | zero => exact .cons (L1 := []) (L2 := []) hx ht
   | succ i => exact .cons (L1 := []) (L2 := []) hy (ih ht i)
theorem RepL.replicate {w : World} {N : NT} {M : MT} (n : Nat) : RepL w N M (List.replicate n .any) (List.replicate n undef) [] := by
 induction n with
 | zero => exact .nil
 | succ n ih => exact .cons (L1 := []) (L2 := []) (.any _) ih
end Go.Proofs.Ytkmhopbmpeiofaa.Nx
namespace Go.Proofs.Ytkmhopbmpeiofaa.Nx
open Go
structure Blk where
 sz : Nat
 lo : Nat
 rows : List AV
 fz : Nat
 deriving Inhabited
abbrev HP := List (Option Blk)
structure BR (w : World) (N : NT) (M : MT) (k : Blk) (m : Cn) (L : List Nat) : Prop where
 len : m.len = k.rows.length
 sz : m.sz = k.sz
 fr : m.fr ≤ m.o + k.lo * k.sz
 cl : ∀ y ∈ k.rows,y.cells.length = k.sz
 rep : RepC w N M m.b m.o (k.rows.flatMap AV.cells) L
 vt : m.virt = true → k.rows = []
 rm : m.virt = false → room w m.sz m.b (m.o + m.len * m.sz)
 lo : k.lo ≤ k.rows.length
 fz : ∀ i,i < k.fz * k.sz → N m.b (m.o + i)
 f0 : k.lo = 0 → m.fr = 0
def ownOf (m : Cn) (L : List Nat) : List (Nat × Nat) := if m.virt then [] else (m.b,m.fr) :: L.map fun b => (b,0)
inductive HR (w : World) (N : NT) (M : MT) : Nat → HP → List (Nat × Nat) → Prop
 | nil (k : Nat) : HR w N M k [] []
 | dead {k : Nat} {hs : HP} {L : List (Nat × Nat)} : M k = some none → HR w N M (k + 1) hs L → HR w N M k (none :: hs) L
 | live {k : Nat} {x : Blk} {m : Cn} {L1 : List Nat} {hs : HP} {L2 : List (Nat × Nat)} : M k = some (some m) → BR w N M x m L1 → HR w N M (k + 1) hs L2 → HR w N M k (some x :: hs) (ownOf m L1 ++ L2)
theorem BR.gr {w w' : World} {N N' : NT} {M M' : MT} (g : Gr w w' N N' M M') {k : Blk} {m : Cn} {L : List Nat} (h : BR w N M k m L) (hs : ∀ p ∈ ownOf m L,Same w w' p.1) : BR w' N' M' k m L := by
 cases hv : m.virt with
 | true =>
  have hr := h.vt hv
  have hrep := h.rep
  rw [hr] at hrep
  refine ⟨h.len,h.sz,h.fr,h.cl,?_,h.vt,(fun e => by rw [hv] at e; cases e),h.lo,fun i hi => g.nn _ _ (h.fz i hi),h.f0⟩
  rw [hr]
  exact hrep.gr g (fun i hi => absurd hi (by simp)) (by cases hrep; intro b hb; cases hb)
 | false =>
  have e : ownOf m L = (m.b,m.fr) :: L.map fun b => (b,0) := by simp [ownOf,hv]
  rw [e] at hs
  refine ⟨h.len,h.sz,h.fr,h.cl,h.rep.gr g (fun i _ => hs (m.b,m.fr) (by simp) _) ?_,h.vt,(fun e => (h.rm hv).gr g.shp),h.lo,fun i hi => g.nn _ _ (h.fz i hi),h.f0⟩
  intro b hb
  exact hs (b,0) (by simp [hb])
theorem HR.gr {w w' : World} {N N' : NT} {M M' : MT} (g : Gr w w' N N' M M') {hp : HP} : ∀ {k : Nat} {L : List (Nat × Nat)},HR w N M k hp L → (∀ p ∈ L,Same w w' p.1) → (∀ i,k ≤ i → i < k + hp.length → M' i = M i) → HR w' N' M' k hp L := by
 induction hp with
 | nil => intro k L h _ _; cases h; exact .nil _
 | cons x hs ih =>
  intro k L h hs' hM
  cases h with
  | dead h1 h2 => exact .dead (by rw [hM k (Nat.le_refl _) (by simp)]; exact h1) (ih h2 hs' fun i hi hl => hM i (by omega) (by simp only [List.length_cons]; omega))
  | live h1 h2 h3 =>
   exact .live (by rw [hM k (Nat.le_refl _) (by simp)]; exact h1) (h2.gr g fun p hp => hs' p (by simp [hp])) (ih h3 (fun p hp => hs' p (by simp [hp])) fun i hi hl => hM i (by omega) (by simp only [List.length_cons]; omega))
theorem HR.append {w : World} {N : NT} {M : MT} {p q : HP} : ∀ {k : Nat} {L : List (Nat × Nat)},HR w N M k (p ++ q) L → ∃ A B,L = A ++ B ∧ HR w N M k p A ∧ HR w N M (k + p.length) q B := by
 induction p with
 | nil => intro k L h; exact ⟨[],L,rfl,.nil _,by simpa using h⟩
 | cons x p ih =>
  intro k L h
  cases h with
  | dead h1 h2 =>
   obtain ⟨A,B,rfl,h3,h4⟩ := ih h2
   exact ⟨A,B,rfl,.dead h1 h3,by rw [List.length_cons,show k + (p.length + 1) = k + 1 + p.length from by omega]; exact h4⟩
  | live h1 h2 h3 =>
   obtain ⟨A,B,rfl,h3,h4⟩ := ih h3
   exact ⟨_ ++ A,B,by simp,.live h1 h2 h3,by rw [List.length_cons,show k + (p.length + 1) = k + 1 + p.length from by omega]; exact h4⟩
theorem HR.join {w : World} {N : NT} {M : MT} {p q : HP} : ∀ {k : Nat} {A B : List (Nat × Nat)},HR w N M k p A → HR w N M (k + p.length) q B → HR w N M k (p ++ q) (A ++ B) := by
 induction p with
 | nil => intro k A B h1 h2; cases h1; simpa using h2
 | cons x p ih =>
  intro k A B h1 h2
  rw [List.length_cons,show k + (p.length + 1) = k + 1 + p.length from by omega] at h2
  cases h1 with
  | dead h3 h4 => exact .dead h3 (ih h4 h2)
  | live h3 h4 h5 => rw [List.append_assoc]; exact .live h3 h4 (ih h5 h2)
theorem HR.focus {w : World} {N : NT} {M : MT} {hp : HP} {k : Nat} {L : List (Nat × Nat)} {j : Nat} {x : Blk} (h : HR w N M k hp L) (hj : hp[j]? = some (some x)) :
  ∃ p q A B m L1,hp = p ++ some x :: q ∧ j = p.length ∧ L = A ++ (ownOf m L1 ++ B) ∧ HR w N M k p A ∧ M (k + j) = some (some m) ∧ BR w N M x m L1 ∧ HR w N M (k + j + 1) q B := by
 have hlt : j < hp.length := by
  rcases Nat.lt_or_ge j hp.length with h | h
  ·exact h
  ·rw [List.getElem?_eq_none h] at hj; cases hj
 have e : hp = hp.take j ++ some x :: hp.drop (j + 1) := by
  have h1 : hp[j]'hlt = some x := by simpa [List.getElem?_eq_getElem hlt] using hj
  rw [← h1,List.getElem_cons_drop hlt,List.take_append_drop]
 have hl : (hp.take j).length = j := by simp; omega
 rw [e] at h
 obtain ⟨A,B,rfl,h1,h2⟩ := h.append
 rw [hl] at h2
 cases h2 with
 | live h3 h4 h5 => exact ⟨hp.take j,hp.drop (j + 1),A,_,_,_,e,hl.symm,rfl,h1,h3,h4,h5⟩
structure Fr (X : List Nat) (w w' : World) : Prop where
 os : w'.os = w.os
 tape : w'.tape = w.tape
 output : w'.output = w.output
 size : w.heap.size ≤ w'.heap.size
 block : ∀ k,k < w.heap.size → k ∉ X → w'.heap[k]? = w.heap[k]?
 shp : Shp w w'
theorem Fr.refl (X : List Nat) (w : World) : Fr X w w := ⟨rfl,rfl,rfl,Nat.le_refl _,fun _ _ _ => rfl,fun _ c _ _ h => ⟨c,h,rfl⟩⟩
theorem Fr.same {X : List Nat} {w w' : World} (h : Fr X w w') {b : Nat} (hb : b < w.heap.size) (hx : b ∉ X) : Same w w' b := fun _ => World.cell?_of_block (h.block b hb hx)
theorem Shp.trans {a b c : World} (h : Shp a b) (k : Shp b c) : Shp a c := by
 intro x y e fz hx
 obtain ⟨y',h1,h2⟩ := h x y e fz hx
 obtain ⟨y'',h3,h4⟩ := k x y' e fz h1
 exact ⟨y'',h3,h4.trans h2⟩
theorem Fr.trans {X Y : List Nat} {a b c : World} (h : Fr X a b) (k : Fr Y b c) (hY : ∀ y ∈ Y,y ∈ X ∨ a.heap.size ≤ y) : Fr X a c :=
 ⟨k.os.trans h.os,k.tape.trans h.tape,k.output.trans h.output,Nat.le_trans h.size k.size,fun i hi hx => by
  have hy : i ∉ Y := fun hm => by rcases hY i hm with h | h; exact hx h; omega
  rw [k.block i (Nat.lt_of_lt_of_le hi h.size) hy,h.block i hi hx],h.shp.trans k.shp⟩
structure FrN (N : NT) (X : List Nat) (w w' : World) : Prop extends Fr X w w' where
 nc : ∀ b o,N b o → w'.cell? ⟨b,o,none⟩ = w.cell? ⟨b,o,none⟩
theorem FrN.refl (N : NT) (X : List Nat) (w : World) : FrN N X w w := ⟨Fr.refl X w,fun _ _ _ => rfl⟩
theorem FrN.trans {N : NT} {X Y : List Nat} {a b c : World} (h : FrN N X a b) (k : Fr Y b c) (hY : ∀ y ∈ Y,y ∈ X ∨ a.heap.size ≤ y) (hc : ∀ i o,N i o → c.cell? ⟨i,o,none⟩ = b.cell? ⟨i,o,none⟩) : FrN N X a c :=
 ⟨h.toFr.trans k hY,fun i o hn => (hc i o hn).trans (h.nc i o hn)⟩
structure AS where
 sl : List AV
 hp : HP
def AS.put (s : AS) (d : Option Tmp) (x : AV) : AS :=
 match d with
 | some d => { s with sl := s.sl.set d x }
 | none => s
structure Ctx where
 w0 : World
 X : List Nat
 N0 : NT
 M0 : MT
structure ConcD (C : Ctx) (s : AS) (a : Act) (w : World) (N : NT) (M : MT) (L : List (Nat × Nat)) : Prop where
 df : a.defers = []
 sl : RepL w N M s.sl a.tmps.toList []
 hp : HR w N M 0 s.hp L
 nd : (L.map Prod.fst).Nodup
 own : ∀ p ∈ L,p.1 < w.heap.size ∧ (C.w0.heap.size ≤ p.1 ∨ p.1 ∈ C.X) ∧ ∀ o,N p.1 o → o < p.2
 nlt : ∀ b o,N b o → b < w.heap.size
 nup : ∀ b o,C.N0 b o → N b o
 ndn : ∀ b o,N b o → C.N0 b o ∨ C.w0.heap.size ≤ b ∨ b ∈ C.X
 fr : FrN C.N0 C.X C.w0 w
 un : ∀ k,s.hp.length ≤ k → M k = none
 mv : ∀ k m m0,M k = some (some m) → C.M0 k = some (some m0) → m0.len ≤ m.len ∧ (m.len = m0.len → m = m0)
 mz : ∀ k,s.hp.length ≤ k → C.M0 k = none
def Conc (C : Ctx) (s : AS) (a : Act) (w : World) : Prop := ∃ N M L,ConcD C s a w N M L
theorem ConcD.put {C : Ctx} {s : AS} {a : Act} {w : World} {N : NT} {M : MT} {L : List (Nat × Nat)} (h : ConcD C s a w N M L) (d : Option Tmp) {x : AV} {v : Value} (hx : Rep w N M x v []) : ConcD C (s.put d x) (a.put d v) w N M L := by
 cases d with
 | none => exact h
 | some d =>
  refine ⟨h.df,?_,h.hp,h.nd,h.own,h.nlt,h.nup,h.ndn,h.fr,h.un,h.mv,h.mz⟩
  simpa [AS.put,Act.put,Array.toList_setIfInBounds] using h.sl.set hx d
theorem Gr.refl (w : World) (N : NT) (M : MT) : Gr w w N N M M := ⟨fun _ c _ _ h => ⟨c,h,rfl⟩,fun _ _ _ => rfl,fun _ _ h => h,fun _ x h => ⟨x,h,fun m hm => ⟨m,hm,.inl rfl⟩⟩⟩
theorem ConcD.drew {C : Ctx} {s : AS} {a : Act} {w : World} {N : NT} {M : MT} {L : List (Nat × Nat)} (h : ConcD C s a w N M L) (n : Nat) : ConcD C s a { w with drawn := n } N M L := by
 have g : Gr w { w with drawn := n } N N M M := ⟨fun _ c _ _ h => ⟨c,h,rfl⟩,fun _ _ _ => rfl,fun _ _ h => h,fun _ x h => ⟨x,h,fun m hm => ⟨m,hm,.inl rfl⟩⟩⟩
 exact ⟨h.df,h.sl.gr g (fun _ hb => by cases hb),h.hp.gr g (fun _ _ _ => rfl) (fun _ _ _ => rfl),h.nd,h.own,h.nlt,h.nup,h.ndn,
  ⟨⟨h.fr.os,h.fr.tape,h.fr.output,h.fr.size,h.fr.block,h.fr.shp⟩,fun b o hn => h.fr.nc b o hn⟩,h.un,h.mv,h.mz⟩
end Go.Proofs.Ytkmhopbmpeiofaa.Nx
namespace Go.Proofs.Ytkmhopbmpeiofaa.Nx
open Go Go.RowKit
inductive CK where
 | i (k : IntKind)
 | b
 | s
 deriving DecidableEq
inductive NO where
 | mv (x : Operand)
 | pick (c a b : Operand)
 | bin (b : BinOp) (x y : Operand)
 | eqb (neg : Bool) (x y : Operand)
 | eqs (ks : List CK) (neg : Bool) (x y : Operand)
 | un (u : UnOp) (x : Operand)
 | cvi (k : IntKind) (x : Operand)
 | fad (off : Nat) (x : Operand)
 | fld (off n : Nat) (ag : Bool) (x : Operand)
 | iad (sz : Nat) (x i : Operand)
 | idx (x i : Operand)
 | aad (sz len : Nat) (x i : Operand)
 | ixa (n len : Nat) (ag : Bool) (x i : Operand)
 | ext (x : Operand) (i : Nat)
 | slc (sz : Nat) (x : Operand) (lo hi : Option Operand)
 | slz (x : Operand) (lo hi mx : Operand)
 | sls (x : Operand) (lo hi : Option Operand)
 | len (x : Operand)
 | lns (x : Operand)
 | mnx (mx : Bool) (x y : Operand)
 | nck (x : Operand)
 | mkf (f : FuncId) (cap : List Operand)
 | bld (z : List AV) (parts : List (Nat × Nat × Operand))
 | ld (n : Nat) (ag : Bool) (x : Operand)
 | cbs (x : Operand)
 | al (z : List AV)
 | bx (n : Nat) (x : Operand)
 | bsl (sz n : Nat) (ag : Bool) (z : List AV) (parts : List (Nat × Operand))
 | mk (sz by_ : Nat) (ag : Bool) (z : List AV) (l c : Operand)
 | st (n : Nat) (a v : Operand)
 | app (str : Bool) (sz by_ : Nat) (s x : Operand)
 | csb (x : Operand)
 | cpy (x y : Operand)
 | dead
 | isn (neg : Bool) (x : Operand)
 | call (f : FuncId) (args : List Operand)
 | callv (f : Operand) (args : List Operand)
def cAV : Value → AV
 | .agg cs => .agg (cs.toList.map .val)
 | v => .val v
def AS.ev (s : AS) : Operand → AV
 | .tmp t => s.sl.getD t .any
 | .const v => cAV v
 | .func f => .fn f []
 | .global _ => .any
def wr (k : IntKind) (n : Int) : Int :=
 match k with
 | .i64 => wrap64 n
 | .u8 => n % 256
 | .u32 => n % 4294967296
 | .u64 => n % 18446744073709551616
 | k => k.wrap n
def AV.cell1 : AV → Bool
 | .any => false
 | .val (.agg _) => false
 | .val (.tuple _) => false
 | .val _ => true
 | .agg _ => false
 | .tup _ => false
 | _ => true
def AV.fits (n : Nat) : AV → Bool
 | .agg cs => cs.length == n && cs.all AV.cell1
 | x => n == 1 && x.cell1
def sub (rows : List AV) (off len : Nat) : List AV := if off = 0 ∧ rows.length = len then rows else (rows.drop off).take len
def HP.at (hp : HP) (j ver : Nat) : Option Blk :=
 match hp[j]? with
 | some (some b) => if b.rows.length = ver then some b else none
 | _ => none
def HP.row (hp : HP) (j ver row : Nat) : List AV :=
 match hp.at j ver with
 | some b => (b.rows.getD row .any).cells
 | none => []
def binC (b : BinOp) : AV → AV → Prop
 | .val (.int k _),.val (.int k' c) =>
  match b with
  | .quo | .rem => k = k' ∧ c ≠ 0
  | .shl | .shr => 0 ≤ c
  | _ => k = k'
 | .val (.string a),.val (.string c) =>
  match b with
  | .add => a.size + c.size ≤ 4611686018427387904
  | .eql | .neq | .lss | .leq | .gtr | .geq => True
  | _ => False
 | _,_ => False
def binV (b : BinOp) : AV → AV → AV
 | .val (.int k a),.val (.int _ c) =>
  match b with
  | .add => .val (.int k (wr k (a + c)))
  | .sub => .val (.int k (wr k (a - c)))
  | .mul => .val (.int k (wr k (a * c)))
  | .quo => .val (.int k (wr k (a.tdiv c)))
  | .rem => .val (.int k (a.tmod c))
  | .and => .val (.int k (k.wrap (BitVec.ofInt k.bits a &&& BitVec.ofInt k.bits c).toNat))
  | .or => .val (.int k (k.wrap (BitVec.ofInt k.bits a ||| BitVec.ofInt k.bits c).toNat))
  | .xor => .val (.int k (k.wrap (BitVec.ofInt k.bits a ^^^ BitVec.ofInt k.bits c).toNat))
  | .andNot => .val (.int k (k.wrap (BitVec.ofInt k.bits a &&& ~~~ BitVec.ofInt k.bits c).toNat))
  | .shl => .val (.int k (k.wrap (a * 2 ^ (min c.toNat k.bits))))
  | .shr => .val (.int k (a.fdiv (2 ^ (min c.toNat k.bits))))
  | .eql => .val (.bool (decide (a = c)))
  | .neq => .val (.bool (!decide (a = c)))
  | .lss => .val (.bool (decide (a < c)))
  | .leq => .val (.bool (decide (a ≤ c)))
  | .gtr => .val (.bool (decide (c < a)))
  | .geq => .val (.bool (decide (c ≤ a)))
 | .val (.string a),.val (.string c) =>
  match b with
  | .add => .val (.string (a ++ c))
  | .eql => .val (.bool (decide (a = c)))
  | .neq => .val (.bool (!decide (a = c)))
  | .lss => .val (.bool (Op.bytesLess a.toList c.toList))
  | .leq => .val (.bool (Op.bytesLess a.toList c.toList || decide (a = c)))
  | .gtr => .val (.bool (!(Op.bytesLess a.toList c.toList || decide (a = c))))
  | .geq => .val (.bool (!Op.bytesLess a.toList c.toList))
  | _ => .any
 | _,_ => .any
def eqC : List CK → List AV → Prop
 | [],[] => True
 | .i k :: ks,.val (.int k' _) :: xs => k = k' ∧ eqC ks xs
 | .b :: ks,.val (.bool _) :: xs => eqC ks xs
 | .s :: ks,.val (.string _) :: xs => eqC ks xs
 | _,_ => False
def eqV : List AV → List AV → Bool
 | .val (.int _ a) :: xs,.val (.int _ b) :: ys => decide (a = b) && eqV xs ys
 | .val (.bool a) :: xs,.val (.bool b) :: ys => (a == b) && eqV xs ys
 | .val (.string a) :: xs,.val (.string b) :: ys => decide (a = b) && eqV xs ys
 | _,_ => true
def bt (s : ByteArray) (i : Int) : Int := ((s.data.toList.getD i.toNat 0).toNat : Int)
def bd (s : AS) (d : Int) : Option Operand → Option Int
 | none => some d
 | some x => match s.ev x with
  | .val (.int _ n) => some n
  | _ => none
def emp : AV := .sl true 0 []
def slcV (s : AS) (x : AV) (lo hi : Option Operand) : AV :=
 match x with
 | .sl false sz rows => match bd s 0 lo,bd s rows.length hi with
  | some l,some h => .sl false sz (sub rows l.toNat (h.toNat - l.toNat))
  | _,_ => .any
 | .ref j ver off len => match bd s 0 lo,bd s len hi with
  | some l,some h => .ref j ver (off + l.toNat) (h.toNat - l.toNat)
  | _,_ => .any
 | x => x
def zeroB (s : AS) (x : Operand) : Prop := match s.ev x with | .val (.int _ n) => n = 0 | _ => False
def zeroO (s : AS) : Option Operand → Prop
 | none => True
 | some x => zeroB s x
def slcC (s : AS) (sz : Nat) (x : AV) (lo hi : Option Operand) : Prop :=
 match x with
 | .sl false sz' rows => match bd s 0 lo,bd s rows.length hi with
  | some l,some h => (sz' = sz ∨ rows = []) ∧ 0 ≤ l ∧ l ≤ h ∧ h ≤ rows.length
  | _,_ => False
 | .ref j ver _ len => match bd s 0 lo,bd s len hi with
  | some l,some h => (match s.hp.at j ver with | some b => b.sz = sz | none => False) ∧ 0 ≤ l ∧ l ≤ h ∧ h ≤ len
  | _,_ => False
 | .sl true _ [] => zeroO s lo ∧ zeroO s hi
 | .val (.slice none 0 0) => zeroO s lo ∧ zeroO s hi
 | _ => False
def lenC : AV → Prop
 | .sl _ _ _ => True
 | .ref _ _ _ _ => True
 | .val (.slice none 0 0) => True
 | _ => False
def lenV : AV → AV
 | .sl _ _ rows => .val (.int .i64 rows.length)
 | .ref _ _ _ len => .val (.int .i64 len)
 | .val (.slice none 0 0) => .val (.int .i64 0)
 | _ => .any
def ptrOk (s : AS) : AV → Prop
 | .ptr j ver _ _ => (s.hp.at j ver).isSome
 | .ipt _ => True
 | _ => False
def cellsOf (s : AS) : AV → List AV
 | .ptr j ver row off => (s.hp.row j ver row).drop off
 | .ipt cs => cs
 | _ => []
def bytesRow : List AV → Option (List UInt8)
 | [] => some []
 | .val (.int .u8 n) :: xs => (bytesRow xs).map (UInt8.ofNat n.toNat :: ·)
 | _ => none
def rowsOf (s : AS) : AV → Option (Nat × List AV)
 | .sl _ sz rows => some (sz,rows)
 | .ref j ver off len => (s.hp.at j ver).map fun b => (b.sz,sub b.rows off len)
 | .val (.slice none 0 0) => some (0,[])
 | _ => none
def lay (s : AS) : List AV → List (Nat × Nat × Operand) → List AV
 | z,[] => z
 | z,(off,n,x) :: ps => lay s (z.take off ++ ((s.ev x).cells ++ z.drop (off + n))) ps
def layC (s : AS) (len : Nat) : List (Nat × Nat × Operand) → Prop
 | [] => True
 | (off,n,x) :: ps => (s.ev x).fits n = true ∧ off + n ≤ len ∧ layC s len ps
def apc (s : AS) : NO → Prop
 | .mv _ => True
 | .pick c _ _ => match s.ev c with | .val (.bool _) => True | _ => False
 | .bin b x y => binC b (s.ev x) (s.ev y)
 | .eqb _ x y => match s.ev x,s.ev y with | .val (.bool _),.val (.bool _) => True | _,_ => False
 | .eqs ks _ x y => match s.ev x,s.ev y with | .agg xs,.agg ys => eqC ks xs ∧ eqC ks ys | _,_ => False
 | .un u x => match u,s.ev x with | .not,.val (.bool _) => True | .neg,.val (.int _ _) => True | .xor,.val (.int _ _) => True | _,_ => False
 | .cvi _ x => match s.ev x with | .val (.int _ _) => True | _ => False
 | .fad _ x => ptrOk s (s.ev x)
 | .fld off n _ x => match s.ev x with | .agg cs => off + n ≤ cs.length ∧ 0 < n | _ => False
 | .iad sz x i => match s.ev x,s.ev i with
  | .sl false sz' rows,.val (.int _ n) => (sz' = sz ∨ rows = []) ∧ 0 ≤ n ∧ n < rows.length
  | .ref j ver _ len,.val (.int _ n) => (match s.hp.at j ver with | some b => b.sz = sz | none => False) ∧ 0 ≤ n ∧ n < len
  | _,_ => False
 | .idx x i => match s.ev x,s.ev i with | .val (.string t),.val (.int _ n) => 0 ≤ n ∧ n < t.size | _,_ => False
 | .aad _ len x i => ptrOk s (s.ev x) ∧ match s.ev i with | .val (.int _ n) => 0 ≤ n ∧ n < len | _ => False
 | .ixa n len _ x i => match s.ev x,s.ev i with | .agg cs,.val (.int _ k) => len * n ≤ cs.length ∧ 0 < n ∧ 0 ≤ k ∧ k < len | _,_ => False
 | .ext x i => match s.ev x with | .tup vs => i < vs.length | _ => False
 | .slc sz x lo hi => slcC s sz (s.ev x) lo hi
 | .slz x lo hi mx => lenC (s.ev x) ∧ zeroB s lo ∧ zeroB s hi ∧ zeroB s mx
 | .sls x lo hi => match s.ev x with
  | .val (.string t) => match bd s 0 lo,bd s t.size hi with | some l,some h => 0 ≤ l ∧ l ≤ h ∧ h ≤ t.size | _,_ => False
  | _ => False
 | .len x => lenC (s.ev x)
 | .lns x => match s.ev x with | .val (.string _) => True | _ => False
 | .mnx _ x y => match s.ev x,s.ev y with | .val (.int k _),.val (.int k' _) => k = k' | _,_ => False
 | .nck x => ptrOk s (s.ev x)
 | .mkf _ _ => True
 | .bld z ps => layC s z.length ps
 | .ld n ag x => ptrOk s (s.ev x) ∧ n ≤ (cellsOf s (s.ev x)).length ∧ (ag = false → n = 1) ∧ ((cellsOf s (s.ev x)).take n).all AV.bare1 = true
 | .cbs x => match rowsOf s (s.ev x) with | some (_,rows) => (bytesRow rows).isSome | none => False
 | _ => False
def apv (s : AS) : NO → AV
 | .mv x => s.ev x
 | .pick c a b => match s.ev c with | .val (.bool true) => s.ev a | .val (.bool false) => s.ev b | _ => .any
 | .bin b x y => binV b (s.ev x) (s.ev y)
 | .eqb neg x y => match s.ev x,s.ev y with | .val (.bool a),.val (.bool c) => .val (.bool (neg != (a == c))) | _,_ => .any
 | .eqs _ neg x y => match s.ev x,s.ev y with | .agg xs,.agg ys => .val (.bool (neg != eqV xs ys)) | _,_ => .any
 | .un u x => match u,s.ev x with
  | .not,.val (.bool b) => .val (.bool !b)
  | .neg,.val (.int k n) => .val (.int k (wr k (0 - n)))
  | .xor,.val (.int k n) => .val (.int k (k.wrap (BitVec.ofInt k.bits (if k.signed then -1 else k.max) ^^^ BitVec.ofInt k.bits n).toNat))
  | _,_ => .any
 | .cvi k x => match s.ev x with | .val (.int _ n) => .val (.int k (wr k n)) | _ => .any
 | .fad off x => match s.ev x with | .ptr j ver row o => .ptr j ver row (o + off) | .ipt cs => .ipt (cs.drop off) | _ => .any
 | .fld off n ag x => match s.ev x with | .agg cs => if ag then .agg ((cs.drop off).take n) else cs.getD off .any | _ => .any
 | .iad _ x i => match s.ev x,s.ev i with
  | .sl false _ rows,.val (.int _ n) => .ipt (rows.getD n.toNat .any).cells
  | .ref j ver off _,.val (.int _ n) => .ptr j ver (off + n.toNat) 0
  | _,_ => .any
 | .idx x i => match s.ev x,s.ev i with | .val (.string t),.val (.int _ n) => .val (.int .u8 (bt t n)) | _,_ => .any
 | .aad sz _ x i => match s.ev x,s.ev i with
  | .ptr j ver row o,.val (.int _ n) => .ptr j ver row (o + n.toNat * sz)
  | .ipt cs,.val (.int _ n) => .ipt (cs.drop (n.toNat * sz))
  | _,_ => .any
 | .ixa n _ ag x i => match s.ev x,s.ev i with
  | .agg cs,.val (.int _ k) => if ag then .agg ((cs.drop (k.toNat * n)).take n) else cs.getD (k.toNat * n) .any
  | _,_ => .any
 | .ext x i => match s.ev x with | .tup vs => vs.getD i .any | _ => .any
 | .slc _ x lo hi => slcV s (s.ev x) lo hi
 | .slz _ _ _ _ => emp
 | .sls x lo hi => match s.ev x with
  | .val (.string t) => match bd s 0 lo,bd s t.size hi with | some l,some h => .val (.string (t.extract l.toNat h.toNat)) | _,_ => .any
  | _ => .any
 | .len x => lenV (s.ev x)
 | .lns x => match s.ev x with | .val (.string t) => .val (.int .i64 t.size) | _ => .any
 | .mnx mx x y => match s.ev x,s.ev y with | .val (.int k a),.val (.int _ b) => .val (.int k (if mx then (if b > a then b else a) else (if b < a then b else a))) | _,_ => .any
 | .nck x => s.ev x
 | .mkf f cap => .fn f (cap.map s.ev)
 | .bld z ps => .agg (lay s z ps)
 | .ld n ag x => if ag then .agg ((cellsOf s (s.ev x)).take n) else (cellsOf s (s.ev x)).getD 0 .any
 | .cbs x => match rowsOf s (s.ev x) with | some (_,rows) => (match bytesRow rows with | some l => .val (.string ⟨l.toArray⟩) | none => .any) | none => .any
 | _ => .any
def NO.looks : NO → Bool
 | .ld .. | .cbs .. => true
 | _ => false
def NO.quiet : NO → Bool
 | .st .. | .app .. | .cpy .. | .callv .. => false
 | _ => true
def NO.reads : NO → Bool
 | .al _ | .bx .. | .bsl .. | .mk .. | .st .. | .app .. | .csb _ | .cpy .. | .dead | .isn .. | .call .. | .callv .. => false
 | _ => true
end Go.Proofs.Ytkmhopbmpeiofaa.Nx
namespace Go.Proofs.Ytkmhopbmpeiofaa.Nx
open Go Go.RowKit
theorem RepL.vals (w : World) (N : NT) (M : MT) : ∀ vs : List Value,RepL w N M (vs.map .val) vs []
 | [] => .nil
 | v :: vs => .cons (L1 := []) (L2 := []) (.val v) (RepL.vals w N M vs)
theorem Rep.cAV (w : World) (N : NT) (M : MT) (v : Value) : Rep w N M (cAV v) v [] := by
 cases v with
 | agg cs => obtain ⟨cs⟩ := cs; exact .agg (RepL.vals w N M cs)
 | _ => exact .val _
theorem getD_toList (a : Array Value) (i : Nat) (d : Value) : a.toList.getD i d = a.getD i d := by
 simp [List.getD_eq_getElem?_getD,Array.getD_eq_getD_getElem?]
section
variable {C : Ctx} {s : AS} {a : Act} {w : World} {N : NT} {M : MT} {L : List (Nat × Nat)}
theorem ConcD.ev (h : ConcD C s a w N M L) (x : Operand) : Rep w N M (s.ev x) (a.eval x) [] := by
 cases x with
 | tmp t => have := h.sl.get t; rw [getD_toList] at this; exact this
 | const v => exact .cAV w N M v
 | func f => exact .fn .nil
 | global g => exact .any _
theorem ConcD.evv (h : ConcD C s a w N M L) {x : Operand} {u : Value} (e : s.ev x = .val u) : a.eval x = u := by
 have := h.ev x
 rw [e] at this
 cases this; rfl
theorem ConcD.blk (h : ConcD C s a w N M L) {j ver : Nat} {b : Blk} (e : s.hp.at j ver = some b) : b.rows.length = ver ∧ ∃ m L1,M j = some (some m) ∧ BR w N M b m L1 ∧ (∀ p ∈ ownOf m L1,p ∈ L) ∧ s.hp[j]? = some (some b) := by
 unfold HP.at at e
 split at e
 ·rename_i b' hj
  split at e
  ·rename_i hl
   cases e
   obtain ⟨p,q,A,B,m,L1,h1,h2,h3,h4,h5,h6,h7⟩ := h.hp.focus hj
   exact ⟨hl,m,L1,by simpa using h5,h6,fun x hx => by rw [h3]; simp [hx],hj⟩
  ·cases e
 ·cases e
end
theorem wr_eq (k : IntKind) (n : Int) : wr k n = k.wrap n := by
 cases k <;> simp [wr,IntKind.wrap,IntKind.bits,IntKind.signed,wrap64] <;> omega
end Go.Proofs.Ytkmhopbmpeiofaa.Nx
