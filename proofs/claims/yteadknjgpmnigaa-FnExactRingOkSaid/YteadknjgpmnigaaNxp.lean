/- The contract of a function, and rows of law: sound, with no condition beyond those each lemma names. -/
import Derived.IntWalk
import Derived.Test.YteadknjgpmnigaaNxo
set_option linter.unusedVariables false
set_option linter.unusedSimpArgs false
namespace Go.Proofs.Yteadknjgpmnigaa.Nx
open Go Go.RowKit

def lenP : PK → Nat
  | .un => 0
  | .d _ => 1
  | .ip _ => 1
  | .fn _ _ => 1
  | .pr a b => lenP a + lenP b

theorem capT_len : ∀ (p : PK) (a : DenP p), (capT p a).length = lenP p
  | .un, _ => rfl
  | .d _, _ => rfl
  | .ip _, _ => rfl
  | .fn _ _, _ => rfl
  | .pr a b, x => by simp [capT, lenP, capT_len a, capT_len b]

/-- All contracts of a list hold. -/
def AllOk (P : Program) : List CT → Prop
  | [] => True
  | ct :: Γ => CTok P ct ∧ AllOk P Γ

theorem AllOk.mem {P : Program} : ∀ {Γ : List CT}, AllOk P Γ → ∀ ct ∈ Γ, CTok P ct
  | [], _, _, h => by cases h
  | c :: Γ, h, ct, hm => by
    rcases List.mem_cons.1 hm with rfl | hm
    · exact h.1
    · exact AllOk.mem h.2 ct hm

def LoopsOk {R : Type} (Γ : List CT) (Θ : TyO) (Λ : List (LC R)) (n : Nat) (res : TS → Option R) : List (LC R) → List (Nat × NC) → Prop
  | [], _ => True
  | l :: ls, bs => LoopEq Γ Θ Λ n res l (bs.headD (0, .skip)).2 ∧ LoopsOk Γ Θ Λ n res ls bs.tail

def idsOk {R : Type} (Λ : List (LC R)) (bs : List (Nat × NC)) : Bool :=
  nodupB (bs.map Prod.fst) && (bs.map Prod.fst == Λ.map LC.id)

theorem LoopEq.mk {R : Type} {Γ : List CT} {Θ : TyO} {Λ : List (LC R)} {n : Nat} {res : TS → Option R} {l : LC R} {B : NC} (N : Nat) (lp : ∀ (Ω : Type), (DenS l.x → Option Ω) → (R → Option Ω) → (DenS l.s → Option Ω) → DenS l.s → Option Ω)
    (h : ∀ (Ω : Type) (g : DenS l.s → Option Ω) (kx : DenS l.x → Option Ω) (kr : R → Option Ω) (s : DenS l.s),
      xrun Γ Θ Λ n res B (fun t => (mask n l.s t).bind g) (fun i t => bif Nat.beq i l.id then (mask n l.x t).bind kx else none) kr (mkS l.s s) = lp Ω kx kr g s)
    (h0 : (fun (Ω : Type) (kx : DenS l.x → Option Ω) (kr : R → Option Ω) => l.run kx kr) = fun Ω kx kr => iter (lp Ω kx kr) N := by rfl) : LoopEq Γ Θ Λ n res l B :=
  ⟨N, lp, fun Ω kx kr s => congrFun (congrFun (congrFun (congrFun h0 Ω) kx) kr) s, h⟩

theorem loops_at {R : Type} {Γ : List CT} {Θ : TyO} {Λ0 : List (LC R)} {n : Nat} {res : TS → Option R} : ∀ {Λ : List (LC R)} {bs : List (Nat × NC)}, (bs.map Prod.fst).Nodup → bs.map Prod.fst = Λ.map LC.id → LoopsOk Γ Θ Λ0 n res Λ bs →
    ∀ id B, (id, B) ∈ bs → ∀ l, lcAt Λ id = some l → LoopEq Γ Θ Λ0 n res l B
  | [], [], _, _, _, id, B, hm, _, _ => by cases hm
  | [], _ :: _, _, h, _, _, _, _, _, _ => by cases h
  | _ :: _, [], _, h, _, _, _, _, _, _ => by cases h
  | l0 :: Λ, b :: bs, hn, he, hl, id, B, hm, l, hlc => by
    simp only [List.map_cons, List.cons.injEq] at he
    rw [List.map_cons] at hn
    obtain ⟨n1, n2⟩ := List.nodup_cons.1 hn
    rcases List.mem_cons.1 hm with rfl | hm
    · simp only [lcAt] at hlc
      have : Nat.beq l0.id id = true := by rw [Nat.beq_eq]; exact he.1.symm
      rw [this, cond_true] at hlc
      cases hlc
      exact hl.1
    · simp only [lcAt] at hlc
      have : Nat.beq l0.id id = false := by
        rw [← Bool.not_eq_true, Nat.beq_eq]
        intro e
        exact n1 (by rw [he.1, e]; exact List.mem_map.2 ⟨_, hm, rfl⟩)
      rw [this, cond_false] at hlc
      exact loops_at n2 he.2 hl.2 id B hm l hlc

/-- A function's data are its contract. -/
theorem CT_ok {P : Program} {f : FuncId} {Γ : List CT} {Θ : TyO} {p : PK} {R : RK} {Λ : List (LC (DenR R))} {F : DenP p → Option (DenR R)} (hs : (nFn P f).isSome = true) (hm : P.follows .mixedOrders = true) (hΓ : AllOk P Γ)
    (hi : idsOk Λ (loopsOf (nfOf P f).body) = true) (hl : LoopsOk Γ Θ Λ (nfOf P f).n (resOf (nfOf P f).n R (nfOf P f).res) Λ (loopsOf (nfOf P f).body)) (hp : Nat.ble (lenP p) (nfOf P f).n = true)
    (hF : ∀ a, xfn Γ Θ (nfOf P f) p R Λ a = F a) : CTok P ⟨f, p, R, F⟩ := by
  obtain ⟨nf, hnf⟩ := Option.isSome_iff_exists.1 hs
  have e : nfOf P f = nf := by unfold nfOf; rw [hnf]; rfl
  rw [e] at hi hl hp hF
  have : F = xfn Γ Θ nf p R Λ := funext fun a => (hF a).symm
  rw [this]
  simp only [idsOk, Bool.and_eq_true, beq_iff_eq] at hi
  refine CT_of_x hnf hm (fun ct h => AllOk.mem hΓ ct h) (loops_at (nodupB_iff hi.1) hi.2 hl) fun a => ?_
  unfold argAV
  rw [List.length_map, capT_len]
  exact Nat.le_of_ble_eq_true hp
end Go.Proofs.Yteadknjgpmnigaa.Nx

namespace Go.Proofs.Yteadknjgpmnigaa.Nx
open Go Go.RowKit

mutual
/-- A shape's type. -/
def tyS : SH → Ty
  | .b => .bl
  | .i k => .i k
  | .s => .tx
  | .sl _ _ _ e => .sl (tyS e)
  | .st l => .st (tyL l)
def tyL : List SH → Ty
  | [] => .bl
  | [x] => tyS x
  | x :: y :: l => .pr (tyS x) (tyL (y :: l))
end

mutual
def okS : SH → Bool
  | .sl sz b ag e => Nat.beq sz (tyS e).sz && (Nat.blt 0 b && (ag == (tyS e).ag && okS e))
  | .st l => !l.isEmpty && okL l
  | _ => true
def okL : List SH → Bool
  | [] => true
  | x :: l => okS x && okL l
end

/-- Data that memory can hold. -/
@[reducible] def good : (T : Ty) → Den T → Prop
  | .i k, x => k.min ≤ x ∧ x ≤ k.max
  | .bl, _ => True
  | .tx, x => x.size ≤ reachBytes
  | .sl t, x => x.length ≤ reachBytes ∧ ∀ y ∈ x, good t y
  | .pr a b, x => good a x.1 ∧ good b x.2
  | .st t, x => good t x

mutual
theorem shC_den : ∀ (sh : SH), okS sh = true → ∀ xs, shC sh xs → ∃ d : Den (tyS sh), xs = cls false (tyS sh) d ∧ good (tyS sh) d
  | .b, _, xs, h => by
    obtain ⟨b, rfl⟩ := h
    exact ⟨b, rfl, trivial⟩
  | .i k, _, xs, h => by
    obtain ⟨n, h1, h2, rfl⟩ := h
    exact ⟨n, rfl, h1, h2⟩
  | .s, _, xs, h => by
    obtain ⟨t, h1, rfl⟩ := h
    exact ⟨t, rfl, h1⟩
  | .sl sz b ag e, hok, xs, h => by
    simp only [okS, Bool.and_eq_true, Nat.beq_eq, Nat.blt_eq, beq_iff_eq] at hok
    obtain ⟨rfl, hb, rfl, he⟩ := hok
    obtain ⟨rows, h1, h2, rfl⟩ := h
    have : ∃ L : List (Den (tyS e)), rows = L.map (cls false (tyS e)) ∧ ∀ y ∈ L, good (tyS e) y := by
      clear h2
      induction rows with
      | nil => exact ⟨[], rfl, fun _ h => by cases h⟩
      | cons r rows ih =>
        obtain ⟨d, e1, e2⟩ := shC_den e he r (h1 r (by simp))
        obtain ⟨L, e3, e4⟩ := ih fun r hr => h1 r (by simp [hr])
        refine ⟨d :: L, by rw [e1, e3]; rfl, fun y hy => ?_⟩
        rcases List.mem_cons.1 hy with rfl | hy
        · exact e2
        · exact e4 y hy
    obtain ⟨L, rfl, hg⟩ := this
    refine ⟨L, ?_, ?_, hg⟩
    · show [AV.sl false (tyS e).sz ((L.map (cls false (tyS e))).map (mkr (tyS e).ag))] = [AV.sl false (tyS e).sz (L.map fun y => mkr (tyS e).ag (cls false (tyS e) y))]
      rw [List.map_map]; rfl
    · rw [List.length_map] at h2
      exact Nat.le_trans (Nat.le_mul_of_pos_right _ hb) h2
  | .st l, hok, xs, h => by
    simp only [okS, Bool.and_eq_true, Bool.not_eq_true', List.isEmpty_eq_false_iff] at hok
    exact shCs_den l hok.1 hok.2 xs h
theorem shCs_den : ∀ (l : List SH), l ≠ [] → okL l = true → ∀ xs, shCs l xs → ∃ d : Den (tyL l), xs = cls false (tyL l) d ∧ good (tyL l) d
  | [], h0, _, _, _ => absurd rfl h0
  | [x], _, hok, xs, h => by
    simp only [okL, Bool.and_eq_true] at hok
    obtain ⟨ys, zs, h1, h2, rfl⟩ := h
    obtain ⟨d, e1, e2⟩ := shC_den x hok.1 ys h1
    have h2 : zs = [] := h2
    subst h2
    exact ⟨d, by rw [List.append_nil, e1]; rfl, e2⟩
  | x :: y :: l, _, hok, xs, h => by
    simp only [okL, Bool.and_eq_true] at hok
    obtain ⟨ys, zs, h1, h2, rfl⟩ := h
    obtain ⟨d, e1, e2⟩ := shC_den x hok.1 ys h1
    obtain ⟨d', e3, e4⟩ := shCs_den (y :: l) (by simp) (by simp only [okL, Bool.and_eq_true]; exact hok.2) zs h2
    exact ⟨(d, d'), by rw [e1, e3]; rfl, e2, e4⟩
end

/-- A type's shape, as a type of data. -/
def shTy (P : Program) (m : Nat) (t : TypeId) (T : Ty) : Bool :=
  match shOf P m t with
  | some sh => okS sh && (decide (tyS sh = T) && (isAggB P t == T.ag))
  | none => false

section
variable {H : Type} {enc : TypeId × Value → H} {P : Program} {W : World} {spare : Nat → Bool} {held : Bool} {M : MT}

/-- An argument as a datum. -/
theorem arg_den {m base : Nat} {t : TypeId} {T : Ty} (hsh : shTy P m t T = true) {v : Value} {d : DataW H} {ps : List MemPlace} (hok : Value.okWide P W .any base t v) (ht : DataW.Trod enc P W 0 spare held t v d ps) (hw : ∀ n ∈ DataW.weights P t d, n ≤ reachBytes) :
    ∃ x : Den T, good T x ∧ Rep W (oldN W) M (Nx.enc false T x) v [] := by
  unfold shTy at hsh
  split at hsh
  · rename_i sh hs
    simp only [Bool.and_eq_true, decide_eq_true_eq, beq_iff_eq] at hsh
    obtain ⟨h1, rfl, h3⟩ := hsh
    obtain ⟨xs, k1, k2⟩ := arg_av (M := M) hs hok ht hw
    obtain ⟨x, rfl, k3⟩ := shC_den sh h1 xs k1
    rw [h3] at k2
    exact ⟨x, k3, k2⟩
  · cases hsh
end

/-- A law's contract, called. -/
theorem law_calls {P : Program} {W : World} {p : PK} {F : DenP p → Option Bool} {f : FuncId} (hc : CTok P ⟨f, p, .t .bl, F⟩) {a : DenP p} (hF : F a = some true) {vs : List Value} (hr : RepL W (oldN W) (fun _ => none) (argAV p a) vs []) :
    Calls P f ⟨vs⟩ W fun e W' => e = .returned (.bool true) ∧ Below W.heap.size W W' :=
  row_calls (hc a true hF) hr
end Go.Proofs.Yteadknjgpmnigaa.Nx

namespace Go.Proofs.Yteadknjgpmnigaa.Nx
open Go Go.RowKit

/-- Fuel that is enough for what memory holds of a law's arguments. -/
abbrev Big (N : Nat) : Prop := 1099511627776 ≤ N

/-- Data within a law's size. -/
@[reducible] def okz : (T : Ty) → Den T → Prop
  | .i _, _ => True
  | .bl, _ => True
  | .tx, x => x.size ≤ 1048576
  | .sl t, x => x.length ≤ 1048576 ∧ ∀ y ∈ x, okz t y
  | .pr a b, x => okz a x.1 ∧ okz b x.2
  | .st t, x => okz t x

theorem w64 {x : Int} (h1 : -9223372036854775808 ≤ x) (h2 : x ≤ 9223372036854775807) : wrap64 x = x := Go.IntWalk.wrap64_in x ⟨h1, h2⟩

theorem w64_up {i n : Nat} (h : i ≤ n) (hn : n ≤ 140737488355328) : wrap64 ((i : Int) + 1) = ((i + 1 : Nat) : Int) := by
  rw [w64 (by omega) (by omega)]; rfl

theorem bT {α : Type} {b : Bool} (h : b = true) (x y : α) : (bif b then x else y) = x := by rw [h]; rfl
theorem bF {α : Type} {b : Bool} (h : b = false) (x y : α) : (bif b then x else y) = y := by rw [h]; rfl
theorem cond_if {α : Type} (b : Bool) (x y : α) : (bif b then x else y) = if b = true then x else y := by cases b <;> rfl
theorem dT {p : Prop} [Decidable p] (h : p) : decide p = true := decide_eq_true h
theorem dF {p : Prop} [Decidable p] (h : ¬p) : decide p = false := decide_eq_false h

/-- A row that is there. -/
theorem in_rows {α : Type} (L : List α) {i : Nat} (h : i < L.length) : (decide (0 ≤ (i : Int)) && decide ((i : Int) < (L.length : Int))) = true := by
  simp only [Bool.and_eq_true, decide_eq_true_eq]; omega
theorem lt_rows {α : Type} (L : List α) {i : Nat} (h : i < L.length) : decide ((i : Int) < (L.length : Int)) = true := decide_eq_true (by omega)
theorem le_rows (i : Nat) : decide (0 ≤ (i : Int)) = true := decide_eq_true (by omega)
theorem getD_at {α : Type} (L : List α) {i : Nat} (h : i < L.length) (d : α) : L.getD ((i : Int)).toNat d = L[i] := by
  rw [Int.toNat_natCast]; simp [List.getD, h]
theorem drop_cons {α : Type} {L : List α} {i : Nat} (h : i < L.length) : L.drop i = L[i] :: L.drop (i + 1) := List.drop_eq_getElem_cons h

section iter
variable {σ R : Type} {B : (σ → Option R) → σ → Option R}

/-- A loop whose states are counted: what holds of its outcome. -/
theorem iter_to {A : Type} (st : Nat → A → σ) (Q : Nat → A → Option R → Prop) (n : Nat)
    (h1 : ∀ i a rec_, i < n → (∀ a', Q (i + 1) a' (rec_ (st (i + 1) a'))) → Q i a (B rec_ (st i a)))
    (h2 : ∀ a rec_, Q n a (B rec_ (st n a))) : ∀ N, n < N → ∀ a, Q 0 a (iter B N (st 0 a)) := by
  have key : ∀ k i N, i + k = n → k < N → ∀ a, Q i a (iter B N (st i a)) := by
    intro k
    induction k with
    | zero =>
      intro i N hi hN a
      obtain ⟨M, rfl⟩ : ∃ M, N = M + 1 := ⟨N - 1, by omega⟩
      have : i = n := by omega
      subst this
      exact h2 a _
    | succ k ih =>
      intro i N hi hN a
      obtain ⟨M, rfl⟩ : ∃ M, N = M + 1 := ⟨N - 1, by omega⟩
      exact h1 i a _ (by omega) fun a' => ih (i + 1) M (by omega) (by omega) a'
  exact fun N hN a => key n 0 N (by omega) hN a

/-- A loop over a row, as a function of the row's rest. -/
theorem iter_row {α : Type} (L : List α) (st : Nat → σ) (F : Nat → List α → Option R)
    (h1 : ∀ i (h : i < L.length) rec_, rec_ (st (i + 1)) = F (i + 1) (L.drop (i + 1)) → B rec_ (st i) = F i (L[i] :: L.drop (i + 1)))
    (h2 : ∀ rec_, B rec_ (st L.length) = F L.length []) {N : Nat} (hN : L.length < N) : iter B N (st 0) = F 0 L := by
  have := iter_to (B := B) (A := Unit) (fun i _ => st i) (fun i _ r => r = F i (L.drop i)) L.length
    (fun i a rec_ hi h => by rw [drop_cons hi]; exact h1 i hi rec_ (h ()))
    (fun a rec_ => by rw [List.drop_length]; exact h2 rec_) N hN ()
  rwa [List.drop_zero] at this

/-- The same with something that is gathered. -/
theorem iter_rowA {α A : Type} (L : List α) (st : Nat → A → σ) (F : Nat → A → List α → Option R)
    (h1 : ∀ i (h : i < L.length) a rec_, (∀ a', rec_ (st (i + 1) a') = F (i + 1) a' (L.drop (i + 1))) → B rec_ (st i a) = F i a (L[i] :: L.drop (i + 1)))
    (h2 : ∀ a rec_, B rec_ (st L.length a) = F L.length a []) {N : Nat} (hN : L.length < N) (a : A) : iter B N (st 0 a) = F 0 a L := by
  have := iter_to (B := B) st (fun i a r => r = F i a (L.drop i)) L.length
    (fun i a rec_ hi h => by rw [drop_cons hi]; exact h1 i hi a rec_ h)
    (fun a rec_ => by rw [List.drop_length]; exact h2 a rec_) N hN a
  rwa [List.drop_zero] at this
end iter

/-- Two loops side by side. -/
theorem iter_two {σ τ R : Type} {B : (σ → Option R) → σ → Option R} {C : (τ → Option R) → τ → Option R} {A : Type} (st : Nat → A → σ) (su : Nat → A → τ) (n : Nat)
    (h1 : ∀ i a rec_ rec', i < n → (∀ a', rec_ (st (i + 1) a') = rec' (su (i + 1) a')) → B rec_ (st i a) = C rec' (su i a))
    (h2 : ∀ a rec_ rec', B rec_ (st n a) = C rec' (su n a)) {N M : Nat} (hN : n < N) (hM : n < M) (a : A) : iter B N (st 0 a) = iter C M (su 0 a) := by
  have key : ∀ k i N M, i + k = n → k < N → k < M → ∀ a, iter B N (st i a) = iter C M (su i a) := by
    intro k
    induction k with
    | zero =>
      intro i N M hi hN hM a
      obtain ⟨N, rfl⟩ : ∃ K, N = K + 1 := ⟨N - 1, by omega⟩
      obtain ⟨M, rfl⟩ : ∃ K, M = K + 1 := ⟨M - 1, by omega⟩
      have : i = n := by omega
      subst this
      exact h2 a _ _
    | succ k ih =>
      intro i N M hi hN hM a
      obtain ⟨N, rfl⟩ : ∃ K, N = K + 1 := ⟨N - 1, by omega⟩
      obtain ⟨M, rfl⟩ : ∃ K, M = K + 1 := ⟨M - 1, by omega⟩
      exact h1 i a _ _ (by omega) fun a' => ih (i + 1) N M (by omega) (by omega) (by omega) a'
  exact key n 0 N M (by omega) hN hM a

/-- A size is told, and a datum whose size is told is within it. -/
def SzOk (f : Int → Option Int) (P : Prop) : Prop := ∀ a, 0 ≤ a → a ≤ 1048576 → ∃ r, f a = some r ∧ (r < 0 ∨ (0 ≤ r ∧ r ≤ a ∧ P))

theorem SzOk.mono {f : Int → Option Int} {P Q : Prop} (h : SzOk f P) (hq : P → Q) : SzOk f Q := fun a h1 h2 => by
  obtain ⟨r, e, h3⟩ := h a h1 h2
  exact ⟨r, e, h3.imp id fun h => ⟨h.1, h.2.1, hq h.2.2⟩⟩

theorem SzOk.last {f : Int → Option Int} {P : Prop} (h : SzOk f P) : SzOk (fun a => (f a).bind fun r => bif decide (r < 0) then some (-1) else some r) P := fun a h1 h2 => by
  obtain ⟨r, e, h3⟩ := h a h1 h2
  show ∃ r, ((f a).bind _) = _ ∧ _
  rw [e]
  rcases h3 with h3 | h3
  · exact ⟨-1, by show (bif _ then _ else _) = _; rw [dT h3]; rfl, .inl (by omega)⟩
  · exact ⟨r, by show (bif _ then _ else _) = _; rw [dF (by omega)]; rfl, .inr h3⟩

theorem SzOk.bind {f g : Int → Option Int} {P Q : Prop} (h : SzOk f P) (hg : SzOk g Q) : SzOk (fun a => (f a).bind fun r => bif decide (r < 0) then some (-1) else g r) (P ∧ Q) := fun a h1 h2 => by
  obtain ⟨r, e, h3⟩ := h a h1 h2
  show ∃ r, ((f a).bind _) = _ ∧ _
  rw [e]
  rcases h3 with h3 | h3
  · exact ⟨-1, by show (bif _ then _ else _) = _; rw [dT h3]; rfl, .inl (by omega)⟩
  · obtain ⟨r', e', h4⟩ := hg r h3.1 (by omega)
    refine ⟨r', by show (bif _ then _ else _) = _; rw [dF (by omega)]; exact e', h4.imp id fun h => ⟨h.1, by omega, h3.2.2, h.2.2⟩⟩

theorem SzOk.len {n : Nat} (hn : n ≤ reachBytes) : SzOk (fun a => bif decide (wrap64 (a - (n : Int)) < 0) then some (-1) else some (wrap64 (a - (n : Int)))) (n ≤ 1048576) := fun a h1 h2 => by
  have hn : n ≤ 140737488355328 := by have := hn; unfold reachBytes at this; omega
  show ∃ r, (bif _ then _ else _) = _ ∧ _
  rw [w64 (by omega) (by omega)]
  by_cases h : a - (n : Int) < 0
  · exact ⟨-1, by rw [dT h]; rfl, .inl (by omega)⟩
  · exact ⟨_, by rw [dF h]; rfl, .inr ⟨by omega, by omega, by omega⟩⟩

theorem SzOk.len' {n : Nat} (hn : n ≤ reachBytes) {g : Int → Option Int} {Q : Prop} (hg : SzOk g Q) : SzOk (fun a => bif decide (wrap64 (a - (n : Int)) < 0) then some (-1) else g (wrap64 (a - (n : Int)))) (n ≤ 1048576 ∧ Q) := fun a h1 h2 => by
  have hn : n ≤ 140737488355328 := by have := hn; unfold reachBytes at this; omega
  show ∃ r, (bif _ then _ else _) = _ ∧ _
  rw [w64 (by omega) (by omega)]
  by_cases h : a - (n : Int) < 0
  · exact ⟨-1, by rw [dT h]; rfl, .inl (by omega)⟩
  · obtain ⟨r, e, h3⟩ := hg (a - n) (by omega) (by omega)
    exact ⟨_, by rw [dF h]; exact e, h3.imp id fun h => ⟨h.1, by omega, by omega, h.2.2⟩⟩

/-- The size of rows. -/
theorem sz_rows {t : Ty} {d : Den t} {L : List (Den t)} (hg : good (.sl t) L) {f : Den t → Int → Option Int} (hf : ∀ x, good t x → SzOk (f x) (okz t x)) {N : Nat} (hN : Big N)
    {B : ((List (Den t) × Int × Int) → Option Int) → (List (Den t) × Int × Int) → Option Int}
    (hB : ∀ rec_ s0 s1 s5, B rec_ (s0, s1, s5) = (bif (decide (s5 < (s0.length : Int))) then (bif (decide (0 ≤ s5) && decide (s5 < s0.length)) then (f (s0.getD s5.toNat d) s1).bind fun r1 => (bif (decide (r1 < (0 : Int))) then some (-1 : Int) else rec_ (s0, r1, (wrap64 (s5 + (1 : Int))))) else none) else some s1)) :
    SzOk (fun a => bif (decide ((wrap64 (a - (L.length : Int))) < (0 : Int))) then some (-1 : Int) else iter B N (L, (wrap64 (a - (L.length : Int))), (0 : Int))) (okz (.sl t) L) := by
  by_cases hL : L.length ≤ 1048576
  · refine SzOk.len' hg.1 (g := fun a => iter B N (L, a, 0)) (Q := ∀ y ∈ L, okz t y) ?_
    intro a h1 h2
    have key := iter_to (B := B) (A := {a : Int // 0 ≤ a ∧ a ≤ 1048576}) (fun i a => (L, a.1, (i : Int))) (fun i a r => ∃ k, r = some k ∧ (k < 0 ∨ (0 ≤ k ∧ k ≤ a.1 ∧ ∀ y ∈ L.drop i, okz t y))) L.length
      (fun i a rec_ hi h => by
        rw [hB]
        simp only [lt_rows L hi, le_rows i, Bool.and_self, cond_true]
        rw [getD_at L hi]
        obtain ⟨k, e, hk⟩ := hf L[i] (hg.2 _ (List.getElem_mem hi)) a.1 a.2.1 a.2.2
        rw [e, Option.bind_some]
        rcases hk with hk | hk
        · exact ⟨-1, by rw [dT hk]; rfl, .inl (by omega)⟩
        · rw [dF (by omega), w64_up (Nat.le_refl i) (by omega)]
          obtain ⟨k', e', hk'⟩ := h ⟨k, hk.1, by have := a.2.2; omega⟩
          refine ⟨k', e', hk'.imp id fun h => ⟨h.1, Int.le_trans h.2.1 hk.2.1, ?_⟩⟩
          rw [drop_cons hi]
          intro y hy
          rcases List.mem_cons.1 hy with rfl | hy
          · exact hk.2.2
          · exact h.2.2 y hy)
      (fun a rec_ => ⟨a.1, by rw [hB, dF (by omega)]; rfl, .inr ⟨a.2.1, Int.le_refl _, by rw [List.drop_length]; intro y hy; cases hy⟩⟩)
      N (by have hN : 1099511627776 ≤ N := hN; omega) ⟨a, h1, h2⟩
    rw [List.drop_zero] at key
    exact key
  · intro a h1 h2
    have := hg.1
    have hn : L.length ≤ 140737488355328 := by unfold reachBytes at this; omega
    show ∃ r, (bif _ then _ else _) = _ ∧ _
    rw [w64 (by omega) (by omega)]
    exact ⟨-1, by rw [dT (by omega)]; rfl, .inl (by omega)⟩

/-- A copy of rows. -/
theorem to_rows {t : Ty} {d : Den t} {L : List (Den t)} (hL : okz (.sl t) L) {f : Den t → Option (Den t)} (hf : ∀ x, okz t x → f x = some x) {N sz : Nat} (hN : Big N) (hsz : sz ≤ 1048576)
    {B : ((List (Den t) × List (Den t) × Int) → Option (List (Den t))) → (List (Den t) × List (Den t) × Int) → Option (List (Den t))}
    (hB : ∀ rec_ s0 s3 s4, B rec_ (s0, s3, s4) = (bif (decide (s4 < (s0.length : Int))) then (bif (decide (0 ≤ s4) && decide (s4 < s0.length)) then (f (s0.getD s4.toNat d)).bind fun r1 => (bif (decide (0 ≤ s4) && decide (s4 < s3.length)) then rec_ (s0, (s3.set s4.toNat r1), (wrap64 (s4 + (1 : Int)))) else none) else none) else some s3)) :
    (bif (decide ((L.length : Int) = (L.length : Int)) && (decide (0 ≤ (L.length : Int)) && (decide ((L.length : Int) * (sz : Nat) ≤ 140737488355328) && decide ((L.length : Int) ≤ 9223372036854775807)))) then iter B N (L, (List.replicate (L.length : Int).toNat d), (0 : Int)) else none) = some L := by
  have hl := hL.1
  have hN' : 1099511627776 ≤ N := hN
  have hm : L.length * sz ≤ 1048576 * 1048576 := Nat.mul_le_mul hl hsz
  have hm' : (L.length : Int) * (sz : Int) ≤ 140737488355328 := by
    have : ((L.length * sz : Nat) : Int) ≤ 140737488355328 := by omega
    rwa [Int.natCast_mul] at this
  rw [dT rfl, dT (by omega), dT hm', dT (by omega)]
  show iter B N (L, List.replicate ((L.length : Int)).toNat d, 0) = _
  rw [Int.toNat_natCast]
  have key := iter_to (B := B) (A := Unit) (fun i _ => (L, L.take i ++ List.replicate (L.length - i) d, (i : Int))) (fun i _ r => r = some L) L.length
    (fun i a rec_ hi h => by
      rw [hB]
      simp only [lt_rows L hi, le_rows i, Bool.and_self, cond_true]
      rw [getD_at L hi, hf _ (hL.2 _ (List.getElem_mem hi)), Option.bind_some, lt_rows (L.take i ++ List.replicate (L.length - i) d) (by simp; omega)]
      simp only [Bool.and_self, cond_true]
      rw [w64_up (Nat.le_refl i) (by omega), Int.toNat_natCast]
      have e : (L.take i ++ List.replicate (L.length - i) d).set i L[i] = L.take (i + 1) ++ List.replicate (L.length - (i + 1)) d := by
        have hlen : (L.take i).length = i := by simp; omega
        obtain ⟨m, hm⟩ : ∃ m, L.length - i = m + 1 := ⟨L.length - i - 1, by omega⟩
        have hm2 : L.length - (i + 1) = m := by omega
        rw [hm, hm2, List.set_append_right _ _ (by omega), hlen, Nat.sub_self, List.replicate_succ, List.set_cons_zero, List.take_succ_eq_append_getElem hi, List.append_assoc]
        rfl
      rw [e]
      exact h ())
    (fun a rec_ => by rw [hB, dF (by omega)]; simp)
    N (by omega) ()
  simpa using key

/-- Rows are like themselves. -/
theorem eq_rows {t : Ty} {d : Den t} {L : List (Den t)} (hL : okz (.sl t) L) {f : Den t → Den t → Option Bool} (hf : ∀ x, okz t x → f x x = some true) {N : Nat} (hN : Big N)
    {B : ((List (Den t) × List (Den t) × Int) → Option Bool) → (List (Den t) × List (Den t) × Int) → Option Bool}
    (hB : ∀ rec_ s0 s1 s5, B rec_ (s0, s1, s5) = (bif (decide (s5 < (s0.length : Int))) then (bif (decide (0 ≤ s5) && decide (s5 < s0.length)) then (bif (decide (0 ≤ s5) && decide (s5 < s1.length)) then (f (s0.getD s5.toNat d) (s1.getD s5.toNat d)).bind fun r1 => (bif (!r1) then some false else rec_ (s0, s1, (wrap64 (s5 + (1 : Int))))) else none) else none) else some true)) :
    (bif (!decide ((L.length : Int) = (L.length : Int))) then some false else iter B N (L, L, (0 : Int))) = some true := by
  have hl := hL.1
  have hN' : 1099511627776 ≤ N := hN
  rw [dT rfl]
  exact iter_to (B := B) (A := Unit) (fun i _ => (L, L, (i : Int))) (fun i _ r => r = some true) L.length
    (fun i a rec_ hi h => by
      rw [hB]
      simp only [lt_rows L hi, le_rows i, Bool.and_self, cond_true]
      rw [getD_at L hi, hf _ (hL.2 _ (List.getElem_mem hi)), Option.bind_some, w64_up (Nat.le_refl i) (by omega)]
      exact h ())
    (fun a rec_ => by rw [hB, dF (by omega)]; rfl) N (by omega) ()
end Go.Proofs.Yteadknjgpmnigaa.Nx
namespace Go.Proofs.Yteadknjgpmnigaa.Nx
open Go Go.RowKit

theorem w64_dn {k : Nat} (hk : k ≤ 140737488355328) : wrap64 (((k + 1 : Nat) : Int) - 1) = (k : Int) := by
  rw [w64 (by omega) (by omega)]; omega

/-- All of a row, by place. -/
def allI {α : Type} (p : Nat → α → Bool) : Nat → List α → Bool
  | _, [] => true
  | i, x :: xs => p i x && allI p (i + 1) xs

theorem allI_cons {α : Type} (p : Nat → α → Bool) (i : Nat) (x : α) (xs : List α) : allI p i (x :: xs) = (p i x && allI p (i + 1) xs) := rfl

/-- The place of the first. -/
def findI {α : Type} (p : α → Bool) : Nat → List α → Int
  | _, [] => -1
  | i, x :: xs => bif p x then i else findI p (i + 1) xs

theorem findI_cons {α : Type} (p : α → Bool) (i : Nat) (x : α) (xs : List α) : findI p i (x :: xs) = bif p x then (i : Int) else findI p (i + 1) xs := rfl

theorem findI_any {α : Type} (p : α → Bool) : ∀ (l : List α) (i : Nat), decide (0 ≤ findI p i l) = l.any p
  | [], i => rfl
  | x :: xs, i => by
    unfold findI
    rw [List.any_cons]
    cases p x
    · exact findI_any p xs (i + 1)
    · exact decide_eq_true (by show (0 : Int) ≤ (i : Int); omega)

theorem findI_or {α : Type} (p : α → Bool) : ∀ (l : List α) (i : Nat), findI p i l = -1 ∨ ∃ j, i ≤ j ∧ j < i + l.length ∧ findI p i l = (j : Int)
  | [], i => .inl rfl
  | x :: xs, i => by
    unfold findI
    cases p x
    · rcases findI_or p xs (i + 1) with h | ⟨j, h1, h2, h3⟩
      · exact .inl h
      · exact .inr ⟨j, by omega, by simp only [List.length_cons]; omega, h3⟩
    · exact .inr ⟨i, Nat.le_refl _, by simp only [List.length_cons]; omega, rfl⟩

theorem allI_all {α : Type} (p : α → Bool) : ∀ (l : List α) (i : Nat), allI (fun _ => p) i l = l.all p
  | [], i => rfl
  | x :: xs, i => by unfold allI; rw [List.all_cons, allI_all p xs]

/-- A loop that stops at the first that is wrong. -/
theorem iter_all {α σ R : Type} {B : (σ → Option R) → σ → Option R} (L : List α) (st : Nat → σ) (p : Nat → α → Bool) (a b : Option R)
    (h1 : ∀ i (h : i < L.length) rec_, B rec_ (st i) = bif p i L[i] then rec_ (st (i + 1)) else b) (h2 : ∀ rec_, B rec_ (st L.length) = a) {N : Nat} (hN : L.length < N) :
    iter B N (st 0) = bif allI p 0 L then a else b :=
  iter_row L st (fun i l => bif allI p i l then a else b) (fun i hi rec_ h => by rw [h1 i hi, h, allI_cons]; cases p i L[i] <;> rfl) (fun rec_ => h2 rec_) hN

/-- A row searched. -/
theorem index_func {α C : Type} {d : α} {L : List α} (hL : L.length ≤ 1099511627775) (c : C) {f : α → Option Bool} (p : α → Bool) (hf : ∀ x ∈ L, f x = some (p x)) {N : Nat} (hN : Big N)
    {B : ((List α × C × Int × Int) → Option Int) → (List α × C × Int × Int) → Option Int}
    (hB : ∀ rec_ s0 s7 s8, B rec_ (s0, c, s7, s8) = (bif (decide (s8 < s7)) then (bif (decide (0 ≤ s8) && decide (s8 < s0.length)) then (f (s0.getD s8.toNat d)).bind fun r1 => (bif r1 then some s8 else rec_ (s0, c, s7, (wrap64 (s8 + (1 : Int))))) else none) else some (-1))) :
    iter B N (L, c, (L.length : Int), (0 : Int)) = some (findI p 0 L) := by
  have hN' : 1099511627776 ≤ N := hN
  refine iter_row L (fun i => (L, c, (L.length : Int), (i : Int))) (fun i l => some (findI p i l)) (fun i hi rec_ h => ?_) (fun rec_ => ?_) (by omega)
  · rw [hB]
    simp only [lt_rows L hi, le_rows i, Bool.and_self, cond_true, getD_at L hi, w64_up (Nat.le_refl i) (by omega : i ≤ 140737488355328), h, hf _ (List.getElem_mem hi), Option.bind_some]
    rw [findI_cons]
    cases p L[i] <;> rfl
  · rw [hB, dF (Int.lt_irrefl _)]; rfl
end Go.Proofs.Yteadknjgpmnigaa.Nx
