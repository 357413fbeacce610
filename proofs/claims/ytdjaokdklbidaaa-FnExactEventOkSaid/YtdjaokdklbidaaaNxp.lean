/- The contract of a function, and rows of law: sound, with no condition beyond those each lemma names. -/
import Derived.Test.YtdjaokdklbidaaaNxo
set_option linter.unusedVariables false
set_option linter.unusedSimpArgs false
namespace Go.Proofs.Ytdjaokdklbidaaa.Nx
open Go Go.RowKit

def lenP : PK → Nat
  | .un => 0
  | .d _ => 1
  | .ip _ => 1
  | .fn _ _ => 1
  | .pr a b => lenP a + lenP b

theorem capT_len : ∀ (p : PK) (a : DenP p), (capT p a).length = lenP p
  | .un, _ => rfl
  | .d _, _ => rfl
  | .ip _, _ => rfl
  | .fn _ _, _ => rfl
  | .pr a b, x => by simp [capT, lenP, capT_len a, capT_len b]

/-- All contracts of a list hold. -/
def AllOk (P : Program) : List CT → Prop
  | [] => True
  | ct :: Γ => CTok P ct ∧ AllOk P Γ

theorem AllOk.mem {P : Program} : ∀ {Γ : List CT}, AllOk P Γ → ∀ ct ∈ Γ, CTok P ct
  | [], _, _, h => by cases h
  | c :: Γ, h, ct, hm => by
    rcases List.mem_cons.1 hm with rfl | hm
    · exact h.1
    · exact AllOk.mem h.2 ct hm

def LoopsOk {R : Type} (Γ : List CT) (Θ : TyO) (Λ : List (LC R)) (n : Nat) (res : TS → Option R) : List (LC R) → List (Nat × NC) → Prop
  | [], _ => True
  | l :: ls, bs => LoopEq Γ Θ Λ n res l (bs.headD (0, .skip)).2 ∧ LoopsOk Γ Θ Λ n res ls bs.tail

def idsOk {R : Type} (Λ : List (LC R)) (bs : List (Nat × NC)) : Bool :=
  nodupB (bs.map Prod.fst) && (bs.map Prod.fst == Λ.map LC.id)

theorem LoopEq.mk {R : Type} {Γ : List CT} {Θ : TyO} {Λ : List (LC R)} {n : Nat} {res : TS → Option R} {l : LC R} {B : NC} (N : Nat) (lp : ∀ (Ω : Type), (DenS l.x → Option Ω) → (R → Option Ω) → (DenS l.s → Option Ω) → DenS l.s → Option Ω)
    (h : ∀ (Ω : Type) (g : DenS l.s → Option Ω) (kx : DenS l.x → Option Ω) (kr : R → Option Ω) (s : DenS l.s),
      xrun Γ Θ Λ n res B (fun t => (mask n l.s t).bind g) (fun i t => bif Nat.beq i l.id then (mask n l.x t).bind kx else none) kr (mkS l.s s) = lp Ω kx kr g s)
    (h0 : (fun (Ω : Type) (kx : DenS l.x → Option Ω) (kr : R → Option Ω) => l.run kx kr) = fun Ω kx kr => iter (lp Ω kx kr) N := by rfl) : LoopEq Γ Θ Λ n res l B :=
  ⟨N, lp, fun Ω kx kr s => congrFun (congrFun (congrFun (congrFun h0 Ω) kx) kr) s, h⟩

theorem loops_at {R : Type} {Γ : List CT} {Θ : TyO} {Λ0 : List (LC R)} {n : Nat} {res : TS → Option R} : ∀ {Λ : List (LC R)} {bs : List (Nat × NC)}, (bs.map Prod.fst).Nodup → bs.map Prod.fst = Λ.map LC.id → LoopsOk Γ Θ Λ0 n res Λ bs →
    ∀ id B, (id, B) ∈ bs → ∀ l, lcAt Λ id = some l → LoopEq Γ Θ Λ0 n res l B
  | [], [], _, _, _, id, B, hm, _, _ => by cases hm
  | [], _ :: _, _, h, _, _, _, _, _, _ => by cases h
  | _ :: _, [], _, h, _, _, _, _, _, _ => by cases h
  | l0 :: Λ, b :: bs, hn, he, hl, id, B, hm, l, hlc => by
    simp only [List.map_cons, List.cons.injEq] at he
    rw [List.map_cons] at hn
    obtain ⟨n1, n2⟩ := List.nodup_cons.1 hn
    rcases List.mem_cons.1 hm with rfl | hm
    · simp only [lcAt] at hlc
      have : Nat.beq l0.id id = true := by rw [Nat.beq_eq]; exact he.1.symm
      rw [this, cond_true] at hlc
      cases hlc
      exact hl.1
    · simp only [lcAt] at hlc
      have : Nat.beq l0.id id = false := by
        rw [← Bool.not_eq_true, Nat.beq_eq]
        intro e
        exact n1 (by rw [he.1, e]; exact List.mem_map.2 ⟨_, hm, rfl⟩)
      rw [this, cond_false] at hlc
      exact loops_at n2 he.2 hl.2 id B hm l hlc

/-- A function's data are its contract. -/
theorem CT_ok {P : Program} {f : FuncId} {Γ : List CT} {Θ : TyO} {p : PK} {R : RK} {Λ : List (LC (DenR R))} {F : DenP p → Option (DenR R)} (hs : (nFn P f).isSome = true) (hm : P.follows .mixedOrders = true) (hΓ : AllOk P Γ)
    (hi : idsOk Λ (loopsOf (nfOf P f).body) = true) (hl : LoopsOk Γ Θ Λ (nfOf P f).n (resOf (nfOf P f).n R (nfOf P f).res) Λ (loopsOf (nfOf P f).body)) (hp : Nat.ble (lenP p) (nfOf P f).n = true)
    (hF : ∀ a, xfn Γ Θ (nfOf P f) p R Λ a = F a) : CTok P ⟨f, p, R, F⟩ := by
  obtain ⟨nf, hnf⟩ := Option.isSome_iff_exists.1 hs
  have e : nfOf P f = nf := by unfold nfOf; rw [hnf]; rfl
  rw [e] at hi hl hp hF
  have : F = xfn Γ Θ nf p R Λ := funext fun a => (hF a).symm
  rw [this]
  simp only [idsOk, Bool.and_eq_true, beq_iff_eq] at hi
  refine CT_of_x hnf hm (fun ct h => AllOk.mem hΓ ct h) (loops_at (nodupB_iff hi.1) hi.2 hl) fun a => ?_
  unfold argAV
  rw [List.length_map, capT_len]
  exact Nat.le_of_ble_eq_true hp
end Go.Proofs.Ytdjaokdklbidaaa.Nx

namespace Go.Proofs.Ytdjaokdklbidaaa.Nx
open Go Go.RowKit

mutual
/-- A shape's type. -/
def tyS : SH → Ty
  | .b => .bl
  | .i k => .i k
  | .s => .tx
  | .sl _ _ _ e => .sl (tyS e)
  | .st l => .st (tyL l)
def tyL : List SH → Ty
  | [] => .bl
  | [x] => tyS x
  | x :: y :: l => .pr (tyS x) (tyL (y :: l))
end

mutual
def okS : SH → Bool
  | .sl sz b ag e => Nat.beq sz (tyS e).sz && (Nat.blt 0 b && (ag == (tyS e).ag && okS e))
  | .st l => !l.isEmpty && okL l
  | _ => true
def okL : List SH → Bool
  | [] => true
  | x :: l => okS x && okL l
end

/-- Data that memory can hold. -/
def good : (T : Ty) → Den T → Prop
  | .i k, x => k.min ≤ x ∧ x ≤ k.max
  | .bl, _ => True
  | .tx, x => x.size ≤ reachBytes
  | .sl t, x => x.length ≤ reachBytes ∧ ∀ y ∈ x, good t y
  | .pr a b, x => good a x.1 ∧ good b x.2
  | .st t, x => good t x

mutual
theorem shC_den : ∀ (sh : SH), okS sh = true → ∀ xs, shC sh xs → ∃ d : Den (tyS sh), xs = cls false (tyS sh) d ∧ good (tyS sh) d
  | .b, _, xs, h => by
    obtain ⟨b, rfl⟩ := h
    exact ⟨b, rfl, trivial⟩
  | .i k, _, xs, h => by
    obtain ⟨n, h1, h2, rfl⟩ := h
    exact ⟨n, rfl, h1, h2⟩
  | .s, _, xs, h => by
    obtain ⟨t, h1, rfl⟩ := h
    exact ⟨t, rfl, h1⟩
  | .sl sz b ag e, hok, xs, h => by
    simp only [okS, Bool.and_eq_true, Nat.beq_eq, Nat.blt_eq, beq_iff_eq] at hok
    obtain ⟨rfl, hb, rfl, he⟩ := hok
    obtain ⟨rows, h1, h2, rfl⟩ := h
    have : ∃ L : List (Den (tyS e)), rows = L.map (cls false (tyS e)) ∧ ∀ y ∈ L, good (tyS e) y := by
      clear h2
      induction rows with
      | nil => exact ⟨[], rfl, fun _ h => by cases h⟩
      | cons r rows ih =>
        obtain ⟨d, e1, e2⟩ := shC_den e he r (h1 r (by simp))
        obtain ⟨L, e3, e4⟩ := ih fun r hr => h1 r (by simp [hr])
        refine ⟨d :: L, by rw [e1, e3]; rfl, fun y hy => ?_⟩
        rcases List.mem_cons.1 hy with rfl | hy
        · exact e2
        · exact e4 y hy
    obtain ⟨L, rfl, hg⟩ := this
    refine ⟨L, ?_, ?_, hg⟩
    · show [AV.sl false (tyS e).sz ((L.map (cls false (tyS e))).map (mkr (tyS e).ag))] = [AV.sl false (tyS e).sz (L.map fun y => mkr (tyS e).ag (cls false (tyS e) y))]
      rw [List.map_map]; rfl
    · rw [List.length_map] at h2
      exact Nat.le_trans (Nat.le_mul_of_pos_right _ hb) h2
  | .st l, hok, xs, h => by
    simp only [okS, Bool.and_eq_true, Bool.not_eq_true', List.isEmpty_eq_false_iff] at hok
    exact shCs_den l hok.1 hok.2 xs h
theorem shCs_den : ∀ (l : List SH), l ≠ [] → okL l = true → ∀ xs, shCs l xs → ∃ d : Den (tyL l), xs = cls false (tyL l) d ∧ good (tyL l) d
  | [], h0, _, _, _ => absurd rfl h0
  | [x], _, hok, xs, h => by
    simp only [okL, Bool.and_eq_true] at hok
    obtain ⟨ys, zs, h1, h2, rfl⟩ := h
    obtain ⟨d, e1, e2⟩ := shC_den x hok.1 ys h1
    have h2 : zs = [] := h2
    subst h2
    exact ⟨d, by rw [List.append_nil, e1]; rfl, e2⟩
  | x :: y :: l, _, hok, xs, h => by
    simp only [okL, Bool.and_eq_true] at hok
    obtain ⟨ys, zs, h1, h2, rfl⟩ := h
    obtain ⟨d, e1, e2⟩ := shC_den x hok.1 ys h1
    obtain ⟨d', e3, e4⟩ := shCs_den (y :: l) (by simp) (by simp only [okL, Bool.and_eq_true]; exact hok.2) zs h2
    exact ⟨(d, d'), by rw [e1, e3]; rfl, e2, e4⟩
end

/-- A type's shape, as a type of data. -/
def shTy (P : Program) (m : Nat) (t : TypeId) (T : Ty) : Bool :=
  match shOf P m t with
  | some sh => okS sh && (decide (tyS sh = T) && (isAggB P t == T.ag))
  | none => false

section
variable {H : Type} {enc : TypeId × Value → H} {P : Program} {W : World} {spare : Nat → Bool} {held : Bool} {M : MT}

/-- An argument as a datum. -/
theorem arg_den {m base : Nat} {t : TypeId} {T : Ty} (hsh : shTy P m t T = true) {v : Value} {d : DataW H} {ps : List MemPlace} (hok : Value.okWide P W .any base t v) (ht : DataW.Trod enc P W 0 spare held t v d ps) (hw : ∀ n ∈ DataW.weights P t d, n ≤ reachBytes) :
    ∃ x : Den T, good T x ∧ Rep W (oldN W) M (Nx.enc false T x) v [] := by
  unfold shTy at hsh
  split at hsh
  · rename_i sh hs
    simp only [Bool.and_eq_true, decide_eq_true_eq, beq_iff_eq] at hsh
    obtain ⟨h1, rfl, h3⟩ := hsh
    obtain ⟨xs, k1, k2⟩ := arg_av (M := M) hs hok ht hw
    obtain ⟨x, rfl, k3⟩ := shC_den sh h1 xs k1
    rw [h3] at k2
    exact ⟨x, k3, k2⟩
  · cases hsh
end

/-- A law's contract, called. -/
theorem law_calls {P : Program} {W : World} {p : PK} {F : DenP p → Option Bool} {f : FuncId} (hc : CTok P ⟨f, p, .t .bl, F⟩) {a : DenP p} (hF : F a = some true) {vs : List Value} (hr : RepL W (oldN W) (fun _ => none) (argAV p a) vs []) :
    Calls P f ⟨vs⟩ W fun e W' => e = .returned (.bool true) ∧ Below W.heap.size W W' :=
  row_calls (hc a true hF) hr
end Go.Proofs.Ytdjaokdklbidaaa.Nx
