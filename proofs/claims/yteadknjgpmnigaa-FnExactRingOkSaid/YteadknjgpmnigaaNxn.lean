/- What is packed anew and masked: sound, with no condition beyond those each lemma names. -/
import Derived.Test.YteadknjgpmnigaaNxm
set_option linter.unusedVariables false
set_option linter.unusedSimpArgs false
namespace Go.Proofs.Yteadknjgpmnigaa.Nx
open Go Go.RowKit

/-- Cells and the cells of the same data in blocks that are numbered anew. -/
inductive SR (hp : THP) : Nat → List TV → List TV → List (Option Nat) → List TB → Prop
  | nil (base : Nat) : SR hp base [] [] [] []
  | leaf {base : Nat} {c : TV} {cs cs' : List TV} {l : List (Option Nat)} {B : List TB} : (∃ A y, c = .v A y ∧ A.flat = true ∧ A.ag = false) → SR hp base cs cs' l B → SR hp base (c :: cs) (c :: cs') l B
  | own {base j : Nat} {A : Ty} {o : Bool} {L : List (Den A)} {cs cs' : List TV} {l : List (Option Nat)} {B : List TB} : hp[j]? = some (some (.arr A o L)) → (o || A.flat) = true → SR hp (base + 1) cs cs' l B →
      SR hp base (.own j :: cs) (.own base :: cs') (some j :: l) (.arr A true L :: B)
  | none {base : Nat} {A : Ty} {cs cs' : List TV} {l : List (Option Nat)} {B : List TB} : SR hp (base + 1) cs cs' l B → SR hp base (.nil :: cs) (.own base :: cs') (none :: l) (.arr A true [] :: B)

theorem SR.len {hp : THP} {base : Nat} {cs cs' : List TV} {l : List (Option Nat)} {B : List TB} (h : SR hp base cs cs' l B) : B.length = l.length ∧ cs'.length = cs.length := by
  induction h with
  | nil => exact ⟨rfl, rfl⟩
  | leaf _ _ ih => exact ⟨ih.1, by simp [ih.2]⟩
  | own _ _ _ ih => exact ⟨by simp [ih.1], by simp [ih.2]⟩
  | none _ ih => exact ⟨by simp [ih.1], by simp [ih.2]⟩

theorem SR.append {hp : THP} {base : Nat} {cs cs' : List TV} {l : List (Option Nat)} {B : List TB} (h : SR hp base cs cs' l B) {ds ds' : List TV} {m : List (Option Nat)} {D : List TB} : SR hp (base + B.length) ds ds' m D →
    SR hp base (cs ++ ds) (cs' ++ ds') (l ++ m) (B ++ D) := by
  induction h with
  | nil => intro k; simpa using k
  | leaf h1 _ ih => intro k; exact .leaf h1 (ih k)
  | own h1 h2 _ ih => intro k; exact .own h1 h2 (ih (by simpa [Nat.add_assoc, Nat.add_comm 1] using k))
  | none _ ih => intro k; exact .none (ih (by simpa [Nat.add_assoc, Nat.add_comm 1] using k))

theorem srcC_spec (hp : THP) : ∀ (T : Ty) (cs : List TV) (x : Den T) (l : List (Option Nat)) (r : List TV), srcC hp T cs = some (x, l, r) → ∃ c1, cs = c1 ++ r ∧ ∀ base, SR hp base c1 (rsC base T x).1 l (rsC base T x).2 := by
  intro T
  induction T with
  | i k =>
    intro cs y l r h
    cases cs with
    | nil => cases h
    | cons c cs =>
      simp only [srcC] at h
      split at h
      · split at h
        · rename_i hz
          cases h
          obtain ⟨rfl, hz⟩ := cst_some hz
          cases hz
          exact ⟨[_], rfl, fun base => .leaf ⟨_, _, rfl, rfl, rfl⟩ (.nil _)⟩
        · cases h
      · cases h
  | bl =>
    intro cs y l r h
    cases cs with
    | nil => cases h
    | cons c cs =>
      simp only [srcC] at h
      split at h
      · split at h
        · rename_i hz
          cases h
          obtain ⟨rfl, hz⟩ := cst_some hz
          cases hz
          exact ⟨[_], rfl, fun base => .leaf ⟨_, _, rfl, rfl, rfl⟩ (.nil _)⟩
        · cases h
      · cases h
  | tx =>
    intro cs y l r h
    cases cs with
    | nil => cases h
    | cons c cs =>
      simp only [srcC] at h
      split at h
      · split at h
        · rename_i hz
          cases h
          obtain ⟨rfl, hz⟩ := cst_some hz
          cases hz
          exact ⟨[_], rfl, fun base => .leaf ⟨_, _, rfl, rfl, rfl⟩ (.nil _)⟩
        · cases h
      · cases h
  | sl t _ =>
    intro cs y l r h
    cases cs with
    | nil => cases h
    | cons c cs =>
      simp only [srcC] at h
      split at h
      · split at h
        · rename_i A o Lx e
          cases ho : (o || A.flat) with
          | false => rw [ho] at h; cases h
          | true =>
            rw [ho, cond_true] at h
            split at h
            · rename_i hz
              cases h
              obtain ⟨e1, hz⟩ := cst_some hz
              cases e1
              cases hz
              exact ⟨[_], rfl, fun base => .own e ho (.nil _)⟩
            · cases h
        · cases h
      · cases h
        exact ⟨[_], rfl, fun base => .none (.nil _)⟩
      · cases h
  | pr a b iha ihb =>
    intro cs y l r h
    simp only [srcC] at h
    split at h
    · rename_i h1
      split at h
      · rename_i h2
        cases h
        obtain ⟨c1, rfl, k1⟩ := iha _ _ _ _ h1
        obtain ⟨c2, rfl, k2⟩ := ihb _ _ _ _ h2
        exact ⟨c1 ++ c2, by simp, fun base => (k1 base).append (k2 _)⟩
      · cases h
    · cases h
  | st t ih =>
    intro cs y l r h
    exact ih cs y l r h

/-- A key for nothing. -/
def vcn (sz : Nat) : Cn := { b := 0, o := 0, sz := sz, len := 0, fr := 0, virt := true }

/-- How blocks are numbered anew. -/
structure At (M M' : MT) (ℓ ℓ' : Nat → List (Nat × Nat)) (hpT : THP) (base : Nat) (l : List (Option Nat)) (B : List TB) : Prop where
  hp : ∀ i b, B[i]? = some b → hpT[base + i]? = some (some b)
  so : ∀ i j, l[i]? = some (some j) → M' (base + i) = M j ∧ ℓ' (base + i) = ℓ j
  no : ∀ i b, l[i]? = some none → B[i]? = some b → M' (base + i) = some (some (vcn (tb hpT b).sz)) ∧ ℓ' (base + i) = []

theorem At.left {M M' : MT} {ℓ ℓ' : Nat → List (Nat × Nat)} {hpT : THP} {base : Nat} {l m : List (Option Nat)} {B D : List TB} (h : At M M' ℓ ℓ' hpT base (l ++ m) (B ++ D)) (hl : B.length = l.length) : At M M' ℓ ℓ' hpT base l B := by
  refine ⟨fun i b e => h.hp i b ?_, fun i j e => h.so i j ?_, fun i b e e' => h.no i b ?_ ?_⟩
  · rw [List.getElem?_append_left (List.getElem?_eq_some_iff.1 e).1]; exact e
  · rw [List.getElem?_append_left (List.getElem?_eq_some_iff.1 e).1]; exact e
  · rw [List.getElem?_append_left (List.getElem?_eq_some_iff.1 e).1]; exact e
  · rw [List.getElem?_append_left (List.getElem?_eq_some_iff.1 e').1]; exact e'

theorem At.right {M M' : MT} {ℓ ℓ' : Nat → List (Nat × Nat)} {hpT : THP} {base : Nat} {l m : List (Option Nat)} {B D : List TB} (h : At M M' ℓ ℓ' hpT base (l ++ m) (B ++ D)) (hl : B.length = l.length) : At M M' ℓ ℓ' hpT (base + B.length) m D := by
  refine ⟨fun i b e => ?_, fun i j e => ?_, fun i b e e' => ?_⟩
  · rw [Nat.add_assoc]
    exact h.hp (B.length + i) b (by rw [List.getElem?_append_right (by omega), Nat.add_sub_cancel_left]; exact e)
  · rw [Nat.add_assoc]
    exact h.so (B.length + i) j (by rw [hl, List.getElem?_append_right (by omega), Nat.add_sub_cancel_left]; exact e)
  · rw [Nat.add_assoc]
    exact h.no (B.length + i) b (by rw [hl, List.getElem?_append_right (by omega), Nat.add_sub_cancel_left]; exact e) (by rw [List.getElem?_append_right (by omega), Nat.add_sub_cancel_left]; exact e')

/-- Data have no keys. -/
theorem low_mkr {n : Nat} {ag : Bool} {l : List AV} (h : lowL n l = true) : (mkr ag l).low n = true := by
  unfold mkr
  split
  · exact h
  · cases l with
    | nil => rfl
    | cons c l => simp only [lowL, Bool.and_eq_true] at h; exact h.1

theorem low_cls (n : Nat) (o : Bool) : ∀ (T : Ty) (x : Den T), lowL n (cls o T x) = true := by
  intro T
  induction T with
  | i | bl | tx => intro x; rfl
  | sl t ih =>
    intro x
    simp only [cls, lowL, AV.low, Bool.and_true]
    rw [lowL_all, List.all_eq_true]
    intro c hc
    obtain ⟨y, _, rfl⟩ := List.mem_map.1 hc
    exact low_mkr (ih y)
  | pr a b iha ihb => intro x; simp only [cls]; rw [lowL_append, iha, ihb]; rfl
  | st t ih => intro x; exact ih x

theorem low_rows (n : Nat) (o : Bool) (T : Ty) (L : List (Den T)) : lowL n ((L.map (enc o T)).flatMap AV.cells) = true := by
  rw [lowL_flat, lowL_all, List.all_map, List.all_eq_true]
  exact fun y _ => low_mkr (low_cls n o T y)

section
variable {w : World} {N N' : NT} {M M' : MT} {ℓ ℓ' : Nat → List (Nat × Nat)} {hp hpT : THP}

theorem RepC.data (hN : ∀ b o, N b o → N' b o) {xs : List AV} {b o : Nat} {K : List Nat} (hl : lowL 0 xs = true) (r : RepC w N M b o xs K) : RepC w N' M' b o xs K := by
  have r1 := r.lowM (M' := M') (n := 0) (fun j hj => by omega) hl
  exact r1.gr ⟨fun _ c _ _ h => ⟨c, h, rfl⟩, fun _ _ _ => rfl, hN, fun _ x h => ⟨x, h, fun m hm => ⟨m, hm, .inl rfl⟩⟩⟩ (fun _ _ => rfl) (fun _ _ _ => rfl)

theorem hpk_at {j : Nat} {b : TB} (h : hpT[j]? = some (some b)) : hpk hpT j = some b.rlen := by simp [hpk, h]

/-- A slice in its block anew. -/
theorem rep_own {j i : Nat} {A : Ty} {o : Bool} {L : List (Den A)} (h1 : hp[j]? = some (some (.arr A o L))) (h2 : hpT[i]? = some (some (.arr A true L))) (hM : M' i = M j) {v : Value}
    (r : Rep w N M (av hp (.own j)) v []) : Rep w N' M' (av hpT (.own i)) v [] := by
  rw [av_own (hpk_arr h1)] at r
  rw [av_own (hpk_arr h2)]
  cases r with
  | ref mm h3 h4 => exact .ref mm (by rw [hM]; exact h3) h4

theorem rep_none {i : Nat} {A : Ty} {sz : Nat} (h2 : hpT[i]? = some (some (.arr A true []))) (hM : M' i = some (some (vcn sz))) {v : Value} (r : Rep w N M (av hp .nil) v []) : Rep w N' M' (av hpT (.own i)) v [] := by
  rw [av_own (hpk_arr h2)]
  cases r
  exact .ref _ hM fun m hm => by
    cases hm
    exact ⟨Nat.le_refl _, fun _ => ⟨Nat.le_refl _, .inl ⟨rfl, rfl⟩⟩⟩

/-- The cells anew. -/
theorem SR.cells {base : Nat} {cs cs' : List TV} {l : List (Option Nat)} {B : List TB} (h : SR hp base cs cs' l B) : At M M' ℓ ℓ' hpT base l B → ∀ {vs : List Value}, RepL w N M (cs.map (av hp)) vs [] → RepL w N' M' (cs'.map (av hpT)) vs [] := by
  induction h with
  | nil => intro _ vs r; cases r; exact .nil
  | leaf h1 _ ih =>
    intro hA vs r
    generalize hK : ([] : List Nat) = K at r
    cases r with
    | cons hx ht =>
      obtain ⟨rfl, rfl⟩ := List.append_eq_nil_iff.1 hK.symm
      refine .cons (L1 := []) (L2 := []) ?_ (ih hA ht)
      obtain ⟨A, y, rfl, hf, hag⟩ := h1
      cases A <;> first | (cases hf; done) | (cases hag; done) | (cases hx; exact .val _)
  | own h1 h2 _ ih =>
    intro hA vs r
    generalize hK : ([] : List Nat) = K at r
    cases r with
    | cons hx ht =>
      obtain ⟨rfl, rfl⟩ := List.append_eq_nil_iff.1 hK.symm
      have hA' := At.right (l := [_]) (B := [_]) hA rfl
      refine .cons (L1 := []) (L2 := []) ?_ (ih hA' ht)
      have e1 := hA.hp 0 _ rfl
      have e2 := (hA.so 0 _ rfl).1
      exact rep_own h1 (by simpa using e1) (by simpa using e2) hx
  | none _ ih =>
    intro hA vs r
    generalize hK : ([] : List Nat) = K at r
    cases r with
    | cons hx ht =>
      obtain ⟨rfl, rfl⟩ := List.append_eq_nil_iff.1 hK.symm
      have hA' := At.right (l := [_]) (B := [_]) hA rfl
      refine .cons (L1 := []) (L2 := []) ?_ (ih hA' ht)
      have e1 := hA.hp 0 _ rfl
      have e2 := (hA.no 0 _ rfl rfl).1
      exact rep_none (by simpa using e1) (by simpa using e2) hx

theorem SR.c1 {base : Nat} {cs cs' : List TV} {l : List (Option Nat)} {B : List TB} (h : SR hp base cs cs' l B) : At M M' ℓ ℓ' hpT base l B → (∀ c ∈ cs, c.c1 hp = true) ∧ ∀ c ∈ cs', c.c1 hpT = true := by
  induction h with
  | nil => intro _; exact ⟨fun _ h => (by cases h), fun _ h => by cases h⟩
  | leaf h1 _ ih =>
    intro hA
    obtain ⟨A, y, rfl, hf, hag⟩ := h1
    have hl : ∀ hp, (TV.v A y).c1 hp = true := fun hp => by cases A <;> first | rfl | cases hag
    obtain ⟨k1, k2⟩ := ih hA
    refine ⟨fun c hc => ?_, fun c hc => ?_⟩ <;> rcases List.mem_cons.1 hc with rfl | hc
    · exact hl _
    · exact k1 c hc
    · exact hl _
    · exact k2 c hc
  | own h1 h2 _ ih =>
    intro hA
    obtain ⟨k1, k2⟩ := ih (At.right (l := [_]) (B := [_]) hA rfl)
    have e1 := hA.hp 0 _ rfl
    rw [Nat.add_zero] at e1
    refine ⟨fun c hc => ?_, fun c hc => ?_⟩ <;> rcases List.mem_cons.1 hc with rfl | hc
    · simp [TV.c1, isArr, hpk_arr h1]
    · exact k1 c hc
    · simp [TV.c1, isArr, hpk_arr e1]
    · exact k2 c hc
  | none _ ih =>
    intro hA
    obtain ⟨k1, k2⟩ := ih (At.right (l := [_]) (B := [_]) hA rfl)
    have e1 := hA.hp 0 _ rfl
    rw [Nat.add_zero] at e1
    refine ⟨fun c hc => ?_, fun c hc => ?_⟩ <;> rcases List.mem_cons.1 hc with rfl | hc
    · rfl
    · exact k1 c hc
    · simp [TV.c1, isArr, hpk_arr e1]
    · exact k2 c hc

/-- A block of data anew. -/
theorem hb_own (hN : ∀ b o, N b o → N' b o) (hH : ∀ (i : Nat) (x : Option Blk), (toHP hp)[i]? = some x → HB w N M i x (ℓ i)) {j i : Nat} {A : Ty} {o : Bool} {L : List (Den A)} (h1 : hp[j]? = some (some (.arr A o L))) (h2 : (o || A.flat) = true)
    (hM : M' i = M j) (hl : ℓ' i = ℓ j) : HB w N' M' i (some (tb hpT (.arr A true L))) (ℓ' i) := by
  obtain ⟨m, L1, q1, q2, q3⟩ := hH j _ (by rw [toHP_get, h1]; rfl)
  have e : tb hp (.arr A o L) = tb hpT (.arr A true L) := by
    simp only [tb]
    congr 1
    refine List.map_congr_left fun y _ => ?_
    unfold enc
    cases o with
    | true => rfl
    | false => rw [cls_flat (by simpa using h2)]
  rw [e] at q2
  refine ⟨m, L1, by rw [hM]; exact q1, ⟨q2.len, q2.sz, q2.fr, q2.cl, q2.rep.data hN (low_rows 0 true A L), q2.vt, q2.rm, q2.lo, fun i hi => hN _ _ (q2.fz i hi), q2.f0⟩, by rw [hl]; exact q3⟩

theorem hb_none {i : Nat} {A : Ty} (hM : M' i = some (some (vcn (tb hpT (.arr A true [])).sz))) (hl : ℓ' i = []) : HB w N' M' i (some (tb hpT (.arr A true []))) (ℓ' i) := by
  refine ⟨_, [], hM, ⟨rfl, rfl, Nat.zero_le _, fun y hy => (by cases hy), .nil _ _, fun _ => rfl, (fun e => by cases e), Nat.le_refl _, fun i hi => by simp [tb] at hi, fun _ => rfl⟩, ?_⟩
  rw [hl]; rfl

theorem SR.blocks (hN : ∀ b o, N b o → N' b o) (hH : ∀ (i : Nat) (x : Option Blk), (toHP hp)[i]? = some x → HB w N M i x (ℓ i)) {base : Nat} {cs cs' : List TV} {l : List (Option Nat)} {B : List TB} (h : SR hp base cs cs' l B) :
    At M M' ℓ ℓ' hpT base l B → ∀ i b, B[i]? = some b → HB w N' M' (base + i) (some (tb hpT b)) (ℓ' (base + i)) := by
  induction h with
  | nil => intro _ i b h; simp at h
  | leaf _ _ ih => exact ih
  | own h1 h2 _ ih =>
    intro hA i b hb
    cases i with
    | zero =>
      simp only [List.getElem?_cons_zero, Option.some.injEq] at hb
      subst hb
      obtain ⟨e1, e2⟩ := hA.so 0 _ rfl
      exact hb_own hN hH h1 h2 e1 e2
    | succ i =>
      have := ih (At.right (l := [_]) (B := [_]) hA rfl) i b (by simpa using hb)
      rw [Nat.add_assoc, Nat.add_comm 1 i] at this; exact this
  | none _ ih =>
    intro hA i b hb
    cases i with
    | zero =>
      simp only [List.getElem?_cons_zero, Option.some.injEq] at hb
      subst hb
      obtain ⟨e1, e2⟩ := hA.no 0 _ rfl rfl
      exact hb_none e1 e2
    | succ i =>
      have := ih (At.right (l := [_]) (B := [_]) hA rfl) i b (by simpa using hb)
      rw [Nat.add_assoc, Nat.add_comm 1 i] at this; exact this

theorem cavs {cs : List TV} (h : ∀ c ∈ cs, c.c1 hp = true) : cs.map (cav hp) = cs.map (av hp) :=
  List.map_congr_left fun c hc => by unfold cav; rw [h c hc]; rfl

/-- A variable's block anew. -/
theorem hb_box (hN : ∀ b o, N b o → N' b o) (hH : ∀ (i : Nat) (x : Option Blk), (toHP hp)[i]? = some x → HB w N M i x (ℓ i)) {base : Nat} {cs cs' : List TV} {l : List (Option Nat)} {B : List TB} (h : SR hp base cs cs' l B) (hA : At M M' ℓ ℓ' hpT base l B)
    {j i : Nat} (h1 : hp[j]? = some (some (.box cs))) (hM : M' i = M j) (hl : ℓ' i = ℓ j) : HB w N' M' i (some (tb hpT (.box cs'))) (ℓ' i) := by
  obtain ⟨m, L1, q1, q2, q3⟩ := hH j _ (by rw [toHP_get, h1]; rfl)
  obtain ⟨c1, c2⟩ := h.c1 hA
  have hcl := h.len.2
  have r := q2.rep
  simp only [tb, List.flatMap_cons, List.flatMap_nil, List.append_nil, AV.cells, cavs c1] at r
  have : L1 = [] := r.bare fun x hx => by
    obtain ⟨c, hc, rfl⟩ := List.mem_map.1 hx
    exact c1_bare (c1 c hc)
  subst this
  obtain ⟨vs, v1, v2, v3⟩ := r.values
  have r' := RepC.of_values (o := m.o) (b := m.b) (h.cells (N' := N') hA v1) fun i hi => by
    rw [v2] at hi
    exact v3 i hi
  refine ⟨m, [], by rw [hM]; exact q1, ⟨q2.len, by rw [q2.sz]; simp [tb, hcl], by simp [tb, hcl]; have := q2.fr; simpa [tb] using this, ?_, ?_, fun e => ?_, ?_, q2.lo, fun i hi => by simp [tb] at hi, fun _ => q2.f0 rfl⟩, by rw [hl]; exact q3⟩
  · intro y hy
    simp only [tb, List.mem_singleton] at hy
    subst hy; simp [tb, AV.cells]
  · simp only [tb, List.flatMap_cons, List.flatMap_nil, List.append_nil, AV.cells, cavs c2]
    exact r'
  · have := q2.vt e
    simp [tb] at this
  · exact q2.rm
end
end Go.Proofs.Yteadknjgpmnigaa.Nx

namespace Go.Proofs.Yteadknjgpmnigaa.Nx
open Go Go.RowKit

theorem somes_mem {l : List (Option Nat)} {j : Nat} : j ∈ somes l ↔ some j ∈ l := by
  induction l with
  | nil => simp [somes]
  | cons x l ih => cases x <;> simp [somes, ih]

section
variable {C : Ctx} {n : Nat} {t : TS} {a : Act} {w : World} {N N' : NT} {M M' : MT} {ℓ ℓ' : Nat → List (Nat × Nat)} {hpT : THP}

theorem canon_len : ∀ (s : SK) (x : DenS s) (base : Nat) (t' : TS), canon n t t' s = some x → (ust base s x).2.length = (keep n t s).length := by
  intro s
  induction s with
  | un | d | fn | ip => intro x base t' h; rfl
  | o k T =>
    intro x base t' h
    simp only [keep, ust]
    split <;> rfl
  | bx k T =>
    intro x base t' h
    simp only [canon] at h
    split at h
    · rename_i j row off e
      cases hb : (Nat.beq row 0 && Nat.beq off 0) with
      | false => rw [hb] at h; cases h
      | true =>
        rw [hb, cond_true] at h
        split at h
        · rename_i cs e2
          split at h
          · rename_i y l hz
            cases h
            obtain ⟨c1, _, k1⟩ := srcC_spec t.hp T cs _ l [] hz
            simp only [keep, e, e2, hz, ust, List.length_append, (k1 base).len.1]
            rfl
          · cases h
        · cases h
    · cases h
  | pr a b iha ihb =>
    intro x base t' h
    simp only [canon] at h
    split at h
    · rename_i x1 x2 h1 h2
      cases h
      simp only [ust, keep, List.length_append, iha _ _ _ h1, ihb _ _ _ h2]
    · cases h

/-- What slots hold that only tell data. -/
theorem data_slot {t' : TS} {Mk : MT} {Lk : List (Nat × Nat)} (hK : ConcD C (toAS n t') a w N Mk Lk) (hN : ∀ b o, N b o → N' b o) (hL : ∀ p ∈ Lk, ∀ o, N' p.1 o) (k : Nat) :
    Rep w N' M' (vw (toHP t'.hp) 8 (av t'.hp (t'.get n k))) (a.tmps.toList.getD k undef) [] := by
  have r := hK.sl.get k
  rw [toAS_get] at r
  exact vw_sound hK.hp hN hL 8 _ _ _ r (fun _ hb => by cases hb)

theorem av_capT (hp : THP) (p : PK) (a : DenP p) : (capT p a).map (av hp) = (capT p a).map (av []) := av_cap p a

theorem canon_spec {t' : TS} {Mk : MT} {Lk : List (Nat × Nat)} (hD : ConcF C (toAS n t) a w N M ℓ) (hK : ConcD C (toAS n t') a w N Mk Lk) (hN : ∀ b o, N b o → N' b o) (hL : ∀ p ∈ Lk, ∀ o, N' p.1 o) :
    ∀ (s : SK) (x : DenS s) (base : Nat), canon n t t' s = some x → At M M' ℓ ℓ' hpT base (keep n t s) (ust base s x).2 →
      (∀ i b, (ust base s x).2[i]? = some b → HB w N' M' (base + i) (some (tb hpT b)) (ℓ' (base + i))) ∧
      (∀ k y, (k, y) ∈ (ust base s x).1 → Rep w N' M' (av hpT y) (a.tmps.toList.getD k undef) []) := by
  have slot : ∀ k, Rep w N M (av t.hp (t.get n k)) (a.tmps.toList.getD k undef) [] := fun k => by
    have r := hD.sl.get k
    rw [toAS_get] at r; exact r
  have hH := hD.hp
  rw [toAS_hp] at hH
  intro s
  induction s with
  | un => intro x base h hA; exact ⟨fun i b e => by simp [ust] at e, fun k y e => by simp [ust] at e⟩
  | d k T =>
    intro x base h hA
    refine ⟨fun i b e => by simp [ust] at e, fun k' y e => ?_⟩
    simp only [ust, List.mem_singleton, Prod.mk.injEq] at e
    obtain ⟨rfl, rfl⟩ := e
    exact asArg_spec h 6 _ _ _ _ (data_slot hK hN hL _)
  | o k T =>
    intro x base h hA
    simp only [canon] at h
    split at h
    · rename_i j e
      split at h
      · rename_i A o L e2
        cases ho : (o || A.flat) with
        | false => rw [ho] at h; cases h
        | true =>
          rw [ho, cond_true] at h
          obtain ⟨e3, hz⟩ := cst_some h
          cases e3
          cases hz
          have e4 : keep n t (.o k T) = [some j] := by simp only [keep, e]
          rw [e4] at hA
          obtain ⟨m1, m2⟩ := hA.so 0 j rfl
          rw [Nat.add_zero] at m1 m2
          have e5 := hA.hp 0 _ rfl
          rw [Nat.add_zero] at e5
          refine ⟨fun i b eb => ?_, fun k' y ey => ?_⟩
          · cases i with
            | zero =>
              simp only [ust, List.getElem?_cons_zero, Option.some.injEq] at eb
              subst eb
              exact hb_own hN hH e2 ho m1 m2
            | succ i => simp [ust] at eb
          · simp only [ust, List.mem_singleton, Prod.mk.injEq] at ey
            obtain ⟨rfl, rfl⟩ := ey
            have r := slot k'
            rw [e] at r
            exact rep_own e2 e5 m1 r
      · cases h
    · rename_i e
      cases h
      have e4 : keep n t (.o k T) = [none] := by simp only [keep, e]
      rw [e4] at hA
      obtain ⟨m1, m2⟩ := hA.no 0 _ rfl rfl
      rw [Nat.add_zero] at m1 m2
      have e5 := hA.hp 0 _ rfl
      rw [Nat.add_zero] at e5
      refine ⟨fun i b eb => ?_, fun k' y ey => ?_⟩
      · cases i with
        | zero =>
          simp only [ust, List.getElem?_cons_zero, Option.some.injEq] at eb
          subst eb
          exact hb_none m1 m2
        | succ i => simp [ust] at eb
      · simp only [ust, List.mem_singleton, Prod.mk.injEq] at ey
        obtain ⟨rfl, rfl⟩ := ey
        have r := slot k'
        rw [e] at r
        exact rep_none e5 m1 r
    · cases h
  | bx k T =>
    intro x base h hA
    simp only [canon] at h
    split at h
    · rename_i j row off e
      cases hb : (Nat.beq row 0 && Nat.beq off 0) with
      | false => rw [hb] at h; cases h
      | true =>
        rw [hb, cond_true] at h
        simp only [Bool.and_eq_true, Nat.beq_eq] at hb
        obtain ⟨rfl, rfl⟩ := hb
        split at h
        · rename_i cs e2
          split at h
          · rename_i y l hz
            cases h
            obtain ⟨c1, ec, k1⟩ := srcC_spec t.hp T cs _ l [] hz
            rw [List.append_nil] at ec
            subst ec
            have hSR := k1 base
            have hlen := hSR.len.1
            have e4 : keep n t (.bx k T) = l ++ [some j] := by simp only [keep, e, e2, hz]
            rw [e4] at hA
            have hA1 : At M M' ℓ ℓ' hpT base l (rsC base T x).2 := At.left hA hlen
            have hA2 : At M M' ℓ ℓ' hpT (base + (rsC base T x).2.length) [some j] [.box (rsC base T x).1] := At.right hA hlen
            obtain ⟨m1, m2⟩ := hA2.so 0 j rfl
            rw [Nat.add_zero] at m1 m2
            have e5 := hA2.hp 0 _ rfl
            rw [Nat.add_zero] at e5
            refine ⟨fun i b eb => ?_, fun k' y' ey => ?_⟩
            · simp only [ust] at eb
              rcases Nat.lt_or_ge i (rsC base T x).2.length with hi | hi
              · rw [List.getElem?_append_left hi] at eb
                exact hSR.blocks hN hH hA1 i b eb
              · rw [List.getElem?_append_right hi] at eb
                have hi0 : i = (rsC base T x).2.length := by
                  have := (List.getElem?_eq_some_iff.1 eb).1
                  simp at this; omega
                subst hi0
                simp only [Nat.sub_self, List.getElem?_cons_zero, Option.some.injEq] at eb
                subst eb
                exact hb_box hN hH hSR hA1 e2 m1 m2
            · simp only [ust, List.mem_singleton, Prod.mk.injEq] at ey
              obtain ⟨rfl, rfl⟩ := ey
              have r := slot k'
              rw [e] at r
              have a1 : av t.hp (.ptr j 0 0) = .ptr j 1 0 0 := by simp only [av, hpk_box e2]
              have a2 : av hpT (.ptr (base + (rsC base T x).2.length) 0 0) = .ptr (base + (rsC base T x).2.length) 1 0 0 := by simp only [av, hpk_box e5]
              rw [a1] at r
              rw [a2]
              generalize a.tmps.toList.getD k' undef = v at r ⊢
              cases r with
              | ptr mm h3 h4 => exact .ptr mm (by rw [m1]; exact h3) h4
          · cases h
        · cases h
    · cases h
  | fn k f c =>
    intro x base h hA
    refine ⟨fun i b e => by simp [ust] at e, fun k' y e => ?_⟩
    simp only [ust, List.mem_singleton, Prod.mk.injEq] at e
    obtain ⟨rfl, rfl⟩ := e
    have r := data_slot (M' := M') hK hN hL k'
    simp only [canon] at h
    split at h
    · rename_i g cs e
      cases hb : (Nat.beq f g && Nat.ble (need c) 7) with
      | false => rw [hb] at h; cases h
      | true =>
        rw [hb, cond_true] at h
        simp only [Bool.and_eq_true, Nat.beq_eq] at hb
        obtain ⟨rfl, hn⟩ := hb
        split at h
        · rename_i y hz
          cases h
          obtain ⟨x1, ex, hi⟩ := asPs_spec _ _ _ _ hz 7 (Nat.le_of_ble_eq_true hn)
          rw [List.append_nil] at ex
          subst ex
          rw [e] at r
          simp only [av, avL_map] at r ⊢
          rw [vw_fn, List.map_map] at r
          rw [av_cap]
          exact Im.fn hi _ _ _ _ r
        · cases h
    · cases h
  | ip k T =>
    intro x base h hA
    refine ⟨fun i b e => by simp [ust] at e, fun k' y e => ?_⟩
    simp only [ust, List.mem_singleton, Prod.mk.injEq] at e
    obtain ⟨rfl, rfl⟩ := e
    have r := data_slot (M' := M') hK hN hL k'
    simp only [canon] at h
    split at h
    · rename_i y hz
      cases h
      obtain ⟨x1, ex, hi⟩ := asPs_spec (.ip T) _ _ _ hz 8 (by simp [need])
      rw [List.append_nil] at ex
      subst ex
      simp only [List.map_cons, List.map_nil, capT] at hi
      cases hi with
      | cons h1 _ => exact h1 _ _ _ _ r
    · cases h
  | pr a b iha ihb =>
    intro x base h hA
    have hlen : ∀ x1, canon n t t' a = some x1 → (ust base a x1).2.length = (keep n t a).length := fun x1 h1 => canon_len a x1 base t' h1
    simp only [canon] at h
    split at h
    · rename_i x1 x2 h1 h2
      cases h
      simp only [keep, ust] at hA
      obtain ⟨p1, p2⟩ := iha x1 base h1 (At.left hA (hlen _ h1))
      obtain ⟨p3, p4⟩ := ihb x2 (base + (ust base a x1).2.length) h2 (At.right hA (hlen _ h1))
      refine ⟨fun i b' e => ?_, fun k y e => ?_⟩
      · simp only [ust] at e
        rcases Nat.lt_or_ge i (ust base a x1).2.length with hi | hi
        · rw [List.getElem?_append_left hi] at e
          exact p1 i b' e
        · rw [List.getElem?_append_right hi] at e
          have := p3 _ b' e
          rw [Nat.add_assoc, show (ust base a x1).2.length + (i - (ust base a x1).2.length) = i from by omega] at this
          exact this
      · simp only [ust] at e
        rcases List.mem_append.1 e with e | e
        · exact p2 k y e
        · exact p4 k y e
    · cases h

theorem fnd_mem : ∀ (u : List (Nat × TV)) (k : Nat), fnd u k = .any ∨ (k, fnd u k) ∈ u
  | [], _ => .inl rfl
  | p :: u, k => by
    simp only [fnd]
    cases hb : Nat.beq p.1 k with
    | true =>
      simp only [Nat.beq_eq] at hb
      subst hb
      exact .inr (by simp)
    | false =>
      rcases fnd_mem u k with h | h
      · exact .inl h
      · exact .inr (List.mem_cons_of_mem _ h)

/-- The blocks that are kept, numbered anew; all others are only seen from now on. -/
theorem ConcF.pick (h : ConcF C (toAS n t) a w N M ℓ) {l : List (Option Nat)} (hnd : (somes l).Nodup) (hlt : ∀ j ∈ somes l, j < t.hp.length) :
    ∃ Mk Lk, ConcD C (toAS n (t.kill (somes l))) a w N Mk Lk ∧ ∀ b, (∃ p ∈ Lk, p.1 = b) → b < w.heap.size ∧ (C.w0.heap.size ≤ b ∨ b ∈ C.X) ∧ ∀ j, j ∈ somes l → ∀ q ∈ ℓ j, q.1 ≠ b := by
  have hlt' : ∀ m ∈ somes l, m < (toAS n t).hp.length := fun m hm => by rw [toAS_hp, toHP_len]; exact hlt m hm
  obtain ⟨Mk, ℓk, hk, hsub⟩ := h.kill' hlt'
  have hk' := (StLe.kill (n := n) (t := t) (somes l)).concF hk
  refine ⟨Mk, _, hk'.d, fun b ⟨p, hp, e⟩ => ?_⟩
  obtain ⟨i, hi, hp⟩ := List.mem_flatMap.1 hp
  have hi := List.mem_range.1 hi
  subst e
  obtain ⟨o1, o2, _⟩ := hk'.own i hi p hp
  refine ⟨o1, o2, fun j hj q hq => ?_⟩
  obtain ⟨s1, s2⟩ := hsub i p hp
  have hi' : i < (toAS n t).hp.length := by
    rw [toAS_hp, toHP_len] at hi ⊢
    rw [TS.kill] at hi
    rw [setAll_len] at hi
    rw [TS.flt, fltH_len] at hi; exact hi
  exact h.dj j i (hlt' j hj) hi' (fun e => s1 (e ▸ hj)) q hq p s2

/-- What is taken for the blocks that are kept. -/
structure Kept (l : List (Option Nat)) (B : List TB) (M : MT) (ℓ : Nat → List (Nat × Nat)) (M' : MT) (ℓ' : Nat → List (Nat × Nat)) : Prop where
  at_ : At M M' ℓ ℓ' (B.map some) 0 l B
  un : ∀ k, B.length ≤ k → M' k = none
  from_ : ∀ i, ∀ p ∈ ℓ' i, ∃ j, l[i]? = some (some j) ∧ p ∈ ℓ j

theorem kept_ex (l : List (Option Nat)) (B : List TB) (hlen : B.length = l.length) (M : MT) (ℓ : Nat → List (Nat × Nat)) : ∃ M' ℓ', Kept l B M ℓ M' ℓ' := by
  refine ⟨fun i => match l[i]? with
    | some (some j) => M j
    | some none => (B[i]?).map fun b => some (vcn (tb (B.map some) b).sz)
    | none => none, fun i => match l[i]? with
    | some (some j) => ℓ j
    | _ => [], ⟨fun i b e => ?_, fun i j e => ?_, fun i b e e' => ?_⟩, fun k hk => ?_, fun i p hp => ?_⟩
  · rw [Nat.zero_add, List.getElem?_map, e]; rfl
  · simp only [Nat.zero_add, e]; exact ⟨trivial, trivial⟩
  · simp only [Nat.zero_add, e, e', Option.map_some]; exact ⟨trivial, trivial⟩
  · have : l[k]? = none := List.getElem?_eq_none (by omega)
    simp only [this]
  · split at hp
    · rename_i j e; exact ⟨j, e, hp⟩
    · cases hp

theorem nodup_somes {l : List (Option Nat)} (h : (somes l).Nodup) {i i' j : Nat} (h1 : l[i]? = some (some j)) (h2 : l[i']? = some (some j)) : i = i' := by
  induction l generalizing i i' with
  | nil => simp at h1
  | cons x l ih =>
    have mem : ∀ k, l[k]? = some (some j) → j ∈ somes l := fun k e => somes_mem.2 (List.mem_of_getElem? e)
    cases i with
    | zero =>
      cases i' with
      | zero => rfl
      | succ i' =>
        simp only [List.getElem?_cons_zero, Option.some.injEq] at h1
        subst h1
        exact absurd (mem i' (by simpa using h2)) (List.nodup_cons.1 h).1
    | succ i =>
      cases i' with
      | zero =>
        simp only [List.getElem?_cons_zero, Option.some.injEq] at h2
        subst h2
        exact absurd (mem i (by simpa using h1)) (List.nodup_cons.1 h).1
      | succ i' =>
        have h' : (somes l).Nodup := by
          cases x with
          | none => exact h
          | some x => exact (List.nodup_cons.1 h).2
        exact congrArg (· + 1) (ih h' (by simpa using h1) (by simpa using h2))

theorem keep_lt (h : ConcF C (toAS n t) a w N M ℓ) : ∀ (s : SK) (x : DenS s) (t' : TS), canon n t t' s = some x → ∀ j ∈ somes (keep n t s), j < t.hp.length := by
  have sr : ∀ {base : Nat} {cs cs' : List TV} {l : List (Option Nat)} {B : List TB}, SR t.hp base cs cs' l B → ∀ j ∈ somes l, j < t.hp.length := by
    intro base cs cs' l B h
    induction h with
    | nil => intro j hj; simp [somes] at hj
    | leaf _ _ ih => exact ih
    | own h1 _ _ ih =>
      intro j hj
      simp only [somes, List.mem_cons] at hj
      rcases hj with rfl | hj
      · exact (List.getElem?_eq_some_iff.1 h1).1
      · exact ih j hj
    | none _ ih => exact ih
  have app : ∀ (a b : List (Option Nat)) (j : Nat), j ∈ somes (a ++ b) ↔ j ∈ somes a ∨ j ∈ somes b := fun a b j => by simp [somes_mem]
  intro s
  induction s with
  | un | d | fn | ip => intro x t' _ j hj; simp [keep, somes] at hj
  | o k T =>
    intro x t' hc j hj
    simp only [canon] at hc
    split at hc
    · rename_i i e
      simp only [keep, e, somes, List.mem_singleton] at hj
      subst hj
      split at hc
      · rename_i e2; exact (List.getElem?_eq_some_iff.1 e2).1
      · cases hc
    · rename_i e; simp [keep, e, somes] at hj
    · cases hc
  | bx k T =>
    intro x t' hc j hj
    simp only [canon] at hc
    split at hc
    · rename_i i row off e
      cases hb : (Nat.beq row 0 && Nat.beq off 0) with
      | false => rw [hb] at hc; cases hc
      | true =>
        rw [hb, cond_true] at hc
        split at hc
        · rename_i cs e2
          split at hc
          · rename_i y l hz
            obtain ⟨c1, _, k1⟩ := srcC_spec t.hp T cs _ l [] hz
            simp only [keep, e, e2, hz] at hj
            rcases (app _ _ _).1 hj with h | h
            · exact sr (k1 0) j h
            · simp only [somes, List.mem_singleton] at h
              subst h
              exact (List.getElem?_eq_some_iff.1 e2).1
          · cases hc
        · cases hc
    · cases hc
  | pr a b iha ihb =>
    intro x t' hc j hj
    simp only [canon] at hc
    split at hc
    · rename_i x1 x2 h1 h2
      simp only [keep] at hj
      rcases (app _ _ _).1 hj with h | h
      · exact iha x1 t' h1 j h
      · exact ihb x2 t' h2 j h
    · cases hc

/-- A state told by its shape alone. -/
theorem mask_sound (hC : ∀ k, C.M0 k = none) {s : SK} {x : DenS s} (hm : mask n s t = some x) (hc : Conc C (toAS n t) a w) : Conc C (toAS n (mkS s x)) a w := by
  obtain ⟨N, M, ℓ, hD⟩ := hc.fn
  unfold mask at hm
  simp only at hm
  cases hnb : nodupB (somes (keep n t s)) with
  | false => rw [hnb] at hm; cases hm
  | true =>
    rw [hnb, cond_true] at hm
    have hnd := nodupB_iff hnb
    have hlt := keep_lt hD s x _ hm
    have hlen := canon_len s x 0 _ hm
    obtain ⟨Mk, Lk, hK, hfr⟩ := hD.pick hnd hlt
    obtain ⟨M', ℓ', k1, k2, k3⟩ := kept_ex (keep n t s) (ust 0 s x).2 hlen M ℓ
    let N' : NT := fun b o => N b o ∨ ∃ p ∈ Lk, p.1 = b
    have hN : ∀ b o, N b o → N' b o := fun b o h => .inl h
    obtain ⟨q1, q2⟩ := canon_spec (N' := N') (M' := M') (ℓ' := ℓ') hD hK hN (fun p hp o => .inr ⟨p, hp, rfl⟩) s x 0 hm k1
    have hlt' : ∀ i j, (keep n t s)[i]? = some (some j) → j < (toAS n t).hp.length := fun i j e => by
      rw [toAS_hp, toHP_len]
      exact hlt j (somes_mem.2 (List.mem_of_getElem? e))
    have hpl : (toAS n (mkS s x)).hp.length = (ust 0 s x).2.length := by rw [toAS_hp, toHP_len]; simp [mkS]
    refine ConcF.c (N := N') (M := M') (ℓ := ℓ') ⟨hD.df, ?_, fun i y hy => ?_, fun i hi => ?_, fun i i' hi hi' hne p hp q hq => ?_, fun i hi p hp => ?_, fun b o hn => ?_, fun b o hn => .inl (hD.nup b o hn), fun b o hn => ?_, hD.fr, fun k hk => k2 k (by rw [← hpl]; exact hk), fun k m m0 _ h0 => (by rw [hC k] at h0; cases h0), fun k _ => hC k⟩
    · have hl := hD.sl.length
      rw [toAS_len] at hl
      have : ∀ (ys : List AV) (vs : List Value), ys.length = vs.length → (∀ i, Rep w N' M' (ys.getD i .any) (vs.getD i undef) []) → RepL w N' M' ys vs [] := by
        intro ys
        induction ys with
        | nil => intro vs hl _; cases vs with | nil => exact .nil | cons => simp at hl
        | cons y ys ih =>
          intro vs hl h
          cases vs with
          | nil => simp at hl
          | cons v vs => exact .cons (L1 := []) (L2 := []) (by simpa using h 0) (ih vs (by simpa using hl) fun i => by simpa using h (i + 1))
      refine this _ _ (by rw [toAS_len, hl]) fun i => ?_
      rw [toAS_get]
      unfold TS.get
      cases Nat.blt i n with
      | false => exact .any _
      | true =>
        rcases fnd_mem (mkS s x).u i with e | e
        · simp only [cond_true, e]; exact .any _
        · exact q2 i _ e
    · rw [toAS_hp, toHP_get] at hy
      simp only [mkS, List.getElem?_map] at hy
      cases hb : (ust 0 s x).2[i]? with
      | none => rw [hb] at hy; cases hy
      | some b =>
        rw [hb] at hy
        simp only [Option.map_some, Option.some.injEq] at hy
        subst hy
        have := q1 i b hb
        rw [Nat.zero_add] at this
        exact this
    · cases hq : (keep n t s)[i]? with
      | none =>
        have : ℓ' i = [] := by
          cases hl : ℓ' i with
          | nil => rfl
          | cons p _ => obtain ⟨j, e, _⟩ := k3 i p (by rw [hl]; simp); rw [hq] at e; cases e
        rw [this]; simp
      | some o =>
        cases o with
        | none =>
          have : ℓ' i = [] := by
            cases hl : ℓ' i with
            | nil => rfl
            | cons p _ => obtain ⟨j, e, _⟩ := k3 i p (by rw [hl]; simp); rw [hq] at e; cases e
          rw [this]; simp
        | some j =>
          have := (k1.so i j hq).2
          rw [Nat.zero_add] at this
          rw [this]
          exact hD.nd j (hlt' i j hq)
    · obtain ⟨j, e, m1⟩ := k3 i p hp
      obtain ⟨j', e', m2⟩ := k3 i' q hq
      refine hD.dj j j' (hlt' i j e) (hlt' i' j' e') (fun ee => ?_) p m1 q m2
      subst ee
      exact hne (nodup_somes hnd e e')
    · obtain ⟨j, e, m1⟩ := k3 i p hp
      obtain ⟨o1, o2, o3⟩ := hD.own j (hlt' i j e) p m1
      refine ⟨o1, o2, fun o hn => ?_⟩
      rcases hn with hn | hn
      · exact o3 o hn
      · exact absurd rfl ((hfr p.1 hn).2.2 j (somes_mem.2 (List.mem_of_getElem? e)) p m1)
    · rcases hn with hn | hn
      · exact hD.nlt b o hn
      · exact (hfr b hn).1
    · rcases hn with hn | hn
      · exact hD.ndn b o hn
      · exact .inr (hfr b hn).2.1
end
end Go.Proofs.Yteadknjgpmnigaa.Nx
