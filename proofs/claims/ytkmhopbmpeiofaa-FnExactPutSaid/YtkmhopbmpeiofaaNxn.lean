/- States told by their shape: sound, with no condition beyond those each lemma names. -/
import Derived.Test.YtkmhopbmpeiofaaNxm
set_option linter.unusedVariables false
set_option linter.unusedSimpArgs false
namespace Go.Proofs.Ytkmhopbmpeiofaa.Nx
open Go Go.RowKit
theorem somes_mem {l : List (Option Nat)} {j : Nat} : j ∈ somes l ↔ some j ∈ l := by
 induction l with
 | nil => simp [somes]
 | cons x l ih => cases x <;> simp [somes,ih]
theorem hb_ara {w : World} {N N' : NT} {M M' : MT} {ℓ ℓ' : Nat → List (Nat × Nat)} {hp hpT : THP} (hN : ∀ b o,N b o → N' b o) (hH : ∀ (i : Nat) (x : Option Blk),(toHP hp)[i]? = some x → HB w N M i x (ℓ i)) {j i : Nat} {n : Nat} {k : IntKind} {L : List Int} (h1 : hp[j]? = some (some (.ara n k L)))
  (hM : M' i = M j) (hl : ℓ' i = ℓ j) : HB w N' M' i (some (tb hpT (.ara n k L))) (ℓ' i) := by
 obtain ⟨m,L1,q1,q2,q3⟩ := hH j _ (by rw [toHP_get,h1]; rfl)
 have e : tb hp (.ara n k L) = tb hpT (.ara n k L) := rfl
 rw [e] at q2
 refine ⟨m,L1,by rw [hM]; exact q1,⟨q2.len,q2.sz,q2.fr,q2.cl,q2.rep.data hN ?_,q2.vt,q2.rm,q2.lo,fun i hi => hN _ _ (q2.fz i hi),q2.f0⟩,by rw [hl]; exact q3⟩
 simp only [tb,List.flatMap_cons,List.flatMap_nil,List.append_nil,AV.cells]
 rw [lowL_all,List.all_eq_true]
 intro c hc
 simp only [arC,List.mem_map] at hc
 obtain ⟨i,_,rfl⟩ := hc
 rfl
section
variable {C : Ctx} {n : Nat} {t : TS} {a : Act} {w : World} {N N' : NT} {M M' : MT} {ℓ ℓ' : Nat → List (Nat × Nat)} {hpT : THP}
theorem canon_len : ∀ (s : SK) (x : DenS s) (base : Nat) (t' : TS),canon n t t' s = some x → (ust base s x).2.length = (keep n t s).length := by
 intro s
 induction s with
 | un | d | fn | ip | al => intro x base t' h; rfl
 | sum a b => intro x base t' h; cases h
 | o k T =>
  intro x base t' h
  simp only [keep,ust]
  split <;> rfl
 | mo k T =>
  intro x base t' h
  simp only [keep,ust]
  split <;> rfl
 | lg k T =>
  intro x base t' h
  simp only [keep,ust]
  split <;> rfl
 | bx k T =>
  intro x base t' h
  simp only [canon] at h
  split at h
  ·rename_i j row off e
   cases hb : (Nat.beq row 0 && Nat.beq off 0) with
   | false => rw [hb] at h; cases h
   | true =>
    rw [hb,cond_true] at h
    split at h
    ·rename_i cs e2
     split at h
     ·rename_i y l hz
      cases h
      obtain ⟨c1,_,k1⟩ := srcC_spec t.hp T cs _ l [] hz
      simp only [keep,e,e2,hz,ust,List.length_append,(k1 base).len.1]
      rfl
     ·cases h
    ·cases h
  ·cases h
 | bv k T =>
  intro x base t' h
  simp only [canon] at h
  split at h
  ·rename_i j row off e
   simp only [keep,e,ust]
   rfl
  ·cases h
 | av k m K =>
  intro x base t' h
  simp only [canon] at h
  split at h
  ·rename_i j row off e
   simp only [keep,e,ust]
   rfl
  ·cases h
 | ow k T =>
  intro x base t' h
  simp only [canon] at h
  split at h
  ·rename_i cs e
   split at h
   ·rename_i y l hz
    cases h
    obtain ⟨c1,_,k1⟩ := srcC_spec t.hp T cs _ l [] hz
    simp only [keep,e,hz,ust,(k1 base).len.1]
   ·cases h
  ·cases h
 | pr a b iha ihb =>
  intro x base t' h
  simp only [canon] at h
  split at h
  ·rename_i x1 x2 h1 h2
   cases h
   simp only [ust,keep,List.length_append,iha _ _ _ h1,ihb _ _ _ h2]
  ·cases h
theorem data_slot {t' : TS} {Mk : MT} {Lk : List (Nat × Nat)} (hK : ConcD C (toAS n t') a w N Mk Lk) (hN : ∀ b o,N b o → N' b o) (hL : ∀ p ∈ Lk,∀ o,N' p.1 o) (k : Nat) :
  Rep w N' M' (vw (toHP t'.hp) 8 (av t'.hp (t'.get n k))) (a.tmps.toList.getD k undef) [] := by
 have r := hK.sl.get k
 rw [toAS_get] at r
 exact vw_sound hK.hp hN hL 8 _ _ _ r (fun _ hb => by cases hb)
theorem canon_spec {t' : TS} {Mk : MT} {Lk : List (Nat × Nat)} (hD : ConcF C (toAS n t) a w N M ℓ) (hK : ConcD C (toAS n t') a w N Mk Lk) (hN : ∀ b o,N b o → N' b o) (hL : ∀ p ∈ Lk,∀ o,N' p.1 o) :
  ∀ (s : SK) (x : DenS s) (base : Nat),canon n t t' s = some x → At M M' ℓ ℓ' hpT base (keep n t s) (ust base s x).2 →
   (∀ i b,(ust base s x).2[i]? = some b → HB w N' M' (base + i) (some (tb hpT b)) (ℓ' (base + i))) ∧
   (∀ k y,(k,y) ∈ (ust base s x).1 → Rep w N' M' (av hpT y) (a.tmps.toList.getD k undef) []) := by
 have slot : ∀ k,Rep w N M (av t.hp (t.get n k)) (a.tmps.toList.getD k undef) [] := fun k => by
  have r := hD.sl.get k
  rw [toAS_get] at r; exact r
 have hH := hD.hp
 rw [toAS_hp] at hH
 intro s
 induction s with
 | un | al => intro x base h hA; exact ⟨fun i b e => by simp [ust] at e,fun k y e => by simp [ust] at e⟩
 | sum a b => intro x base h; cases h
 | d k T =>
  intro x base h hA
  refine ⟨fun i b e => by simp [ust] at e,fun k' y e => ?_⟩
  simp only [ust,List.mem_singleton,Prod.mk.injEq] at e
  obtain ⟨rfl,rfl⟩ := e
  exact asArg_spec h 6 _ _ _ _ (data_slot hK hN hL _)
 | o k T =>
  intro x base h hA
  simp only [canon] at h
  split at h
  ·rename_i j e
   split at h
   ·rename_i A o L e2
    cases ho : (o || A.flat) with
    | false => rw [ho] at h; cases h
    | true =>
     rw [ho,cond_true] at h
     obtain ⟨e3,hz⟩ := cst_some h
     cases e3
     cases hz
     have e4 : keep n t (.o k T) = [some j] := by simp only [keep,e]
     rw [e4] at hA
     obtain ⟨m1,m2⟩ := hA.so 0 j rfl
     rw [Nat.add_zero] at m1 m2
     have e5 := hA.hp 0 _ rfl
     rw [Nat.add_zero] at e5
     refine ⟨fun i b eb => ?_,fun k' y ey => ?_⟩
     ·cases i with
      | zero =>
       simp only [ust,List.getElem?_cons_zero,Option.some.injEq] at eb
       subst eb
       exact hb_own hN hH e2 ho m1 m2
      | succ i => simp [ust] at eb
     ·simp only [ust,List.mem_singleton,Prod.mk.injEq] at ey
      obtain ⟨rfl,rfl⟩ := ey
      have r := slot k'
      rw [e] at r
      exact rep_own e2 e5 m1 r
   ·cases h
  ·rename_i e
   cases h
   have e4 : keep n t (.o k T) = [none] := by simp only [keep,e]
   rw [e4] at hA
   obtain ⟨m1,m2⟩ := hA.no 0 _ rfl rfl
   rw [Nat.add_zero] at m1 m2
   have e5 := hA.hp 0 _ rfl
   rw [Nat.add_zero] at e5
   refine ⟨fun i b eb => ?_,fun k' y ey => ?_⟩
   ·cases i with
    | zero =>
     simp only [ust,List.getElem?_cons_zero,Option.some.injEq] at eb
     subst eb
     exact hb_none m1 m2
    | succ i => simp [ust] at eb
   ·simp only [ust,List.mem_singleton,Prod.mk.injEq] at ey
    obtain ⟨rfl,rfl⟩ := ey
    have r := slot k'
    rw [e] at r
    exact rep_none e5 m1 r
  ·cases h
 | mo k T =>
  intro x base h hA
  simp only [canon] at h
  split at h
  ·rename_i j e
   split at h
   ·rename_i A o L e2
    cases ho : (o || A.flat) with
    | false => rw [ho] at h; cases h
    | true =>
     rw [ho,cond_true] at h
     obtain ⟨e3,hz⟩ := cst_some h
     cases e3
     cases hz
     have e4 : keep n t (.mo k T) = [some j] := by simp only [keep,e]
     rw [e4] at hA
     obtain ⟨m1,m2⟩ := hA.so 0 j rfl
     rw [Nat.add_zero] at m1 m2
     have e5 := hA.hp 0 _ rfl
     rw [Nat.add_zero] at e5
     refine ⟨fun i b eb => ?_,fun k' y ey => ?_⟩
     ·cases i with
      | zero =>
       simp only [ust,List.getElem?_cons_zero,Option.some.injEq] at eb
       subst eb
       exact hb_own hN hH e2 ho m1 m2
      | succ i => simp [ust] at eb
     ·simp only [ust,List.mem_singleton,Prod.mk.injEq] at ey
      obtain ⟨rfl,rfl⟩ := ey
      have r := slot k'
      rw [e] at r
      exact rep_own e2 e5 m1 r
   ·cases h
  ·rename_i e
   cases h
   have e4 : keep n t (.mo k T) = [none] := by simp only [keep,e]
   rw [e4] at hA
   obtain ⟨m1,m2⟩ := hA.no 0 _ rfl rfl
   rw [Nat.add_zero] at m1 m2
   have e5 := hA.hp 0 _ rfl
   rw [Nat.add_zero] at e5
   refine ⟨fun i b eb => ?_,fun k' y ey => ?_⟩
   ·cases i with
    | zero =>
     simp only [ust,List.getElem?_cons_zero,Option.some.injEq] at eb
     subst eb
     exact hb_none m1 m2
    | succ i => simp [ust] at eb
   ·simp only [ust,List.mem_singleton,Prod.mk.injEq] at ey
    obtain ⟨rfl,rfl⟩ := ey
    have r := slot k'
    rw [e] at r
    exact rep_none e5 m1 r
  ·cases h
 | lg k T =>
  intro x base h hA
  simp only [canon] at h
  split at h
  ·rename_i j e
   have e4 : keep n t (.lg k T) = [some j] := by simp only [keep,e]
   rw [e4] at hA
   obtain ⟨m1,m2⟩ := hA.so 0 j rfl
   rw [Nat.add_zero] at m1 m2
   have e5 := hA.hp 0 _ rfl
   rw [Nat.add_zero] at e5
   have fin : ∀ (k2 : TB) (X : List (Den T)),x = X → t.hp[j]? = some (some k2) → tb t.hp k2 = tb hpT (.log T X) → k2.rlen = some X.length →
     (∀ i b,(ust base (.lg k T) x).2[i]? = some b → HB w N' M' (base + i) (some (tb hpT b)) (ℓ' (base + i))) ∧
     (∀ k' y,(k',y) ∈ (ust base (.lg k T) x).1 → Rep w N' M' (av hpT y) (a.tmps.toList.getD k' undef) []) := fun k2 X hx g1 g2 g3 => by
    subst hx
    refine ⟨fun i b eb => ?_,fun k' y ey => ?_⟩
    ·cases i with
     | zero =>
      simp only [ust,List.getElem?_cons_zero,Option.some.injEq] at eb
      subst eb
      exact hb_log hN hH g1 g2 m1 m2
     | succ i => simp [ust] at eb
    ·simp only [ust,List.mem_singleton,Prod.mk.injEq] at ey
     obtain ⟨rfl,rfl⟩ := ey
     have r := slot k'
     rw [e] at r
     exact rep_own' (l := List.length (α := Den T) x) (by simp [hpk,g1,g3]) (hpk_log e5) m1 r
   split at h
   ·rename_i A L e2
    obtain ⟨e3,hz⟩ := cst_some h
    cases e3
    cases hz
    exact fin _ _ rfl e2 rfl rfl
   ·rename_i A o L e2
    cases hb : (decide (A = T) && L.isEmpty) with
    | false => rw [hb] at h; cases h
    | true =>
     rw [hb,cond_true] at h
     cases h
     simp only [Bool.and_eq_true,decide_eq_true_eq,List.isEmpty_iff] at hb
     obtain ⟨rfl,rfl⟩ := hb
     exact fin _ [] rfl e2 rfl rfl
   ·cases h
  ·rename_i e
   cases h
   have e4 : keep n t (.lg k T) = [none] := by simp only [keep,e]
   rw [e4] at hA
   obtain ⟨m1,m2⟩ := hA.no 0 _ rfl rfl
   rw [Nat.add_zero] at m1 m2
   have e5 := hA.hp 0 _ rfl
   rw [Nat.add_zero] at e5
   refine ⟨fun i b eb => ?_,fun k' y ey => ?_⟩
   ·cases i with
    | zero =>
     simp only [ust,List.getElem?_cons_zero,Option.some.injEq] at eb
     subst eb
     exact hb_none (hpT := hpT) (A := T) m1 m2
    | succ i => simp [ust] at eb
   ·simp only [ust,List.mem_singleton,Prod.mk.injEq] at ey
    obtain ⟨rfl,rfl⟩ := ey
    have r := slot k'
    rw [e] at r
    exact rep_none' (hpk_log e5) m1 r
  ·cases h
 | bx k T =>
  intro x base h hA
  simp only [canon] at h
  split at h
  ·rename_i j row off e
   cases hb : (Nat.beq row 0 && Nat.beq off 0) with
   | false => rw [hb] at h; cases h
   | true =>
    rw [hb,cond_true] at h
    simp only [Bool.and_eq_true,Nat.beq_eq] at hb
    obtain ⟨rfl,rfl⟩ := hb
    split at h
    ·rename_i cs e2
     split at h
     ·rename_i y l hz
      cases h
      obtain ⟨c1,ec,k1⟩ := srcC_spec t.hp T cs _ l [] hz
      rw [List.append_nil] at ec
      subst ec
      have hSR := k1 base
      have hlen := hSR.len.1
      have e4 : keep n t (.bx k T) = l ++ [some j] := by simp only [keep,e,e2,hz]
      rw [e4] at hA
      have hA1 : At M M' ℓ ℓ' hpT base l (rsC base T x).2 := At.left hA hlen
      have hA2 : At M M' ℓ ℓ' hpT (base + (rsC base T x).2.length) [some j] [.box (rsC base T x).1] := At.right hA hlen
      obtain ⟨m1,m2⟩ := hA2.so 0 j rfl
      rw [Nat.add_zero] at m1 m2
      have e5 := hA2.hp 0 _ rfl
      rw [Nat.add_zero] at e5
      refine ⟨fun i b eb => ?_,fun k' y' ey => ?_⟩
      ·simp only [ust] at eb
       rcases Nat.lt_or_ge i (rsC base T x).2.length with hi | hi
       ·rw [List.getElem?_append_left hi] at eb
        exact hSR.blocks hN hH hA1 i b eb
       ·rw [List.getElem?_append_right hi] at eb
        have hi0 : i = (rsC base T x).2.length := by
         have := (List.getElem?_eq_some_iff.1 eb).1
         simp at this; omega
        subst hi0
        simp only [Nat.sub_self,List.getElem?_cons_zero,Option.some.injEq] at eb
        subst eb
        exact hb_box hN hH hSR hA1 e2 m1 m2
      ·simp only [ust,List.mem_singleton,Prod.mk.injEq] at ey
       obtain ⟨rfl,rfl⟩ := ey
       have r := slot k'
       rw [e] at r
       have a1 : av t.hp (.ptr j 0 0) = .ptr j 1 0 0 := by simp only [av,hpk_box e2]
       have a2 : av hpT (.ptr (base + (rsC base T x).2.length) 0 0) = .ptr (base + (rsC base T x).2.length) 1 0 0 := by simp only [av,hpk_box e5]
       rw [a1] at r
       rw [a2]
       generalize a.tmps.toList.getD k' undef = v at r ⊢
       cases r with
       | ptr mm h3 h4 => exact .ptr mm (by rw [m1]; exact h3) h4
     ·cases h
    ·cases h
  ·cases h
 | bv k T =>
  intro x base h hA
  simp only [canon] at h
  split at h
  ·rename_i j row off e
   cases hb : (Nat.beq row 0 && Nat.beq off 0) with
   | false => rw [hb] at h; cases h
   | true =>
    rw [hb,cond_true] at h
    simp only [Bool.and_eq_true,Nat.beq_eq] at hb
    obtain ⟨rfl,rfl⟩ := hb
    split at h
    ·rename_i cs e2
     split at h
     ·rename_i y hz
      cases h
      have e4 : keep n t (.bv k T) = [some j] := by simp only [keep,e]
      rw [e4] at hA
      obtain ⟨m1,m2⟩ := hA.so 0 j rfl
      rw [Nat.add_zero] at m1 m2
      have e5 := hA.hp 0 _ rfl
      rw [Nat.add_zero] at e5
      refine ⟨fun i b eb => ?_,fun k' y' ey => ?_⟩
      ·cases i with
       | zero =>
        simp only [ust,List.getElem?_cons_zero,Option.some.injEq] at eb
        subst eb
        exact hb_bv hN hH hz e2 m1 m2
       | succ i => simp [ust] at eb
      ·simp only [ust,List.mem_singleton,Prod.mk.injEq] at ey
       obtain ⟨rfl,rfl⟩ := ey
       have r := slot k'
       rw [e] at r
       have a1 : av t.hp (.ptr j 0 0) = .ptr j 1 0 0 := by simp only [av,hpk_box e2]
       have a2 : av hpT (.ptr base 0 0) = .ptr base 1 0 0 := by simp only [av,hpk_box e5]
       rw [a1] at r
       rw [a2]
       generalize a.tmps.toList.getD k' undef = v at r ⊢
       cases r with
       | ptr mm h3 h4 => exact .ptr mm (by rw [m1]; exact h3) h4
     ·cases h
    ·cases h
  ·cases h
 | av k m K =>
  intro x base h hA
  simp only [canon] at h
  split at h
  ·rename_i j row off e
   cases hb : (Nat.beq row 0 && Nat.beq off 0) with
   | false => rw [hb] at h; cases h
   | true =>
    rw [hb,cond_true] at h
    simp only [Bool.and_eq_true,Nat.beq_eq] at hb
    obtain ⟨rfl,rfl⟩ := hb
    split at h
    ·rename_i m' K' L e2
     cases hb2 : (Nat.beq m m' && decide (K = K')) with
     | false => rw [hb2] at h; cases h
     | true =>
      rw [hb2,cond_true] at h
      simp only [Bool.and_eq_true,Nat.beq_eq,decide_eq_true_eq] at hb2
      obtain ⟨rfl,rfl⟩ := hb2
      cases h
      have e4 : keep n t (.av k m K) = [some j] := by simp only [keep,e]
      rw [e4] at hA
      obtain ⟨m1,m2⟩ := hA.so 0 j rfl
      rw [Nat.add_zero] at m1 m2
      have e5 := hA.hp 0 _ rfl
      rw [Nat.add_zero] at e5
      refine ⟨fun i b eb => ?_,fun k' y' ey => ?_⟩
      ·cases i with
       | zero =>
        simp only [ust,List.getElem?_cons_zero,Option.some.injEq] at eb
        subst eb
        exact hb_ara hN hH e2 m1 m2
       | succ i => simp [ust] at eb
      ·simp only [ust,List.mem_singleton,Prod.mk.injEq] at ey
       obtain ⟨rfl,rfl⟩ := ey
       have r := slot k'
       rw [e] at r
       have a1 : av t.hp (.ptr j 0 0) = .ptr j 1 0 0 := by simp only [av,hpk_ara e2]
       have a2 : av hpT (.ptr base 0 0) = .ptr base 1 0 0 := by simp only [av,hpk_ara e5]
       rw [a1] at r
       rw [a2]
       generalize a.tmps.toList.getD k' undef = v at r ⊢
       cases r with
       | ptr mm h3 h4 => exact .ptr mm (by rw [m1]; exact h3) h4
    ·cases h
  ·cases h
 | fn k f c =>
  intro x base h hA
  refine ⟨fun i b e => by simp [ust] at e,fun k' y e => ?_⟩
  simp only [ust,List.mem_singleton,Prod.mk.injEq] at e
  obtain ⟨rfl,rfl⟩ := e
  have r := data_slot (M' := M') hK hN hL k'
  simp only [canon] at h
  split at h
  ·rename_i g cs e
   cases hb : (Nat.beq f g && Nat.ble (need c) 7) with
   | false => rw [hb] at h; cases h
   | true =>
    rw [hb,cond_true] at h
    simp only [Bool.and_eq_true,Nat.beq_eq] at hb
    obtain ⟨rfl,hn⟩ := hb
    split at h
    ·rename_i y hz
     cases h
     obtain ⟨x1,ex,hi⟩ := asPs_spec _ _ _ _ hz 7 (Nat.le_of_ble_eq_true hn)
     rw [List.append_nil] at ex
     subst ex
     rw [e] at r
     simp only [av,avL_map] at r ⊢
     rw [vw_fn,List.map_map] at r
     rw [av_cap]
     exact Im.fn hi _ _ _ _ r
    ·cases h
  ·cases h
 | ip k T =>
  intro x base h hA
  refine ⟨fun i b e => by simp [ust] at e,fun k' y e => ?_⟩
  simp only [ust,List.mem_singleton,Prod.mk.injEq] at e
  obtain ⟨rfl,rfl⟩ := e
  have r := data_slot (M' := M') hK hN hL k'
  simp only [canon] at h
  split at h
  ·rename_i y hz
   cases h
   obtain ⟨x1,ex,hi⟩ := asPs_spec (.ip T) _ _ _ hz 8 (by simp [need])
   rw [List.append_nil] at ex
   subst ex
   simp only [List.map_cons,List.map_nil,capT] at hi
   cases hi with
   | cons h1 _ => exact h1 _ _ _ _ r
  ·cases h
 | ow k T =>
  intro x base h hA
  simp only [canon] at h
  split at h
  ·rename_i cs e
   split at h
   ·rename_i y l hz
    cases h
    obtain ⟨c1,ec,k1⟩ := srcC_spec t.hp T cs _ l [] hz
    rw [List.append_nil] at ec
    subst ec
    have hSR := k1 base
    have e4 : keep n t (.ow k T) = l := by simp only [keep,e,hz]
    rw [e4] at hA
    refine ⟨fun i b eb => hSR.blocks hN hH hA i b eb,fun k' y' ey => ?_⟩
    simp only [ust,List.mem_singleton,Prod.mk.injEq] at ey
    obtain ⟨rfl,rfl⟩ := ey
    have r := slot k'
    rw [e] at r
    simp only [av,avL_map] at r ⊢
    generalize a.tmps.toList.getD k' undef = v at r ⊢
    cases r with
    | agg r => exact .agg (hSR.cells hN hA r)
   ·cases h
  ·cases h
 | pr a b iha ihb =>
  intro x base h hA
  have hlen : ∀ x1,canon n t t' a = some x1 → (ust base a x1).2.length = (keep n t a).length := fun x1 h1 => canon_len a x1 base t' h1
  simp only [canon] at h
  split at h
  ·rename_i x1 x2 h1 h2
   cases h
   simp only [keep,ust] at hA
   obtain ⟨p1,p2⟩ := iha x1 base h1 (At.left hA (hlen _ h1))
   obtain ⟨p3,p4⟩ := ihb x2 (base + (ust base a x1).2.length) h2 (At.right hA (hlen _ h1))
   refine ⟨fun i b' e => ?_,fun k y e => ?_⟩
   ·simp only [ust] at e
    rcases Nat.lt_or_ge i (ust base a x1).2.length with hi | hi
    ·rw [List.getElem?_append_left hi] at e
     exact p1 i b' e
    ·rw [List.getElem?_append_right hi] at e
     have := p3 _ b' e
     rw [Nat.add_assoc,show (ust base a x1).2.length + (i - (ust base a x1).2.length) = i from by omega] at this
     exact this
   ·simp only [ust] at e
    rcases List.mem_append.1 e with e | e
    ·exact p2 k y e
    ·exact p4 k y e
  ·cases h
theorem fnd_mem : ∀ (u : List (Nat × TV)) (k : Nat),fnd u k = .any ∨ (k,fnd u k) ∈ u
 | [],_ => .inl rfl
 | p :: u,k => by
  simp only [fnd]
  cases hb : Nat.beq p.1 k with
  | true =>
   simp only [Nat.beq_eq] at hb
   subst hb
   exact .inr (by simp)
  | false =>
   rcases fnd_mem u k with h | h
   ·exact .inl h
   ·exact .inr (List.mem_cons_of_mem _ h)
theorem ConcF.pick (h : ConcF C (toAS n t) a w N M ℓ) {l : List (Option Nat)} (hnd : (somes l).Nodup) (hlt : ∀ j ∈ somes l,j < t.hp.length) :
  ∃ Mk Lk,ConcD C (toAS n (t.kill (somes l))) a w N Mk Lk ∧ ∀ b,(∃ p ∈ Lk,p.1 = b) → b < w.heap.size ∧ (C.w0.heap.size ≤ b ∨ b ∈ C.X) ∧ ∀ j,j ∈ somes l → ∀ q ∈ ℓ j,q.1 ≠ b := by
 have hlt' : ∀ m ∈ somes l,m < (toAS n t).hp.length := fun m hm => by rw [toAS_hp,toHP_len]; exact hlt m hm
 obtain ⟨Mk,ℓk,hk,hsub⟩ := h.kill' hlt'
 have hk' := (StLe.kill (n := n) (t := t) (somes l)).concF hk
 refine ⟨Mk,_,hk'.d,fun b ⟨p,hp,e⟩ => ?_⟩
 obtain ⟨i,hi,hp⟩ := List.mem_flatMap.1 hp
 have hi := List.mem_range.1 hi
 subst e
 obtain ⟨o1,o2,_⟩ := hk'.own i hi p hp
 refine ⟨o1,o2,fun j hj q hq => ?_⟩
 obtain ⟨s1,s2⟩ := hsub i p hp
 have hi' : i < (toAS n t).hp.length := by
  rw [toAS_hp,toHP_len] at hi ⊢
  rw [TS.kill] at hi
  rw [setAll_len] at hi
  rw [TS.flt,fltH_len] at hi; exact hi
 exact h.dj j i (hlt' j hj) hi' (fun e => s1 (e ▸ hj)) q hq p s2
structure Kept (l : List (Option Nat)) (B : List TB) (M : MT) (ℓ : Nat → List (Nat × Nat)) (M' : MT) (ℓ' : Nat → List (Nat × Nat)) : Prop where
 at_ : At M M' ℓ ℓ' (B.map some) 0 l B
 un : ∀ k,B.length ≤ k → M' k = none
 from_ : ∀ i,∀ p ∈ ℓ' i,∃ j,l[i]? = some (some j) ∧ p ∈ ℓ j
theorem kept_ex (l : List (Option Nat)) (B : List TB) (hlen : B.length = l.length) (M : MT) (ℓ : Nat → List (Nat × Nat)) : ∃ M' ℓ',Kept l B M ℓ M' ℓ' := by
 refine ⟨fun i => match l[i]? with
  | some (some j) => M j
  | some none => (B[i]?).map fun b => some (vcn (tb (B.map some) b).sz)
  | none => none,fun i => match l[i]? with
  | some (some j) => ℓ j
  | _ => [],⟨fun i b e => ?_,fun i j e => ?_,fun i b e e' => ?_⟩,fun k hk => ?_,fun i p hp => ?_⟩
 ·rw [Nat.zero_add,List.getElem?_map,e]; rfl
 ·simp only [Nat.zero_add,e]; exact ⟨trivial,trivial⟩
 ·simp only [Nat.zero_add,e,e',Option.map_some]; exact ⟨trivial,trivial⟩
 ·have : l[k]? = none := List.getElem?_eq_none (by omega)
  simp only [this]
 ·split at hp
  ·rename_i j e; exact ⟨j,e,hp⟩
  ·cases hp
theorem nodup_somes {l : List (Option Nat)} (h : (somes l).Nodup) {i i' j : Nat} (h1 : l[i]? = some (some j)) (h2 : l[i']? = some (some j)) : i = i' := by
 induction l generalizing i i' with
 | nil => simp at h1
 | cons x l ih =>
  have mem : ∀ k,l[k]? = some (some j) → j ∈ somes l := fun k e => somes_mem.2 (List.mem_of_getElem? e)
  cases i with
  | zero =>
   cases i' with
   | zero => rfl
   | succ i' =>
    simp only [List.getElem?_cons_zero,Option.some.injEq] at h1
    subst h1
    exact absurd (mem i' (by simpa using h2)) (List.nodup_cons.1 h).1
  | succ i =>
   cases i' with
   | zero =>
    simp only [List.getElem?_cons_zero,Option.some.injEq] at h2
    subst h2
    exact absurd (mem i (by simpa using h1)) (List.nodup_cons.1 h).1
   | succ i' =>
    have h' : (somes l).Nodup := by
     cases x with
     | none => exact h
     | some x => exact (List.nodup_cons.1 h).2
    exact congrArg (· + 1) (ih h' (by simpa using h1) (by simpa using h2))
theorem keep_lt (h : ConcF C (toAS n t) a w N M ℓ) : ∀ (s : SK) (x : DenS s) (t' : TS),canon n t t' s = some x → ∀ j ∈ somes (keep n t s),j < t.hp.length := by
 have sr : ∀ {base : Nat} {cs cs' : List TV} {l : List (Option Nat)} {B : List TB},SR t.hp base cs cs' l B → ∀ j ∈ somes l,j < t.hp.length := by
  intro base cs cs' l B h
  induction h with
  | nil => intro j hj; simp [somes] at hj
  | leaf _ _ ih => exact ih
  | own h1 _ _ ih =>
   intro j hj
   simp only [somes,List.mem_cons] at hj
   rcases hj with rfl | hj
   ·exact (List.getElem?_eq_some_iff.1 h1).1
   ·exact ih j hj
  | none _ ih => exact ih
 have app : ∀ (a b : List (Option Nat)) (j : Nat),j ∈ somes (a ++ b) ↔ j ∈ somes a ∨ j ∈ somes b := fun a b j => by simp [somes_mem]
 intro s
 induction s with
 | un | d | fn | ip | al => intro x t' _ j hj; simp [keep,somes] at hj
 | sum a b => intro x t' h; cases h
 | o k T =>
  intro x t' hc j hj
  simp only [canon] at hc
  split at hc
  ·rename_i i e
   simp only [keep,e,somes,List.mem_singleton] at hj
   subst hj
   split at hc
   ·rename_i e2; exact (List.getElem?_eq_some_iff.1 e2).1
   ·cases hc
  ·rename_i e; simp [keep,e,somes] at hj
  ·cases hc
 | mo k T =>
  intro x t' hc j hj
  simp only [canon] at hc
  split at hc
  ·rename_i i e
   simp only [keep,e,somes,List.mem_singleton] at hj
   subst hj
   split at hc
   ·rename_i e2; exact (List.getElem?_eq_some_iff.1 e2).1
   ·cases hc
  ·rename_i e; simp [keep,e,somes] at hj
  ·cases hc
 | lg k T =>
  intro x t' hc j hj
  simp only [canon] at hc
  split at hc
  ·rename_i i e
   simp only [keep,e,somes,List.mem_singleton] at hj
   subst hj
   split at hc
   ·rename_i e2; exact (List.getElem?_eq_some_iff.1 e2).1
   ·rename_i e2; exact (List.getElem?_eq_some_iff.1 e2).1
   ·cases hc
  ·rename_i e; simp [keep,e,somes] at hj
  ·cases hc
 | bx k T =>
  intro x t' hc j hj
  simp only [canon] at hc
  split at hc
  ·rename_i i row off e
   cases hb : (Nat.beq row 0 && Nat.beq off 0) with
   | false => rw [hb] at hc; cases hc
   | true =>
    rw [hb,cond_true] at hc
    split at hc
    ·rename_i cs e2
     split at hc
     ·rename_i y l hz
      obtain ⟨c1,_,k1⟩ := srcC_spec t.hp T cs _ l [] hz
      simp only [keep,e,e2,hz] at hj
      rcases (app _ _ _).1 hj with h | h
      ·exact sr (k1 0) j h
      ·simp only [somes,List.mem_singleton] at h
       subst h
       exact (List.getElem?_eq_some_iff.1 e2).1
     ·cases hc
    ·cases hc
  ·cases hc
 | bv k T =>
  intro x t' hc j hj
  simp only [canon] at hc
  split at hc
  ·rename_i i row off e
   simp only [keep,e,somes,List.mem_singleton] at hj
   subst hj
   cases hb : (Nat.beq row 0 && Nat.beq off 0) with
   | false => rw [hb] at hc; cases hc
   | true =>
    rw [hb,cond_true] at hc
    split at hc
    ·rename_i cs e2; exact (List.getElem?_eq_some_iff.1 e2).1
    ·cases hc
  ·cases hc
 | av k m K =>
  intro x t' hc j hj
  simp only [canon] at hc
  split at hc
  ·rename_i i row off e
   simp only [keep,e,somes,List.mem_singleton] at hj
   subst hj
   cases hb : (Nat.beq row 0 && Nat.beq off 0) with
   | false => rw [hb] at hc; cases hc
   | true =>
    rw [hb,cond_true] at hc
    split at hc
    ·rename_i cs e2; exact (List.getElem?_eq_some_iff.1 e2).1
    ·cases hc
  ·cases hc
 | ow k T =>
  intro x t' hc j hj
  simp only [canon] at hc
  split at hc
  ·rename_i cs e
   split at hc
   ·rename_i y l hz
    obtain ⟨c1,_,k1⟩ := srcC_spec t.hp T cs _ l [] hz
    simp only [keep,e,hz] at hj
    exact sr (k1 0) j hj
   ·cases hc
  ·cases hc
 | pr a b iha ihb =>
  intro x t' hc j hj
  simp only [canon] at hc
  split at hc
  ·rename_i x1 x2 h1 h2
   simp only [keep] at hj
   rcases (app _ _ _).1 hj with h | h
   ·exact iha x1 t' h1 j h
   ·exact ihb x2 t' h2 j h
  ·cases hc
theorem isPre_get : ∀ {q i : Nat} {l : List (Option Nat)},isPre q i l = true → ∀ k,k < q → l[k]? = some (some (i + k))
 | 0,_,_,_,_,hk => by omega
 | q + 1,i,[],h,_,_ => by cases h
 | q + 1,i,none :: l,h,_,_ => by cases h
 | q + 1,i,some j :: l,h,k,hk => by
  simp only [isPre,Bool.and_eq_true,Nat.beq_eq] at h
  obtain ⟨rfl,h⟩ := h
  cases k with
  | zero => rfl
  | succ k =>
   have := isPre_get h k (by omega)
   rw [List.getElem?_cons_succ,this]
   congr 2; omega
theorem mask_full {q : Nat} (hC : ∀ k,q ≤ k → C.M0 k = none) {s : SK} {x : DenS s} (hq : isPre q 0 (keep n t s) = true) (hm : mask n s t = some x) (hD : ConcF C (toAS n t) a w N M ℓ) :
  ∃ N' M' ℓ',ConcF C (toAS n (mkS s x)) a w N' M' ℓ' ∧ Kept (keep n t s) (ust 0 s x).2 M ℓ M' ℓ' ∧ (∀ b o,N b o → N' b o) ∧ (somes (keep n t s)).Nodup ∧ (∀ j ∈ somes (keep n t s),j < t.hp.length) ∧ (ust 0 s x).2.length = (keep n t s).length ∧ ∃ t',canon n t t' s = some x := by
 unfold mask at hm
 simp only at hm
 cases hnb : nodupB (somes (keep n t s)) with
 | false => rw [hnb] at hm; cases hm
 | true =>
  rw [hnb,cond_true] at hm
  have hnd := nodupB_iff hnb
  have hlt := keep_lt hD s x _ hm
  have hlen := canon_len s x 0 _ hm
  obtain ⟨Mk,Lk,hK,hfr⟩ := hD.pick hnd hlt
  obtain ⟨M',ℓ',hkept⟩ := kept_ex (keep n t s) (ust 0 s x).2 hlen M ℓ
  obtain ⟨k1,k2,k3⟩ := hkept
  have hpre := isPre_get hq
  have hql : q ≤ (keep n t s).length := by
   rcases Nat.eq_zero_or_pos q with e | e
   ·omega
   ·have := (List.getElem?_eq_some_iff.1 (hpre (q - 1) (by omega))).1
    omega
  let N' : NT := fun b o => N b o ∨ ∃ p ∈ Lk,p.1 = b
  have hN : ∀ b o,N b o → N' b o := fun b o h => .inl h
  obtain ⟨q1,q2⟩ := canon_spec (N' := N') (M' := M') (ℓ' := ℓ') hD hK hN (fun p hp o => .inr ⟨p,hp,rfl⟩) s x 0 hm k1
  have hlt' : ∀ i j,(keep n t s)[i]? = some (some j) → j < (toAS n t).hp.length := fun i j e => by
   rw [toAS_hp,toHP_len]
   exact hlt j (somes_mem.2 (List.mem_of_getElem? e))
  have hpl : (toAS n (mkS s x)).hp.length = (ust 0 s x).2.length := by rw [toAS_hp,toHP_len]; simp [mkS]
  refine ⟨N',M',ℓ',⟨hD.df,?_,fun i y hy => ?_,fun i hi => ?_,fun i i' hi hi' hne p hp q hq => ?_,fun i hi p hp => ?_,fun b o hn => ?_,fun b o hn => .inl (hD.nup b o hn),fun b o hn => ?_,hD.fr,fun k hk => k2 k (by rw [← hpl]; exact hk),fun k m m0 h1 h0 => ?_,fun k hk => hC k (by rw [hpl,hlen] at hk; omega)⟩,⟨k1,k2,k3⟩,hN,hnd,hlt,hlen,_,hm⟩
  ·have hl := hD.sl.length
   rw [toAS_len] at hl
   have : ∀ (ys : List AV) (vs : List Value),ys.length = vs.length → (∀ i,Rep w N' M' (ys.getD i .any) (vs.getD i undef) []) → RepL w N' M' ys vs [] := by
    intro ys
    induction ys with
    | nil => intro vs hl _; cases vs with | nil => exact .nil | cons => simp at hl
    | cons y ys ih =>
     intro vs hl h
     cases vs with
     | nil => simp at hl
     | cons v vs => exact .cons (L1 := []) (L2 := []) (by simpa using h 0) (ih vs (by simpa using hl) fun i => by simpa using h (i + 1))
   refine this _ _ (by rw [toAS_len,hl]) fun i => ?_
   rw [toAS_get]
   unfold TS.get
   cases Nat.blt i n with
   | false => exact .any _
   | true =>
    rcases fnd_mem (mkS s x).u i with e | e
    ·simp only [cond_true,e]; exact .any _
    ·exact q2 i _ e
  ·rw [toAS_hp,toHP_get] at hy
   simp only [mkS,List.getElem?_map] at hy
   cases hb : (ust 0 s x).2[i]? with
   | none => rw [hb] at hy; cases hy
   | some b =>
    rw [hb] at hy
    simp only [Option.map_some,Option.some.injEq] at hy
    subst hy
    have := q1 i b hb
    rw [Nat.zero_add] at this
    exact this
  ·cases hq : (keep n t s)[i]? with
   | none =>
    have : ℓ' i = [] := by
     cases hl : ℓ' i with
     | nil => rfl
     | cons p _ => obtain ⟨j,e,_⟩ := k3 i p (by rw [hl]; simp); rw [hq] at e; cases e
    rw [this]; simp
   | some o =>
    cases o with
    | none =>
     have : ℓ' i = [] := by
      cases hl : ℓ' i with
      | nil => rfl
      | cons p _ => obtain ⟨j,e,_⟩ := k3 i p (by rw [hl]; simp); rw [hq] at e; cases e
     rw [this]; simp
    | some j =>
     have := (k1.so i j hq).2
     rw [Nat.zero_add] at this
     rw [this]
     exact hD.nd j (hlt' i j hq)
  ·obtain ⟨j,e,m1⟩ := k3 i p hp
   obtain ⟨j',e',m2⟩ := k3 i' q hq
   refine hD.dj j j' (hlt' i j e) (hlt' i' j' e') (fun ee => ?_) p m1 q m2
   subst ee
   exact hne (nodup_somes hnd e e')
  ·obtain ⟨j,e,m1⟩ := k3 i p hp
   obtain ⟨o1,o2,o3⟩ := hD.own j (hlt' i j e) p m1
   refine ⟨o1,o2,fun o hn => ?_⟩
   rcases hn with hn | hn
   ·exact o3 o hn
   ·exact absurd rfl ((hfr p.1 hn).2.2 j (somes_mem.2 (List.mem_of_getElem? e)) p m1)
  ·rcases hn with hn | hn
   ·exact hD.nlt b o hn
   ·exact (hfr b hn).1
  ·rcases hn with hn | hn
   ·exact hD.ndn b o hn
   ·exact .inr (hfr b hn).2.1
  ·have hk : k < q := by
    rcases Nat.lt_or_ge k q with h | h
    ·exact h
    ·rw [hC k h] at h0; cases h0
   have e := hpre k hk
   rw [Nat.zero_add] at e
   have := (k1.so k k e).1
   rw [Nat.zero_add] at this
   rw [this] at h1
   exact hD.mv k m m0 h1 h0
theorem mask_sound {q q' : Nat} (hC : ∀ k,q ≤ k → C.M0 k = none) (hqq : q ≤ q') {s : SK} {x : DenS s} (hm : maskQ n q' s t = some x) (hc : Conc C (toAS n t) a w) : Conc C (toAS n (mkS s x)) a w := by
 obtain ⟨N,M,ℓ,hD⟩ := (settle_conc hc).fn
 unfold maskQ at hm
 cases hq : isPre q' 0 (keep n (settle t) s) with
 | false => rw [hq] at hm; cases hm
 | true =>
  rw [hq,cond_true] at hm
  obtain ⟨N',M',ℓ',h,_⟩ := mask_full (q := q') (fun k hk => hC k (by omega)) hq hm hD
  exact h.c
theorem act_id (a : Act) (k : Nat) : a.put (some k) (a.eval (.tmp k)) = a := by
 cases a with
 | mk tmps defers =>
  simp only [Act.put,Act.eval]
  congr 1
  apply Array.ext
  ·simp
  ·intro i h1 h2
   rw [Array.getElem_setIfInBounds]
   split
   ·rename_i e; subst e; simp [Array.getD,h2]
   ·rfl
theorem al2_sound {w0 : World} (hD : ConcF C (toAS n t) a w N M ℓ) : ∀ (cs : List TV) (ks : List Nat),al2 n t cs ks = true → ∀ vs,RepL w N M (cs.map (av t.hp)) vs [] → vs = ks.map (fun q => a.tmps.toList.getD q undef) ∧ ∀ q ∈ ks,q < n := by
 intro cs
 induction cs with
 | nil =>
  intro ks h vs r
  cases ks with
  | nil => cases r; exact ⟨rfl,fun q hq => by cases hq⟩
  | cons => cases h
 | cons c cs ih =>
  intro ks h vs r
  cases ks with
  | nil => cases h
  | cons q ks =>
   simp only [al2,Bool.and_eq_true] at h
   obtain ⟨h1,h2⟩ := h
   split at h1
   ·rename_i j row off
    split at h1
    ·rename_i j' row' off' hq
     simp only [Bool.and_eq_true,Nat.beq_eq] at h1
     obtain ⟨rfl,rfl,rfl,rfl,hbx,hqn⟩ := h1
     rw [Nat.blt_eq] at hqn
     have hpkj : hpk t.hp j = some none := by
      unfold isBox at hbx
      split at hbx
      ·assumption
      ·cases hbx
     generalize hK : ([] : List Nat) = K at r
     cases r with
     | cons hx ht =>
      obtain ⟨rfl,rfl⟩ := List.append_eq_nil_iff.1 hK.symm
      obtain ⟨e1,e2⟩ := ih ks h2 _ ht
      have hs := hD.sl.get q
      rw [toAS_get,hq] at hs
      have hav : av t.hp (.ptr j 0 off) = .ptr j 1 0 off := by simp only [av,hpkj]
      rw [hav] at hx hs
      obtain ⟨z,hz⟩ : ∃ z,t.hp[j]? = some (some z) ∧ z.rlen = none := by
       unfold hpk at hpkj
       split at hpkj
       ·rename_i z hz; exact ⟨z,hz,by simpa using hpkj⟩
       ·cases hpkj
      obtain ⟨m,L1,q1,q2,_⟩ := hD.hp j (some (tb t.hp z)) (by rw [toAS_hp,toHP_get,hz.1]; rfl)
      have hml : m.len = 1 := by
       have := q2.len
       cases z with
       | box cs => simpa [tb] using this
       | ara n k L => simpa [tb] using this
       | arr => cases hz.2
       | rws => cases hz.2
       | hol => cases hz.2
       | tld => cases hz.2
       | log => cases hz.2
      have addr : ∀ v,Rep w N M (.ptr j 1 0 off) v [] → v = .pointer (some ⟨m.b,m.o + 0 * m.sz + off,none⟩) := fun v r => by
       cases r with
       | ptr mm g1 g2 =>
        rw [q1] at g1
        cases g1
        obtain ⟨_,g3⟩ := g2 m rfl
        obtain ⟨_,_,g4⟩ := g3 hml.symm
        rw [g4]
      refine ⟨?_,fun q' hq' => ?_⟩
      ·rw [List.map_cons,← e1,addr _ hx,addr _ hs]
      ·rcases List.mem_cons.1 hq' with rfl | hq'
       ·exact hqn
       ·exact e2 q' hq'
    ·cases h1
   ·cases h1
theorem addAl_sound {t' : TS} {L : List (Nat × Nat)} (hD : ConcF C (toAS n t) a w N M ℓ) : ∀ (l : List (Nat × FuncId × List Nat)) (t' : TS),alOk n t l = true → ConcD C (toAS n t') a w N' M' L → ConcD C (toAS n (addAl l t')) a w N' M' L := by
 intro l
 induction l with
 | nil => intro t' _ h; exact h
 | cons x l ih =>
  obtain ⟨k,f,ks⟩ := x
  intro t' ho h
  simp only [alOk,Bool.and_eq_true] at ho
  obtain ⟨h1,h2⟩ := ho
  rw [addAl]
  refine ih _ h2 ?_
  split at h1
  ·rename_i g cs hg
   simp only [Bool.and_eq_true,Nat.beq_eq] at h1
   obtain ⟨rfl,h3⟩ := h1
   have hs := hD.sl.get k
   rw [toAS_get,hg] at hs
   have r : Rep w N' M' (av t'.hp (.fn f (ks.map (fnd t'.u)))) (a.eval (.tmp k)) [] := by
    have he : a.eval (.tmp k) = a.tmps.toList.getD k undef := (getD_toList _ _ _).symm
    rw [he]
    simp only [av] at hs ⊢
    rw [avL_map] at hs ⊢
    generalize a.tmps.toList.getD k undef = v at hs
    cases hs with
    | fn r =>
     obtain ⟨e1,e2⟩ := al2_sound (w0 := w) hD cs ks h3 _ r
     rw [e1]
     refine .fn ?_
     have key : ∀ ks : List Nat,(∀ q ∈ ks,q < n) → RepL w N' M' ((ks.map (fnd t'.u)).map (av t'.hp)) (ks.map fun q => a.tmps.toList.getD q undef) [] := by
      intro ks
      induction ks with
      | nil => intro _; exact .nil
      | cons q ks ihk =>
       intro hq
       refine .cons (L1 := []) (L2 := []) ?_ (ihk fun q' h => hq q' (by simp [h]))
       have := h.sl.get q
       rw [toAS_get] at this
       unfold TS.get at this
       rw [show Nat.blt q n = true from by rw [Nat.blt_eq]; exact hq q (by simp),cond_true] at this
       exact this
     exact key ks e2
   have := h.put (some k) r
   rw [act_id] at this
   rw [toAS_put]
   exact this
  ·cases h1
theorem splitL_eq {Ω : Type} (k : TS → Ω) : ∀ (s : SK) (x : DenS s),splitL k s x = k (stL s x) := by
 intro s
 induction s with
 | sum a b iha ihb => intro x; cases x with
  | inl x => exact iha x
  | inr x => exact ihb x
 | _ => intro x; rfl
theorem maskL_sound {q q' : Nat} (hC : ∀ k,q ≤ k → C.M0 k = none) (hqq : q ≤ q') : ∀ {s : SK} {x : DenS s},maskL n q' s t = some x → Conc C (toAS n t) a w → Conc C (toAS n (stL s x)) a w := by
 have plain : ∀ {t : TS} {s : SK} {x : DenS s},(bif alOk n (settle t) (alsS s) then maskQ n q' s t else none) = some x → Conc C (toAS n t) a w → Conc C (toAS n (addAl (alsS s) (mkS s x))) a w := fun {t s x} hm hc => by
  obtain ⟨N,M,ℓ,hD⟩ := (settle_conc hc).fn
  cases ha : alOk n (settle t) (alsS s) with
  | false => rw [ha] at hm; cases hm
  | true =>
   rw [ha,cond_true] at hm
   obtain ⟨N',M',L',h⟩ := mask_sound hC hqq hm hc
   exact ⟨N',M',L',addAl_sound (t' := t) hD (alsS s) (mkS s x) ha h⟩
 intro s
 induction s with
 | sum a b iha ihb =>
  intro x hm hc
  simp only [maskL] at hm
  split at hm
  ·rename_i y hy
   cases hm
   exact iha hy hc
  ·split at hm
   ·rename_i y hy
    cases hm
    exact ihb hy hc
   ·cases hm
 | _ => intro x hm hc; exact plain hm (look_conc _ hc)
end
end Go.Proofs.Ytkmhopbmpeiofaa.Nx
namespace Go.Proofs.Ytkmhopbmpeiofaa.Nx
open Go Go.RowKit
def resBL (R : RK) (ρ : DenR R) (s : SK) (y : DenW s) : List TB := (resR 0 R ρ).2 ++ slW s (resR 0 R ρ).2.length y
def resBM (R : RK) (ρ : DenR R) (s : SK) (y : DenW s) : THP := (resBL R ρ s y).map some ++ fxW s (resR 0 R ρ).2.length y
structure BackM (w : World) (N : NT) (M : MT) (L : List (Nat × Nat)) (hpT : THP) (np : Nat) (x : TV) (r : Value) (w' : World) (N' : NT) (M' : MT) (L' : List (Nat × Nat)) : Prop where
 rep : Rep w' N' M' (av hpT x) r []
 env : Env w' N' M' (toHP hpT) L'
 fr : FrN N (L.map Prod.fst) w w'
 nup : ∀ b o,N b o → N' b o
 ndn : ∀ b o,N' b o → N b o ∨ w.heap.size ≤ b ∨ b ∈ L.map Prod.fst
 new : ∀ p ∈ L',w.heap.size ≤ p.1 ∨ p.1 ∈ L.map Prod.fst
 mv : ∀ k m m0,M' (np + k) = some (some m) → M k = some (some m0) → m0.len ≤ m.len ∧ (m.len = m0.len → m = m0)
def CMok (P : Program) (cm : CM) : Prop := ∀ x r,cm.F x = some r → lenW cm.s x r.2 = true ∧ Good P cm.f ∧ ∀ w N M L vs,Env w N M (toHP ((ust 0 cm.s x).2.map some)) L →
 RepL w N M (toAS (slotsS cm.s).length (mkS cm.s x)).sl vs [] →
  Calls P cm.f ⟨vs⟩ w fun e w' => ∃ v,e = .returned v ∧ ∃ N' M' L',BackM w N M L (resBM cm.R r.1 cm.s r.2) (resBL cm.R r.1 cm.s r.2).length (tupT (resR 0 cm.R r.1).1) v w' N' M' L'
def CXok (P : Program) : CX → Prop
 | .c ct => CTok P ct
 | .m cm => CMok P cm
theorem low_rsC {h : THP} : ∀ (T : Ty) (x : Den T) (b m : Nat),b + (rsC b T x).2.length ≤ m → ∀ c ∈ (rsC b T x).1,(av h c).low m = true ∧ ∀ h',(∀ j,j < m → hpk h j = hpk h' j) → av h c = av h' c := by
 intro T
 induction T with
 | i | bl | tx => intro x b m _ c hc; simp only [rsC,List.mem_singleton] at hc; subst hc; exact ⟨rfl,fun _ _ => rfl⟩
 | sv t _ => intro x b m _ c hc; simp only [rsC,List.mem_singleton] at hc; subst hc; exact ⟨low_mkr (ag := (Ty.sl t).ag) (l := cls false (.sl t) x) (low_cls m false (.sl t) x),fun _ _ => rfl⟩
 | ar n k =>
  intro x b m _ c hc
  simp only [rsC,tcls,List.mem_map] at hc
  obtain ⟨i,_,rfl⟩ := hc
  exact ⟨rfl,fun _ _ => rfl⟩
 | sl t _ =>
  intro x b m hm c hc
  simp only [rsC,List.mem_singleton] at hc
  simp only [rsC,List.length_singleton] at hm
  subst hc
  refine ⟨?_,fun h' e => ?_⟩
  ·simp only [av]
   split
   ·simp only [AV.low,decide_eq_true_eq]; omega
   ·rfl
  ·simp only [av]
   rw [e b (by omega)]
 | st t ih => intro x b; exact ih x b
 | pr a d iha ihd =>
  intro x b m hm c hc
  have e : (rsC b (.pr a d) x).2.length = (rsC b a x.1).2.length + (rsC (b + (rsC b a x.1).2.length) d x.2).2.length := by simp [rsC]
  rcases List.mem_append.1 hc with hc | hc
  ·exact iha _ _ m (by omega) c hc
  ·exact ihd _ _ m (by omega) c hc
theorem low_agL {h : THP} {m : Nat} {cs : List TV} (hc : ∀ c ∈ cs,(av h c).low m = true ∧ ∀ h',(∀ j,j < m → hpk h j = hpk h' j) → av h c = av h' c) : lowL m (avL h cs) = true ∧ ∀ h',(∀ j,j < m → hpk h j = hpk h' j) → avL h cs = avL h' cs := by
 refine ⟨?_,fun h' e => ?_⟩
 ·rw [lowL_all,avL_map,List.all_map,List.all_eq_true]
  exact fun c k => (hc c k).1
 ·rw [avL_map,avL_map]
  exact List.map_congr_left fun c k => (hc c k).2 h' e
theorem low_resT {h : THP} (T : Ty) (x : Den T) (b m : Nat) (hm : b + (resT b T x).2.length ≤ m) : (av h (resT b T x).1).low m = true ∧ ∀ h',(∀ j,j < m → hpk h j = hpk h' j) → av h (resT b T x).1 = av h' (resT b T x).1 := by
 unfold resT at hm ⊢
 cases hf : T.flat with
 | true =>
  simp only [cond_true,av_nrm]
  exact ⟨low_mkr (low_cls m false T x),fun _ _ => trivial⟩
 | false =>
  rw [hf,cond_false] at hm
  simp only [cond_false]
  cases ha : T.ag with
  | true =>
   rw [ha,cond_true] at hm
   obtain ⟨k1,k2⟩ := low_agL (low_rsC (h := h) T x b m hm)
   refine ⟨k1,fun h' e => ?_⟩
   simp only [cond_true,av]
   rw [k2 h' e]
  | false =>
   rw [ha,cond_false] at hm
   have := low_rsC (h := h) T x b m hm
   simp only [cond_false]
   generalize (rsC b T x).1 = l at this
   cases l with
   | nil => exact ⟨rfl,fun _ _ => rfl⟩
   | cons c l => exact this c (by simp)
theorem low_resR {h : THP} : ∀ (R : RK) (r : DenR R) (b m : Nat),b + (resR b R r).2.length ≤ m → ∀ c ∈ (resR b R r).1,(av h c).low m = true ∧ ∀ h',(∀ j,j < m → hpk h j = hpk h' j) → av h c = av h' c := by
 intro R
 induction R with
 | un => intro r b m _ c hc; cases hc
 | t T => intro r b m hm c hc; simp only [resR,List.mem_singleton] at hc; subst hc; exact low_resT T r b m hm
 | pv T =>
  intro r b m hm c hc
  simp only [resR,List.mem_singleton] at hc
  simp only [resR,List.length_singleton] at hm
  subst hc
  refine ⟨?_,fun h' e => ?_⟩
  ·simp only [av]
   split
   ·simp only [AV.low,decide_eq_true_eq]; omega
   ·simp only [AV.low,decide_eq_true_eq]; omega
   ·rfl
  ·simp only [av]
   rw [e b (by omega)]
 | pr a d iha ihd =>
  intro x b m hm c hc
  have e : (resR b (.pr a d) x).2.length = (resR b a x.1).2.length + (resR (b + (resR b a x.1).2.length) d x.2).2.length := by simp [resR]
  rcases List.mem_append.1 hc with hc | hc
  ·exact iha _ _ m (by omega) c hc
  ·exact ihd _ _ m (by omega) c hc
theorem low_tup {h : THP} {m : Nat} {cs : List TV} (hc : ∀ c ∈ cs,(av h c).low m = true ∧ ∀ h',(∀ j,j < m → hpk h j = hpk h' j) → av h c = av h' c) : (av h (tupT cs)).low m = true ∧ ∀ h',(∀ j,j < m → hpk h j = hpk h' j) → av h (tupT cs) = av h' (tupT cs) := by
 have tp : ∀ cs : List TV,(∀ c ∈ cs,(av h c).low m = true ∧ ∀ h',(∀ j,j < m → hpk h j = hpk h' j) → av h c = av h' c) → (av h (.tp cs)).low m = true ∧ ∀ h',(∀ j,j < m → hpk h j = hpk h' j) → av h (.tp cs) = av h' (.tp cs) := fun cs hc => by
  obtain ⟨k1,k2⟩ := low_agL hc
  refine ⟨k1,fun h' e => ?_⟩
  simp only [av]
  rw [k2 h' e]
 match cs,hc with
 | [],hc => exact tp [] hc
 | [x],hc => exact hc x (by simp)
 | x :: y :: cs,hc => exact tp _ hc
theorem putM_len : ∀ (l : List (Option Nat)) (B : List (Option TB)) (hp : THP),(putM hp l B).length = hp.length
 | [],_,_ => by unfold putM; rfl
 | some j :: l,[],hp => rfl
 | none :: l,[],hp => rfl
 | some j :: l,b :: B,hp => by rw [putM,putM_len l B]; simp
 | none :: l,b :: B,hp => by rw [putM,putM_len l B]
theorem putM_other : ∀ (l : List (Option Nat)) (B : List (Option TB)) (hp : THP) (k : Nat),(∀ i : Nat,l[i]? ≠ some (some k)) → (putM hp l B)[k]? = hp[k]?
 | [],_,_,_,_ => by unfold putM; rfl
 | some j :: l,[],hp,_,_ => rfl
 | none :: l,[],hp,_,_ => rfl
 | some j :: l,b :: B,hp,k,h => by
  rw [putM,putM_other l B _ k fun i => h (i + 1)]
  have : j ≠ k := fun e => h 0 (by rw [e]; rfl)
  rw [List.getElem?_set_ne this]
 | none :: l,b :: B,hp,k,h => by rw [putM,putM_other l B _ k fun i => h (i + 1)]
theorem putM_at : ∀ (l : List (Option Nat)) (B : List (Option TB)) (hp : THP),(somes l).Nodup → (∀ j ∈ somes l,j < hp.length) → ∀ (i k : Nat) (b : Option TB),l[i]? = some (some k) → B[i]? = some b → (putM hp l B)[k]? = some b
 | [],_,_,_,_,i,k,b,h,_ => by simp at h
 | x :: l,[],_,_,_,i,k,b,_,h => by simp at h
 | none :: l,b' :: B,hp,hn,hl,i,k,b,h1,h2 => by
  rw [putM]
  cases i with
  | zero => simp at h1
  | succ i => exact putM_at l B hp hn hl i k b (by simpa using h1) (by simpa using h2)
 | some j :: l,b' :: B,hp,hn,hl,i,k,b,h1,h2 => by
  rw [putM]
  have hn' := List.nodup_cons.1 hn
  cases i with
  | zero =>
   simp only [List.getElem?_cons_zero,Option.some.injEq] at h1 h2
   subst h1; subst h2
   rw [putM_other l B _ j fun i e => hn'.1 (somes_mem.2 (List.mem_of_getElem? e))]
   have := hl j (by simp [somes])
   simp [this]
  | succ i => exact putM_at l B _ hn'.2 (fun m hm => by rw [List.length_set]; exact hl m (by simp [somes,hm])) i k b (by simpa using h1) (by simpa using h2)
theorem goneM_iff : ∀ (l : List (Option Nat)) (B : List (Option TB)),B.length = l.length → ∀ k,k ∈ goneM l B ↔ ∃ i : Nat,l[i]? = some (some k) ∧ B[i]? = some none
 | [],_,_,k => by simp [goneM]
 | x :: l,[],h,k => by simp at h
 | none :: l,b :: B,h,k => by
  rw [goneM,goneM_iff l B (by simpa using h) k]
  refine ⟨fun ⟨i,h1,h2⟩ => ⟨i + 1,by simpa using h1,by simpa using h2⟩,fun ⟨i,h1,h2⟩ => ?_⟩
  cases i with
  | zero => simp at h1
  | succ i => exact ⟨i,by simpa using h1,by simpa using h2⟩
 | some j :: l,some b :: B,h,k => by
  rw [goneM,Option.isSome_some,cond_true,goneM_iff l B (by simpa using h) k]
  refine ⟨fun ⟨i,h1,h2⟩ => ⟨i + 1,by simpa using h1,by simpa using h2⟩,fun ⟨i,h1,h2⟩ => ?_⟩
  cases i with
  | zero => simp at h2
  | succ i => exact ⟨i,by simpa using h1,by simpa using h2⟩
 | some j :: l,none :: B,h,k => by
  rw [goneM,Option.isSome_none,cond_false,List.mem_cons,goneM_iff l B (by simpa using h) k]
  refine ⟨fun h => ?_,fun ⟨i,h1,h2⟩ => ?_⟩
  ·rcases h with rfl | ⟨i,h1,h2⟩
   ·exact ⟨0,rfl,rfl⟩
   ·exact ⟨i + 1,by simpa using h1,by simpa using h2⟩
  ·cases i with
   | zero => simp at h1; exact .inl h1.symm
   | succ i => exact .inr ⟨i,by simpa using h1,by simpa using h2⟩
theorem slW_base : ∀ (s : SK) (y : DenW s) (b : Nat),slW s b y = slW s 0 y := by
 intro s
 induction s with
 | un | d | fn | ip | o | mo | lg | av | ow | al | sum | bv => intro y b; rfl
 | bx k T => intro y b; exact (rsC_shift T y b).2
 | pr a c iha ihc =>
  intro y b
  simp only [slW]
  rw [iha y.1 b,ihc y.2 (b + slen a),ihc y.2 (0 + slen a)]
theorem slW_len : ∀ (s : SK) (y : DenW s) (b : Nat),(slW s b y).length = slen s := by
 intro s
 induction s with
 | un | d | fn | ip | o | mo | lg | av | ow | al | sum | bv => intro y b; rfl
 | bx k T => intro y b; exact rsC_nsl T y b
 | pr a c iha ihc => intro y b; simp only [slW,slen,List.length_append,iha,ihc]
theorem slW_arr : ∀ (s : SK) (y : DenW s) (b : Nat),∀ k ∈ slW s b y,isArrT k = true := by
 intro s
 induction s with
 | un | d | fn | ip | o | mo | lg | av | ow | al | sum | bv => intro y b k hk; cases hk
 | bx k T => intro y b; exact rsC_arr T y b
 | pr a c iha ihc =>
  intro y b k hk
  simp only [slW] at hk
  rcases List.mem_append.1 hk with h | h
  ·exact iha _ _ k h
  ·exact ihc _ _ k h
theorem blkL_nov : ∀ (T : Ty),T.nov = true → ∀ (y : DenL T),∀ k ∈ blkL T y,k.novB = true := by
 intro T
 induction T with
 | i | bl | tx | sv | ar => intro _ y x hx; cases hx
 | sl t _ => intro h y x hx; simp only [blkL,List.mem_singleton] at hx; subst hx; exact h
 | st t ih => exact fun h y => ih h y
 | pr a c iha ihc =>
  intro h y x hx
  simp only [Ty.nov,Bool.and_eq_true] at h
  simp only [blkL] at hx
  rcases List.mem_append.1 hx with hx | hx
  ·exact iha h.1 _ x hx
  ·exact ihc h.2 _ x hx
theorem slW_nov : ∀ (s : SK),noBv s = true → ∀ (y : DenW s) (b : Nat),∀ k ∈ slW s b y,k.novB = true := by
 intro s
 induction s with
 | un | d | fn | ip | o | mo | lg | av | ow | al | sum | bv => intro _ y b k hk; cases hk
 | bx k T => intro h y b; exact rsC_nov T h y b
 | pr a c iha ihc =>
  intro h y b k hk
  simp only [noBv,Bool.and_eq_true] at h
  simp only [slW] at hk
  rcases List.mem_append.1 hk with hk | hk
  ·exact iha h.1 _ _ k hk
  ·exact ihc h.2 _ _ k hk
theorem fxW_nov : ∀ (s : SK),noBv s = true → ∀ (y : DenW s) (b : Nat),∀ k,some k ∈ fxW s b y → k.novB = true := by
 intro s
 induction s with
 | un | d | fn | ip | al | sum => intro _ y b k hk; cases hk
 | bv k T => intro h; cases h
 | mo k T => intro h y b k hk; simp [fxW] at hk
 | lg k T => intro h; cases h
 | av k m K => intro h; cases h
 | o k T => intro h y b k hk; simp only [fxW,List.mem_singleton,Option.some.injEq] at hk; subst hk; exact h
 | ow k T =>
  intro h y b k hk
  simp only [fxW] at hk
  obtain ⟨z,hz,e⟩ := List.mem_map.1 hk
  have e := Option.some.inj e
  subst e
  exact blkL_nov T h y z hz
 | bx k T =>
  intro h y b k hk
  simp only [fxW] at hk
  rcases List.mem_append.1 hk with hk | hk
  ·rw [List.mem_replicate] at hk; cases hk.2
  ·simp only [List.mem_singleton,Option.some.injEq] at hk; subst hk; rfl
 | pr a c iha ihc =>
  intro h y b k hk
  simp only [noBv,Bool.and_eq_true] at h
  simp only [fxW] at hk
  rcases List.mem_append.1 hk with hk | hk
  ·exact iha h.1 _ _ k hk
  ·exact ihc h.2 _ _ k hk
theorem fxW_len : ∀ (s : SK) (y : DenW s) (b : Nat),(fxW s b y).length = blen s := by
 intro s
 induction s with
 | un | d | fn | ip | o | mo | lg | av | al | sum | bv => intro y b; rfl
 | ow k T => intro y b; simp only [fxW,blen,List.length_map]; exact blkL_nsl T y
 | bx k T => intro y b; simp [fxW,blen]
 | pr a c iha ihc => intro y b; simp only [fxW,blen,List.length_append,iha,ihc]
def TB.shf (b : Nat) : TB → TB
 | .box cs => .box (shfL b cs)
 | x => x
theorem fxW_shift : ∀ (s : SK) (y : DenW s) (b n : Nat),fxW s (b + n) y = (fxW s b y).map (Option.map (TB.shf n)) := by
 intro s
 induction s with
 | un | d | fn | ip | o | mo | lg | av | al | sum => intro y b n; rfl
 | bv k T => intro y b n; simp only [fxW,List.map_cons,List.map_nil,Option.map_some,TB.shf,shfL_tcls]
 | ow k T =>
  intro y b n
  simp only [fxW,List.map_map]
  refine List.map_congr_left fun x hx => ?_
  have : ∀ (T : Ty) (y : DenL T),∀ x ∈ blkL T y,isArrT x = true := by
   intro T
   induction T with
   | i | bl | tx | sv | ar => intro y x hx; cases hx
   | sl t _ => intro y x hx; simp only [blkL,List.mem_singleton] at hx; subst hx; rfl
   | st t ih => exact fun y => ih y
   | pr a c iha ihc =>
    intro y x hx
    simp only [blkL] at hx
    rcases List.mem_append.1 hx with h | h
    ·exact iha _ x h
    ·exact ihc _ x h
  have h := this T y x hx
  cases x <;> first | rfl | cases h
 | bx k T =>
  intro y b n
  simp only [fxW,List.map_append,List.map_replicate,List.map_cons,List.map_nil,Option.map_none,Option.map_some,TB.shf]
  rw [(rsC_shift T y (b + n)).1,(rsC_shift T y b).1,shfL_shfL]
 | pr a c iha ihc =>
  intro y b n
  simp only [fxW,List.map_append]
  rw [iha,← ihc,show b + n + slen a = b + slen a + n from by omega]
theorem c1_rsC {h : THP} : ∀ (T : Ty) (x : Den T) (b : Nat),(∀ i k,(rsC b T x).2[i]? = some k → h[b + i]? = some (some k)) → ∀ c ∈ (rsC b T x).1,c.c1 h = true := by
 intro T
 induction T with
 | i | bl | tx | sv => intro x b _ c hc; simp only [rsC,List.mem_singleton] at hc; subst hc; rfl
 | ar n k =>
  intro x b _ c hc
  simp only [rsC,tcls,List.mem_map] at hc
  obtain ⟨i,_,rfl⟩ := hc
  rfl
 | sl t _ =>
  intro x b hh c hc
  simp only [rsC,List.mem_singleton] at hc
  subst hc
  have := hh 0 _ rfl
  rw [Nat.add_zero] at this
  simp [TV.c1,isArr,hpk,this,TB.rlen]
 | st t ih => intro x b; exact ih x b
 | pr a d iha ihd =>
  intro x b hh c hc
  simp only [rsC] at hh hc
  rcases List.mem_append.1 hc with hc | hc
  ·exact iha _ _ (fun i k e => hh i k (by rw [List.getElem?_append_left (List.getElem?_eq_some_iff.1 e).1]; exact e)) c hc
  ·refine ihd _ _ (fun i k e => ?_) c hc
   rw [Nat.add_assoc]
   exact hh _ k (by rw [List.getElem?_append_right (by omega),Nat.add_sub_cancel_left]; exact e)
def noBb : SK → Bool
 | .bv _ _ => false
 | .pr a b => noBb a && noBb b
 | _ => true
theorem fxW_box : ∀ (s : SK),noBb s = true → ∀ (y : DenW s) (b i : Nat) (cs : List TV),(fxW s b y)[i]? = some (some (.box cs)) → ∃ (T : Ty) (x : Den T) (o : Nat),cs = (rsC (b + o) T x).1 ∧ o + (rsC (b + o) T x).2.length ≤ slen s ∧ ∀ j k,(rsC (b + o) T x).2[j]? = some k → (slW s b y)[o + j]? = some k := by
 intro s
 induction s with
 | bv k T => intro h; cases h
 | un | d | fn | ip | al | sum => intro _ y b i cs h; simp [fxW] at h
 | o k T =>
  intro _ y b i cs h
  simp only [fxW] at h
  cases i with
  | zero => simp at h
  | succ i => simp at h
 | mo k T =>
  intro _ y b i cs h
  simp only [fxW] at h
  cases i with
  | zero => simp at h
  | succ i => simp at h
 | lg k T =>
  intro _ y b i cs h
  simp only [fxW] at h
  cases i with
  | zero => simp at h
  | succ i => simp at h
 | av k m1 K =>
  intro _ y b i cs h
  simp only [fxW] at h
  cases i with
  | zero => simp at h
  | succ i => simp at h
 | ow k T =>
  intro _ y b i cs h
  simp only [fxW,List.getElem?_map] at h
  have : ∀ (T : Ty) (y : DenL T),∀ x ∈ blkL T y,isArrT x = true := by
   intro T
   induction T with
   | i | bl | tx | sv | ar => intro y x hx; cases hx
   | sl t _ => intro y x hx; simp only [blkL,List.mem_singleton] at hx; subst hx; rfl
   | st t ih => exact fun y => ih y
   | pr a c iha ihc =>
    intro y x hx
    simp only [blkL] at hx
    rcases List.mem_append.1 hx with h | h
    ·exact iha _ x h
    ·exact ihc _ x h
  cases h1 : (blkL T y)[i]? with
  | none => rw [h1] at h; cases h
  | some x =>
   rw [h1] at h
   simp only [Option.map_some,Option.some.injEq] at h
   have := this T y x (List.mem_of_getElem? h1)
   rw [h] at this; cases this
 | bx k T =>
  intro hb y b i cs h
  simp only [noBb,Bool.and_eq_true] at hb
  simp only [fxW] at h
  rcases Nat.lt_or_ge i T.nsl with q | q
  ·rw [List.getElem?_append_left (by simpa using q),List.getElem?_replicate,if_pos q] at h; cases h
  ·rw [List.getElem?_append_right (by simpa using q),List.length_replicate] at h
   cases hi : i - T.nsl with
   | zero =>
    rw [hi] at h
    simp only [List.getElem?_cons_zero,Option.some.injEq,TB.box.injEq] at h
    exact ⟨T,y,0,h.symm,by rw [rsC_nsl]; simp [slen],fun j k e => by rw [Nat.zero_add]; exact e⟩
   | succ => rw [hi] at h; simp at h
 | pr a c iha ihc =>
  intro hb y b i cs h
  simp only [noBb,Bool.and_eq_true] at hb
  simp only [fxW] at h
  rcases Nat.lt_or_ge i (blen a) with q | q
  ·rw [List.getElem?_append_left (by rw [fxW_len]; exact q)] at h
   obtain ⟨T,x,o,h1,h0,h2⟩ := iha hb.1 y.1 b i cs h
   refine ⟨T,x,o,h1,by simp only [slen]; omega,fun j k e => ?_⟩
   have := h2 j k e
   simp only [slW]
   rw [List.getElem?_append_left (List.getElem?_eq_some_iff.1 this).1]; exact this
  ·rw [List.getElem?_append_right (by rw [fxW_len]; exact q),fxW_len] at h
   obtain ⟨T,x,o,h1,h0,h2⟩ := ihc hb.2 y.2 _ _ cs h
   refine ⟨T,x,slen a + o,by rw [← Nat.add_assoc]; exact h1,by rw [← Nat.add_assoc]; simp only [slen]; omega,fun j k e => ?_⟩
   rw [← Nat.add_assoc] at e
   have := h2 j k e
   simp only [slW]
   rw [List.getElem?_append_right (by rw [slW_len]; omega),slW_len,show slen a + o + j - slen a = o + j from by omega]; exact this
theorem fxW_boxN : ∀ (s : SK),noBv s = true → ∀ (y : DenW s) (b i : Nat) (cs : List TV),(fxW s b y)[i]? = some (some (.box cs)) → ∃ (T : Ty) (x : Den T) (o : Nat),cs = (rsC (b + o) T x).1 ∧ o + (rsC (b + o) T x).2.length ≤ slen s ∧ (∀ j k,(rsC (b + o) T x).2[j]? = some k → (slW s b y)[o + j]? = some k) ∧ T.nov = true := by
 intro s
 induction s with
 | bv k T => intro h; cases h
 | un | d | fn | ip | al | sum => intro _ y b i cs h; simp [fxW] at h
 | o k T =>
  intro _ y b i cs h
  simp only [fxW] at h
  cases i with
  | zero => simp at h
  | succ i => simp at h
 | mo k T =>
  intro _ y b i cs h
  simp only [fxW] at h
  cases i with
  | zero => simp at h
  | succ i => simp at h
 | lg k T =>
  intro _ y b i cs h
  simp only [fxW] at h
  cases i with
  | zero => simp at h
  | succ i => simp at h
 | av k m1 K =>
  intro _ y b i cs h
  simp only [fxW] at h
  cases i with
  | zero => simp at h
  | succ i => simp at h
 | ow k T =>
  intro _ y b i cs h
  simp only [fxW,List.getElem?_map] at h
  have : ∀ (T : Ty) (y : DenL T),∀ x ∈ blkL T y,isArrT x = true := by
   intro T
   induction T with
   | i | bl | tx | sv | ar => intro y x hx; cases hx
   | sl t _ => intro y x hx; simp only [blkL,List.mem_singleton] at hx; subst hx; rfl
   | st t ih => exact fun y => ih y
   | pr a c iha ihc =>
    intro y x hx
    simp only [blkL] at hx
    rcases List.mem_append.1 hx with h | h
    ·exact iha _ x h
    ·exact ihc _ x h
  cases h1 : (blkL T y)[i]? with
  | none => rw [h1] at h; cases h
  | some x =>
   rw [h1] at h
   simp only [Option.map_some,Option.some.injEq] at h
   have := this T y x (List.mem_of_getElem? h1)
   rw [h] at this; cases this
 | bx k T =>
  intro hb y b i cs h
  simp only [fxW] at h
  rcases Nat.lt_or_ge i T.nsl with q | q
  ·rw [List.getElem?_append_left (by simpa using q),List.getElem?_replicate,if_pos q] at h; cases h
  ·rw [List.getElem?_append_right (by simpa using q),List.length_replicate] at h
   cases hi : i - T.nsl with
   | zero =>
    rw [hi] at h
    simp only [List.getElem?_cons_zero,Option.some.injEq,TB.box.injEq] at h
    exact ⟨T,y,0,h.symm,by rw [rsC_nsl]; simp [slen],fun j k e => (by rw [Nat.zero_add]; exact e),hb⟩
   | succ => rw [hi] at h; simp at h
 | pr a c iha ihc =>
  intro hb y b i cs h
  simp only [noBv,Bool.and_eq_true] at hb
  simp only [fxW] at h
  rcases Nat.lt_or_ge i (blen a) with q | q
  ·rw [List.getElem?_append_left (by rw [fxW_len]; exact q)] at h
   obtain ⟨T,x,o,h1,h0,h2,h9⟩ := iha hb.1 y.1 b i cs h
   refine ⟨T,x,o,h1,by simp only [slen]; omega,fun j k e => ?_,h9⟩
   have := h2 j k e
   simp only [slW]
   rw [List.getElem?_append_left (List.getElem?_eq_some_iff.1 this).1]; exact this
  ·rw [List.getElem?_append_right (by rw [fxW_len]; exact q),fxW_len] at h
   obtain ⟨T,x,o,h1,h0,h2,h9⟩ := ihc hb.2 y.2 _ _ cs h
   refine ⟨T,x,slen a + o,by rw [← Nat.add_assoc]; exact h1,by rw [← Nat.add_assoc]; simp only [slen]; omega,fun j k e => ?_,h9⟩
   rw [← Nat.add_assoc] at e
   have := h2 j k e
   simp only [slW]
   rw [List.getElem?_append_right (by rw [slW_len]; omega),slW_len,show slen a + o + j - slen a = o + j from by omega]; exact this
theorem fxW_box2 : ∀ (s : SK) (y : DenW s) (b i : Nat) (cs : List TV),(fxW s b y)[i]? = some (some (.box cs)) → isDat (.box cs) = true ∨ ∃ (T : Ty) (x : Den T) (o : Nat),cs = (rsC (b + o) T x).1 ∧ o + (rsC (b + o) T x).2.length ≤ slen s ∧ ∀ j k,(rsC (b + o) T x).2[j]? = some k → (slW s b y)[o + j]? = some k := by
 intro s
 induction s with
 | bv k T =>
  intro y b i cs h
  simp only [fxW] at h
  cases i with
  | zero =>
   simp only [List.getElem?_cons_zero,Option.some.injEq,TB.box.injEq] at h
   subst h
   exact .inl (tcls_dat T y)
  | succ i => simp at h
 | pr a c iha ihc =>
  intro y b i cs h
  simp only [fxW] at h
  rcases Nat.lt_or_ge i (blen a) with q | q
  ·rw [List.getElem?_append_left (by rw [fxW_len]; exact q)] at h
   rcases iha y.1 b i cs h with h | ⟨T,x,o,h1,h0,h2⟩
   ·exact .inl h
   refine .inr ⟨T,x,o,h1,by simp only [slen]; omega,fun j k e => ?_⟩
   have := h2 j k e
   simp only [slW]
   rw [List.getElem?_append_left (List.getElem?_eq_some_iff.1 this).1]; exact this
  ·rw [List.getElem?_append_right (by rw [fxW_len]; exact q),fxW_len] at h
   rcases ihc y.2 _ _ cs h with h | ⟨T,x,o,h1,h0,h2⟩
   ·exact .inl h
   refine .inr ⟨T,x,slen a + o,by rw [← Nat.add_assoc]; exact h1,by rw [← Nat.add_assoc]; simp only [slen]; omega,fun j k e => ?_⟩
   rw [← Nat.add_assoc] at e
   have := h2 j k e
   simp only [slW]
   rw [List.getElem?_append_right (by rw [slW_len]; omega),slW_len,show slen a + o + j - slen a = o + j from by omega]; exact this
 | _ => intro y b i cs h; exact .inr (fxW_box _ rfl y b i cs h)
theorem keepO {n : Nat} {t t' : TS} : ∀ (s : SK) (x : DenS s) (y : DenW s) (base bs : Nat),canon n t t' s = some x → lenW s x y = true →
  (fxW s bs y).length = (keep n t s).length ∧ ∀ i : Nat,i < (keep n t s).length → (fxW s bs y)[i]? = some none ∨
   (∃ (A B : Ty) (X : List (Den A)) (Y : List (Den B)),(ust base s x).2[i]? = some (.arr A true X) ∧ (fxW s bs y)[i]? = some (some (.arr B true Y)) ∧ A.sz = B.sz ∧ Y.length = X.length ∧
    ∀ j,(keep n t s)[i]? = some (some j) → ∃ (o : Bool) (Z : List (Den A)),t.hp[j]? = some (some (.arr A o Z)) ∧ Z.length = X.length) ∨
   ∃ (cs cs0 cs1 : List TV) (j : Nat),(ust base s x).2[i]? = some (.box cs0) ∧ (fxW s bs y)[i]? = some (some (.box cs1)) ∧ (keep n t s)[i]? = some (some j) ∧ t.hp[j]? = some (some (.box cs)) := by
 intro s
 induction s with
 | un | d | fn | ip | al => intro x y base bs _ _; exact ⟨rfl,fun i hi => by simp [keep] at hi⟩
 | sum a b => intro x y base bs h; cases h
 | bx k T =>
  intro x y base bs hc _
  simp only [canon] at hc
  split at hc
  ·rename_i j row off e
   cases hb : (Nat.beq row 0 && Nat.beq off 0) with
   | false => rw [hb] at hc; cases hc
   | true =>
    rw [hb,cond_true] at hc
    split at hc
    ·rename_i cs e2
     split at hc
     ·rename_i z l hz
      cases hc
      obtain ⟨c1,_,k1⟩ := srcC_spec t.hp T cs _ l [] hz
      have hl := (k1 base).len.1
      rw [rsC_nsl] at hl
      have e4 : keep n t (.bx k T) = l ++ [some j] := by simp only [keep,e,e2,hz]
      rw [e4]
      refine ⟨by simp [fxW,hl],fun i hi => ?_⟩
      simp only [List.length_append,List.length_singleton] at hi
      rcases Nat.lt_or_ge i T.nsl with q | q
      ·refine .inl ?_
       simp only [fxW]
       rw [List.getElem?_append_left (by simpa using q),List.getElem?_replicate,if_pos q]
      ·have : i = T.nsl := by omega
       subst this
       refine .inr (.inr ⟨cs,(rsC base T x).1,(rsC bs T y).1,j,?_,?_,?_,e2⟩)
       ·simp only [ust]
        rw [List.getElem?_append_right (by rw [rsC_nsl]; omega),rsC_nsl,Nat.sub_self]; rfl
       ·simp only [fxW]
        rw [List.getElem?_append_right (by simp),List.length_replicate,Nat.sub_self]; rfl
       ·rw [List.getElem?_append_right (by omega),hl,Nat.sub_self]; rfl
     ·cases hc
    ·cases hc
  ·cases hc
 | bv k T =>
  intro x y base bs hc _
  simp only [canon] at hc
  split at hc
  ·rename_i j row off e
   cases hb : (Nat.beq row 0 && Nat.beq off 0) with
   | false => rw [hb] at hc; cases hc
   | true =>
    rw [hb,cond_true] at hc
    split at hc
    ·rename_i cs e2
     have e4 : keep n t (.bv k T) = [some j] := by simp only [keep,e]
     rw [e4]
     refine ⟨rfl,fun i hi => ?_⟩
     simp only [List.length_singleton] at hi
     have : i = 0 := by omega
     subst this
     exact .inr (.inr ⟨cs,tcls T x,tcls T y,j,rfl,rfl,rfl,e2⟩)
    ·cases hc
  ·cases hc
 | o k T =>
  intro x y base bs hc hl
  have hl' : x.length = y.length := by simpa [lenW] using hl
  have h1 : (keep n t (.o k T)).length = 1 := by simp only [keep]; split <;> rfl
  refine ⟨by rw [h1]; rfl,fun i hi => ?_⟩
  rw [h1] at hi
  have : i = 0 := by omega
  subst this
  refine .inr (.inl ⟨T,T,x,y,rfl,rfl,rfl,hl'.symm,fun j hj => ?_⟩)
  simp only [canon] at hc
  split at hc
  ·rename_i j' e
   simp only [keep,e,List.getElem?_cons_zero,Option.some.injEq] at hj
   subst hj
   split at hc
   ·rename_i A o L e2
    cases ho : (o || A.flat) with
    | false => rw [ho] at hc; cases hc
    | true =>
     rw [ho,cond_true] at hc
     obtain ⟨e3,hz⟩ := cst_some hc
     cases e3
     cases hz
     exact ⟨o,_,e2,rfl⟩
   ·cases hc
  ·rename_i e
   simp only [keep,e,List.getElem?_cons_zero,Option.some.injEq] at hj
   cases hj
  ·cases hc
 | mo k T =>
  intro x y base bs hc hl
  have h1 : (keep n t (.mo k T)).length = 1 := by simp only [keep]; split <;> rfl
  refine ⟨by rw [h1]; rfl,fun i hi => ?_⟩
  rw [h1] at hi
  have : i = 0 := by omega
  subst this
  exact .inl rfl
 | lg k T =>
  intro x y base bs hc hl
  have h1 : (keep n t (.lg k T)).length = 1 := by simp only [keep]; split <;> rfl
  refine ⟨by rw [h1]; rfl,fun i hi => ?_⟩
  rw [h1] at hi
  have : i = 0 := by omega
  subst this
  exact .inl rfl
 | av k m1 K =>
  intro x y base bs hc _
  simp only [canon] at hc
  split at hc
  ·rename_i j row off e
   have e4 : keep n t (.av k m1 K) = [some j] := by simp only [keep,e]
   rw [e4]
   refine ⟨rfl,fun i hi => ?_⟩
   simp only [List.length_singleton] at hi
   have : i = 0 := by omega
   subst this
   exact .inl rfl
  ·cases hc
 | ow k T =>
  intro x y base bs hc hl
  simp only [canon] at hc
  split at hc
  ·rename_i cs e
   split at hc
   ·rename_i z l hz
    cases hc
    obtain ⟨c1,_,k1⟩ := srcC_spec t.hp T cs _ l [] hz
    have hSR := k1 base
    have e4 : keep n t (.ow k T) = l := by simp only [keep,e,hz]
    rw [e4]
    have hl' : lenL T x y = true := hl
    refine ⟨by simp only [fxW,List.length_map]; rw [blkL_nsl,← hSR.len.1,rsC_nsl],fun i hi => ?_⟩
    obtain ⟨A,X,h1,h2⟩ := hSR.at_ i hi
    obtain ⟨Y,h3,h4⟩ := blkL_at T x y base hl' i A X h1
    exact .inr (.inl ⟨A,A,X,Y,h1,by simp only [fxW,List.getElem?_map,h3,Option.map_some],rfl,h4,h2⟩)
   ·cases hc
  ·cases hc
 | pr a b iha ihb =>
  intro x y base bs hc hl
  simp only [lenW,Bool.and_eq_true] at hl
  simp only [canon] at hc
  split at hc
  ·rename_i x1 x2 h1 h2
   cases hc
   obtain ⟨p1,p2⟩ := iha x1 y.1 base bs h1 hl.1
   have hlen := canon_len a x1 base t' h1
   obtain ⟨q1,q2⟩ := ihb x2 y.2 (base + (ust base a x1).2.length) (bs + slen a) h2 hl.2
   refine ⟨by simp only [fxW,keep,List.length_append,p1,q1],fun i hi => ?_⟩
   simp only [keep,List.length_append] at hi
   simp only [ust,fxW,keep]
   rcases Nat.lt_or_ge i (keep n t a).length with h | h
   ·rw [List.getElem?_append_left (by omega),List.getElem?_append_left (by omega),List.getElem?_append_left h]
    exact p2 i h
   ·rw [List.getElem?_append_right (by omega),List.getElem?_append_right (by omega),List.getElem?_append_right h,hlen,p1]
    rw [hlen] at q2
    exact q2 (i - (keep n t a).length) (by omega)
  ·cases hc
end Go.Proofs.Ytkmhopbmpeiofaa.Nx
