/- The evaluator runs code as the program does: sound, with no condition beyond those each lemma names. -/
import Derived.Test.YtfmlmdnaeonobaaGreatNxo
set_option linter.unusedVariables false
set_option linter.unusedSimpArgs false
namespace Go.Proofs.YtfmlmdnaeonobaaGreat.Nx
open Go Go.RowKit
section
variable {P : Program} {S : Bool} {Ω : Type} {r : Ω} {Γ : List CX} {Θ : TyO} {n : Nat} {C : Ctx} {t : TS} {a : Act} {w : World}
theorem xeff_sound (hc : Conc C (toAS n t) a w) {d : Option Nat} {k : TS → Option Ω} {no : NO} (h : xeff n Θ t d k no = some r) : ae (toAS n t) d (Kt k r n) no := by
 cases no with
 | al z => exact eff_al h
 | bx m x => exact eff_bx h
 | bsl sz m ag z ps => exact eff_bsl h
 | mk sz b ag z l c => exact eff_mk h
 | st m x y =>
  obtain ⟨N,M,K,hcd⟩ := hc
  refine eff_st (fun j row off hx T o L e => ?_) (fun j row off hx T L r o c e => ?_) h
  case refine_2 =>
   have ha : (toAS n t).ev x = .ptr j L.length row off := by rw [toAS_ev,hx]; simp only [av,hpk_hol e]
   obtain ⟨b,m,L1,q1,q2,q3,q4,q5,q6,q7,q8⟩ := hcd.ptr ha (by rw [toAS_hp,at_hol e]; rfl)
   simpa [tb] using q7
  have ha : (toAS n t).ev x = .ptr j L.length row off := by rw [toAS_ev,hx]; simp only [av,hpk_arr e]
  obtain ⟨b,m,L1,q1,q2,q3,q4,q5,q6,q7,q8⟩ := hcd.ptr ha (by rw [toAS_hp,at_arr e]; rfl)
  exact q7
 | app str sz b x y => exact eff_app h
 | csb x => exact eff_csb h
 | cpy x y => exact eff_cpy h
 | isn g x => exact eff_isn h
 | _ => cases h
theorem xact_sound (hΓ : ΓOk P S Γ) (hc : Conc C (toAS n t) a w) {o : NOp} {k : TS → Option Ω} (h : xact Γ Θ n t o k = some r) : actW P S (toAS n t) o (Kt k r n) := by
 have args : ∀ l : List Operand,l.map (toAS n t).ev = (l.map (t.ev n)).map (av t.hp) := fun l => by
  rw [List.map_map]; exact List.map_congr_left fun x _ => toAS_ev n t x
 obtain ⟨N,M,L,hcd⟩ := id hc
 have reads : ∀ no : NO,o.n = no → (chk (rd n t no).1 (k (t.put o.d (rd n t no).2)) = some r) → apc (toAS n t) no ∧ Kt k r n ((toAS n t).put o.d (apv (toAS n t) no)) := fun no _ h => by
  obtain ⟨h1,h2⟩ := chk_some h
  obtain ⟨k1,k2⟩ := rd_sound hcd no h1
  refine ⟨k1,Kt.of h2 ?_⟩
  rw [toAS_put,k2]
  exact StLe.refl _
 obtain ⟨d,g,no⟩ := o
 have effs : ∀ no : NO,xeff n Θ t d k no = some r → ae (toAS n t) d (Kt k r n) no := fun no h => xeff_sound hc h
 unfold xact at h
 unfold actW
 cases no with
 | call f l =>
  simp only at h ⊢
  rw [args]
  exact xcall_sound hΓ h
 | callv x l =>
  simp only at h ⊢
  rw [toAS_ev]
  split at h
  ·rename_i f cap e
   rw [e]
   simp only [av,avL_map]
   rw [args,← List.map_append]
   exact xcall_sound hΓ h
  ·cases h
 | al z => exact effs (.al z) h
 | bx m x => exact effs (.bx m x) h
 | bsl sz m ag z ps => exact effs (.bsl sz m ag z ps) h
 | mk sz b ag z l c => exact effs (.mk sz b ag z l c) h
 | st m x y => exact effs (.st m x y) h
 | app str sz b x y => exact effs (.app str sz b x y) h
 | csb x => exact effs (.csb x) h
 | cpy x y => exact effs (.cpy x y) h
 | dead => exact effs .dead h
 | isn g x => exact effs (.isn g x) h
 | _ => exact reads _ rfl h
theorem put_same {s : AS} {g : Nat} {x : AV} (h : s.sl.getD g .any = x) : s.put (some g) x = s := by
 show ({ s with sl := s.sl.set g x } : AS) = s
 rcases Nat.lt_or_ge g s.sl.length with hl | hl
 ·rw [← h,List.getD_eq_getElem?_getD,List.getElem?_eq_getElem hl]
  simp
 ·rw [List.set_eq_of_length_le hl]
theorem xst_sound (hΓ : ΓOk P S Γ) (hc : Conc C (toAS n t) a w) {o : NOp} {k : TS → Option Ω} (h : xst Γ Θ n t o k = some r) : stW P S (toAS n t) o (Kt k r n) := by
 unfold xst at h
 unfold stW
 split at h
 ·rename_i hg
  rw [hg]
  exact xact_sound hΓ hc h
 ·rename_i g want hg
  rw [hg]
  split at h
  ·rename_i b hb
   have hev : (toAS n t).ev (.tmp g) = .val (.bool b) := by
    rw [toAS_ev]
    show av t.hp (t.get n g) = _
    rw [hb]; rfl
   have hsame : toAS n (t.put (some g) (.v .bl b)) = toAS n t := by
    rw [toAS_put]; exact put_same hev
   simp only [hev]
   have yes : ∀ c,b = c → xact Γ Θ n (t.put (some g) (.v .bl c)) o k = some r → actW P S ((toAS n t).put (some g) (.val (.bool c))) o (Kt k r n) := by
    rintro c rfl h
    have hc' : Conc C (toAS n (t.put (some g) (.v .bl b))) a w := by rw [hsame]; exact hc
    have := xact_sound hΓ hc' h
    rw [toAS_put] at this
    exact this
   have no : ∀ c,k ((t.put (some g) (.v .bl c)).put o.d (.c undef)) = some r → Kt k r n (((toAS n t).put (some g) (.val (.bool c))).put o.d (.val undef)) := fun c h => by
    refine Kt.of h ?_
    rw [toAS_put,toAS_put]
    exact StLe.refl _
   split at h
   ·cases b with
    | true => exact ⟨fun _ => yes true rfl h,fun e => by cases e⟩
    | false => exact ⟨(fun e => by cases e),fun _ => no false h⟩
   ·cases b with
    | true => exact ⟨(fun e => by cases e),fun _ => no true h⟩
    | false => exact ⟨fun _ => yes false rfl h,fun e => by cases e⟩
  ·rename_i hb
   have hev : (toAS n t).ev (.tmp g) = .val (.tuple ⟨[]⟩) := by
    rw [toAS_ev]
    show av t.hp (t.get n g) = _
    rw [hb]; rfl
   simp only [hev]
   refine Kt.of h ?_
   rw [toAS_put]
   exact StLe.refl _
  ·cases h
variable {ops : Array Oper} {Q : Exit → Act → World → Prop}
theorem planT (hΓ : ΓOk P S Γ) (hs : Region.noSelect ops = true) (hQ : ∀ c a w,¬ Q (.panic c) a w) {k : TS → Option Ω} (hK : ∀ t a w,k t = some r → Conc C (toAS n t) a w → Q .normal a w) :
  ∀ (fuel : Nat) (listed : Array Bool) (rt : RT),plan P S ops fuel listed = some rt → ∀ (t : TS) (a : Act) (w : World),xreg Γ Θ n rt k t = some r → Conc C (toAS n t) a w → gAny P .any ops Q (quietAt P S ops) fuel listed a w := by
 intro fuel
 induction fuel with
 | zero =>
  intro listed rt h t a w hr hc
  unfold plan at h
  split at h
  ·rename_i he
   cases h
   exact ⟨by simpa using he,hK _ _ _ hr hc⟩
  ·cases h
 | succ fuel ih =>
  intro listed rt h t a w hr hc
  unfold plan at h
  split at h
  ·rename_i i hi
   obtain ⟨o,nn,t',h1,h2,h3,rfl⟩ := branch_inv h
   have hmem := List.mem_of_find?_eq_some hi
   have hfree := List.find?_some hi
   have hc := prep_conc (Θ := Θ) nn.n hc
   have hst := xst_sound hΓ hc hr
   obtain ⟨N,M,L,hcd⟩ := hc
   have h2' := h2
   unfold nOper at h2'
   split at h2'
   ·rename_i no g hno hg
    cases h2'
    obtain ⟨hrd,hDl,hf⟩ := free_hfree h1 hno hfree
    have hop : nOp P o.op = some no := by
     rcases nAny_cases hno with h | h | h
     ·exact h
     ·have := (nEff_kind h).1; rw [hrd] at this; cases this
     ·rcases nCall_cases h with ⟨_,_,_,_,rfl⟩ | ⟨_,_,_,_,rfl⟩ <;> cases hrd
    rcases stW_cases hcd hg hst with ⟨hw,ha⟩ | ⟨hw,hk⟩
    ·obtain ⟨c1,t1,c2,c3⟩ := actW_reads hrd ha
     obtain ⟨v,⟨q1,q2⟩,rr⟩ := reads_sound hcd hop c1
     have hy : YK P ops no.looks o v a w := .inl ⟨hw,fun w' hk => by
      cases hl : no.looks with
      | true => exact q1 w' (hk hl) o rfl
      | false => exact q2 hl w' o rfl⟩
     exact gAny_first h1 (Region.noSelect_spec hs) hQ dep_spec fuel listed a w hDl hf hmem hy (ih _ _ h3 _ _ _ c2 (c3 C _ _ ⟨N,M,L,hcd.put _ rr⟩))
    ·obtain ⟨t1,c2,c3⟩ := hk
     have hy : YK P ops no.looks o undef a w := .inr ⟨hw,rfl⟩
     exact gAny_first h1 (Region.noSelect_spec hs) hQ dep_spec fuel listed a w hDl hf hmem hy (ih _ _ h3 _ _ _ c2 (c3 C _ _ ⟨N,M,L,hcd.put _ (.val _)⟩))
   ·cases h2'
  ·refine ⟨fun he => ?_,fun i hi => ?_⟩
   ·rw [he] at h
    cases h
    exact hK _ _ _ hr hc
   ·
    have all : ∀ (l : List Nat) (rt : RT),branches (branch P ops (plan P S ops fuel) listed) l = some rt → xreg Γ Θ n rt k t = some r → ∀ i ∈ l,∃ rt',branch P ops (plan P S ops fuel) listed i = some rt' ∧ xreg Γ Θ n rt' k t = some r := by
     intro l
     induction l with
     | nil => intro rt _ _ i hi; cases hi
     | cons j l ihl =>
      intro rt h hr i hi
      cases l with
      | nil =>
       simp only [List.mem_singleton] at hi
       subst hi
       exact ⟨rt,h,hr⟩
      | cons j' l =>
       simp only [branches] at h
       split at h
       ·rename_i a b h1 h2
        cases h
        obtain ⟨k1,k2⟩ := agree_some hr
        rcases List.mem_cons.1 hi with rfl | hi
        ·exact ⟨a,h1,k1⟩
        ·exact ihl b h2 k2 i hi
       ·cases h
    obtain ⟨rt',hb,hr'⟩ := all _ _ h hr i hi
    obtain ⟨o,nn,t'',h3,h4,h5,rfl⟩ := branch_inv hb
    have hc := prep_conc (Θ := Θ) nn.n hc
    exact gOp_mono (fun a' w' ⟨s',⟨t1,k1,k2⟩,k3⟩ => ih _ _ h5 t1 a' w' k1 (k2 C _ _ k3)) (st_sound hc h3 h4 (xst_sound hΓ hc hr'))
theorem lineT (hΓ : ΓOk P S Γ) {k : TS → Option Ω} (hK : ∀ t a w,k t = some r → Conc C (toAS n t) a w → Q .normal a w) : ∀ (l : List Oper) (j : Nat) (rt : RT),(∀ i,l[i]? = ops[j + i]?) → line P ops l = some rt →
  ∀ (t : TS) (a : Act) (w : World),xreg Γ Θ n rt k t = some r → Conc C (toAS n t) a w → wpOps P ops Q (List.range' j l.length) a w := by
 intro l
 induction l with
 | nil =>
  intro j rt _ h t a w hr hc
  cases h
  exact hK _ _ _ hr hc
 | cons o l ih =>
  intro j rt hl h t a w hr hc
  simp only [line] at h
  split at h
  ·rename_i nn t' h1 h2
   cases h
   have hc := prep_conc (Θ := Θ) nn.n hc
   rw [List.length_cons,List.range'_succ,wpOps_cons]
   have h0 : ops[j]? = some o := by simpa using (hl 0).symm
   refine wpOp_mono (fun a' w' ⟨_,s',⟨t1,k1,k2⟩,k3⟩ => ih (j + 1) t' (fun i => by have := hl (i + 1); simpa [Nat.add_assoc,Nat.add_comm 1 i] using this) h2 t1 a' w' k1 (k2 C _ _ k3)) (st_sound hc h0 h1 (xst_sound hΓ hc hr))
  ·cases h
end
end Go.Proofs.YtfmlmdnaeonobaaGreat.Nx
namespace Go.Proofs.YtfmlmdnaeonobaaGreat.Nx
open Go Go.RowKit
def loopsOf : NC → List (Nat × NC)
 | .seq a b => loopsOf a ++ loopsOf b
 | .cond _ a b => loopsOf a ++ loopsOf b
 | .block id b => match b with
  | .loop c => (id,c) :: loopsOf c
  | b => loopsOf b
 | .loop b => loopsOf b
 | _ => []
theorem lcAt_id {R : Type} : ∀ {Λ : List (LC R)} {id : Nat} {l : LC R},lcAt Λ id = some l → l.id = id
 | [],_,_,h => by cases h
 | x :: Λ,id,l,h => by
  simp only [lcAt] at h
  cases hb : Nat.beq x.id id with
  | true =>
   rw [hb,cond_true] at h
   cases h
   simpa using hb
  | false =>
   rw [hb,cond_false] at h
   exact lcAt_id h
section
variable {P : Program} {R : Type} {Γ : List CX} {Θ : TyO} {Λ : List (LC R)} {n : Nat} {res : TS → Option R} {C : Ctx}
def LoopEq (Γ : List CX) (Θ : TyO) (Λ : List (LC R)) (n : Nat) (res : TS → Option R) (l : LC R) (B : NC) : Prop :=
 ∃ (N : Nat) (lp : ∀ (Ω : Type),(DenS l.x → Option Ω) → (R → Option Ω) → (DenS l.s → Option Ω) → DenS l.s → Option Ω),
  (∀ (Ω : Type) (kx : DenS l.x → Option Ω) (kr : R → Option Ω) (s : DenS l.s),l.run kx kr s = iter (lp Ω kx kr) N s) ∧
  ∀ (Ω : Type) (g : DenS l.s → Option Ω) (kx : DenS l.x → Option Ω) (kr : R → Option Ω) (s : DenS l.s),
   splitL (xrun Γ Θ Λ n res B (fun t => (maskL n l.q l.s t).bind g) (fun i t => bif Nat.beq i l.id then (maskL n l.q l.x t).bind kx else none) kr) l.s s = lp Ω kx kr g s
def LQT (C : Ctx) (n : Nat) (res : TS → Option R) {Ω : Type} (kn : TS → Option Ω) (ke : Nat → TS → Option Ω) (kr : R → Option Ω) (r : Ω) : Exit → Act → World → Prop
 | .normal,a,w => ∃ t,kn t = some r ∧ Conc C (toAS n t) a w
 | .exit i,a,w => ∃ t,ke i t = some r ∧ Conc C (toAS n t) a w
 | .ret,a,w => ∃ t ρ,res t = some ρ ∧ kr ρ = some r ∧ Conc C (toAS n t) a w
 | _,_,_ => False
theorem least {p : Nat → Prop} (h : ∃ n,p n) : ∃ n,p n ∧ ∀ m,p m → n ≤ m := by
 obtain ⟨n,hn⟩ := h
 induction n using Nat.strongRecOn with
 | _ n ih =>
  by_cases hl : ∃ m,m < n ∧ p m
  ·obtain ⟨m,h1,h2⟩ := hl
   exact ih m h1 h2
  ·refine ⟨n,hn,fun m hm => ?_⟩
   rcases Nat.lt_or_ge m n with h | h
   ·exact absurd ⟨m,h,hm⟩ hl
   ·exact h
def XS (P : Program) (Γ : List CX) (Θ : TyO) (Λ : List (LC R)) (n : Nat) (res : TS → Option R) (C : Ctx) (nc : NC) : Prop :=
 (∀ id B,(id,B) ∈ loopsOf nc → ∀ l,lcAt Λ id = some l → LoopEq Γ Θ Λ n res l B) →
  ∀ (Ω : Type) (c : Code) (kn : TS → Option Ω) (ke : Nat → TS → Option Ω) (kr : R → Option Ω) (r : Ω) (t : TS) (a : Act) (w : World),
   norm P c = some nc → xrun Γ Θ Λ n res nc kn ke kr t = some r → Conc C (toAS n t) a w → c.wp P (LQT C n res kn ke kr r) a w
theorem xrun_both (hm : P.follows .mixedOrders = true) (hΓ : ∀ cx ∈ Γ,CXok P cx) {q : Nat} (hC : ∀ k,q ≤ k → C.M0 k = none) (hq : ∀ id l,lcAt Λ id = some l → q ≤ l.q) : ∀ (nc : NC),XS P Γ Θ Λ n res C nc ∧ ∀ B,nc = .loop B → XS P Γ Θ Λ n res C B := by
 intro nc
 induction nc with
 | skip =>
  refine ⟨?_,fun B e => by cases e⟩
  intro _ Ω c kn ke kr r t a w hn h hc
  rw [norm_skip hn]
  exact wp_skip ⟨t,h,hc⟩
 | reg S rt =>
  refine ⟨?_,fun B e => by cases e⟩
  intro _ Ω c kn ke kr r t a w hn h hc
  obtain ⟨id,ops,d,rfl,h1,h2⟩ := norm_reg hn
  have hK : ∀ t a w,kn t = some r → Conc C (toAS n t) a w → LQT C n res kn ke kr r .normal a w := fun t a w k c => ⟨t,k,c⟩
  cases d with
  | false =>
   refine wp_region ?_
   have := lineT (C := C) (Q := LQT C n res kn ke kr r) (lows_ok hΓ S) hK ops.toList 0 rt (by simp) (h1 rfl) t a w h hc
   simpa [List.range_eq_range'] using this
  | true =>
   obtain ⟨k1,k2⟩ := h2 rfl
   obtain ⟨N,M,L,hcd⟩ := hc
   exact wp_region_any hm (wpAny_of_g _ _ _ _ (planT (C := C) (Q := LQT C n res kn ke kr r) (lows_ok hΓ S) k1 (fun _ _ _ e => e) hK _ _ rt k2 t a _ h ⟨N,M,L,hcd.drew _⟩))
 | regs rt rs =>
  refine ⟨?_,fun B e => by cases e⟩
  intro _ Ω c kn ke kr r t a w hn h hc
  obtain ⟨id,ops,rfl,k1,k2,k3⟩ := norm_regs hn
  have hK : ∀ t a w,kn t = some r → Conc C (toAS n t) a w → LQT C n res kn ke kr r .normal a w := fun t a w k c => ⟨t,k,c⟩
  simp only [xrun] at h
  obtain ⟨N,M,L,hcd⟩ := hc
  cases hb : callsM Γ rt with
  | true =>
   rw [hb,cond_true] at h
   exact wp_region_any hm (wpAny_of_g _ _ _ _ (planT (C := C) (Q := LQT C n res kn ke kr r) (lows_ok hΓ true) k1 (fun _ _ _ e => e) hK _ _ rs k3 t a _ h ⟨N,M,L,hcd.drew _⟩))
  | false =>
   rw [hb,cond_false] at h
   exact wp_region_any hm (wpAny_of_g _ _ _ _ (planT (C := C) (Q := LQT C n res kn ke kr r) (lows_ok hΓ false) k1 (fun _ _ _ e => e) hK _ _ rt k2 t a _ h ⟨N,M,L,hcd.drew _⟩))
 | seq x y ihx ihy =>
  refine ⟨?_,fun B e => by cases e⟩
  replace ihx := ihx.1
  replace ihy := ihy.1
  intro hl Ω c kn ke kr r t a w hn h hc
  obtain ⟨c1,c2,rfl,n1,n2⟩ := norm_seq hn
  refine wp_seq (wp_mono (ihx (fun id B hb => hl id B (by simp only [loopsOf]; exact List.mem_append_left _ hb)) Ω c1 _ ke kr r t a w n1 h hc) fun e a w q => ?_)
  cases e with
  | normal =>
   obtain ⟨t',k1,k2⟩ := q
   exact ihy (fun id B hb => hl id B (by simp only [loopsOf]; exact List.mem_append_right _ hb)) Ω c2 kn ke kr r t' a w n2 k1 k2
  | _ => exact q
 | cond o x y ihx ihy =>
  refine ⟨?_,fun B e => by cases e⟩
  replace ihx := ihx.1
  replace ihy := ihy.1
  intro hl Ω c kn ke kr r t a w hn h hc
  obtain ⟨c1,c2,rfl,n1,n2⟩ := norm_cond hn
  simp only [xrun] at h
  split at h
  ·rename_i p hp
   obtain ⟨N,M,L,hcd⟩ := hc
   have hev : (toAS n t).ev o = .val (.bool p) := by rw [toAS_ev,hp]; rfl
   refine wp_cond (hcd.evv hev) ?_
   cases p with
   | true => exact ihx (fun id B hb => hl id B (by simp only [loopsOf]; exact List.mem_append_left _ hb)) Ω c1 kn ke kr r t a w n1 h ⟨N,M,L,hcd⟩
   | false => exact ihy (fun id B hb => hl id B (by simp only [loopsOf]; exact List.mem_append_right _ hb)) Ω c2 kn ke kr r t a w n2 h ⟨N,M,L,hcd⟩
  ·cases h
 | block id b ih =>
  refine ⟨?_,fun B e => by cases e⟩
  obtain ⟨ih,ihB⟩ := ih
  intro hl Ω c kn ke kr r t a w hn h hc
  obtain ⟨c1,rfl,n1⟩ := norm_block hn
  have plain : (∀ id B,(id,B) ∈ loopsOf b → ∀ l,lcAt Λ id = some l → LoopEq Γ Θ Λ n res l B) → xrun Γ Θ Λ n res b kn (fun i t => bif Nat.beq i id then kn t else ke i t) kr t = some r → (Code.block id c1).wp P (LQT C n res kn ke kr r) a w := fun hl h => by
   refine wp_block (wp_mono (ih hl Ω c1 kn _ kr r t a w n1 h hc) fun e a w q => ?_)
   cases e with
   | exit i =>
    obtain ⟨t',k1,k2⟩ := q
    simp only at k1
    simp only [Exit.inBlock]
    by_cases hi : i = id
    ·subst hi
     simp only [Nat.beq_refl,cond_true] at k1
     rw [if_pos rfl]; exact ⟨t',k1,k2⟩
    ·have : Nat.beq i id = false := by rw [← Bool.not_eq_true,Nat.beq_eq]; exact hi
     rw [this,cond_false] at k1
     rw [if_neg hi]; exact ⟨t',k1,k2⟩
   | _ => exact q
  cases b with
  | loop B =>
   simp only [xrun] at h
   split at h
   ·rename_i l hlc
    have hid := lcAt_id hlc
    obtain ⟨N,lp,e1,e2⟩ := hl id B (by simp [loopsOf]) l hlc
    obtain ⟨s,hs,h⟩ := Option.bind_eq_some_iff.1 h
    have hc0 := maskL_sound hC (hq _ _ hlc) hs hc
    rw [e1] at h
    obtain ⟨cB,rfl,nB⟩ := norm_loop n1
    have hround : ∀ (g : DenS l.s → Option Ω) (s : DenS l.s) (a : Act) (w : World),lp Ω (splitL kn l.x) kr g s = some r → Conc C (toAS n (stL l.s s)) a w →
      cB.wp P (LQT C n res (fun t => (maskL n l.q l.s t).bind g) (fun i t => bif Nat.beq i l.id then (maskL n l.q l.x t).bind (splitL kn l.x) else none) kr r) a w := by
     intro g s a w h hc
     have hin : ∀ id' B',(id',B') ∈ loopsOf B → ∀ l,lcAt Λ id' = some l → LoopEq Γ Θ Λ n res l B' := fun id' B' hb => hl id' B' (by simp only [loopsOf]; exact List.mem_cons_of_mem _ hb)
     rw [← e2,splitL_eq] at h
     exact ihB B rfl hin Ω cB _ _ kr r _ a w nB h hc
    refine wp_block ?_
    let J : Nat → Act → World → Prop := fun m a w => ∃ s,iter (lp Ω (splitL kn l.x) kr) m s = some r ∧ Conc C (toAS n (stL l.s s)) a w
    have hJ : ∃ m,J m a w := ⟨N,s,h,hc0⟩
    let μ : Act → World → Nat := fun a w => by
     classical
     exact if h : ∃ m,J m a w then Classical.choose (least h) else 0
    refine wp_loop (fun a w => ∃ m,J m a w) μ hJ fun a w hI => ?_
    have hμ : J (μ a w) a w := by
     simp only [μ,dif_pos hI]
     exact (Classical.choose_spec (least hI)).1
    obtain ⟨s,k1,k2⟩ := hμ
    generalize hm' : μ a w = m at k1
    cases m with
    | zero => cases k1
    | succ m =>
     refine wp_mono (hround _ s a w k1 k2) fun e a' w' q => ?_
     cases e with
     | normal =>
      obtain ⟨t',q1,q2⟩ := q
      obtain ⟨s',q3,q4⟩ := Option.bind_eq_some_iff.1 q1
      have hy : J m a' w' := ⟨s',q4,maskL_sound hC (hq _ _ hlc) q3 q2⟩
      refine ⟨⟨_,hy⟩,?_⟩
      have hex : ∃ m,J m a' w' := ⟨_,hy⟩
      have : μ a' w' ≤ m := by
       simp only [μ,dif_pos hex]
       exact (Classical.choose_spec (least hex)).2 _ hy
      omega
     | exit i =>
      obtain ⟨t',q1,q2⟩ := q
      simp only at q1
      cases hi : Nat.beq i l.id with
      | false => rw [hi] at q1; cases q1
      | true =>
       rw [hi,cond_true] at q1
       simp only [Nat.beq_eq] at hi
       obtain ⟨x,q3,q4⟩ := Option.bind_eq_some_iff.1 q1
       show (if i = id then _ else _)
       rw [if_pos (hi.trans hid)]
       exact ⟨_,by rw [splitL_eq] at q4; exact q4,maskL_sound hC (hq _ _ hlc) q3 q2⟩
     | ret => exact q
     | _ => exact q.elim
   ·cases h
  | _ => exact plain (by simpa only [loopsOf] using hl) h
 | loop b ih =>
  refine ⟨?_,fun B e => by cases e; exact ih.1⟩
  intro _ Ω c kn ke kr r t a w hn h hc
  cases h
 | exit id =>
  refine ⟨?_,fun B e => by cases e⟩
  intro _ Ω c kn ke kr r t a w hn h hc
  rw [norm_exit hn]
  exact wp_exit ⟨t,h,hc⟩
 | ret =>
  refine ⟨?_,fun B e => by cases e⟩
  intro _ Ω c kn ke kr r t a w hn h hc
  rw [norm_ret hn]
  simp only [xrun] at h
  split at h
  ·rename_i ρ h1
   exact wp_ret ⟨settle t,ρ,h1,h,settle_conc hc⟩
  ·obtain ⟨ρ,h1,h2⟩ := Option.bind_eq_some_iff.1 h
   exact wp_ret ⟨t,ρ,h1,h2,hc⟩
end
end Go.Proofs.YtfmlmdnaeonobaaGreat.Nx
namespace Go.Proofs.YtfmlmdnaeonobaaGreat.Nx
open Go Go.RowKit
section
variable {P : Program} {n : Nat} {t : TS} {C : Ctx} {a : Act} {w : World} {N N' : NT} {M M' : MT} {L : List (Nat × Nat)} {ℓ ℓ' : Nat → List (Nat × Nat)} {hpT : THP}
theorem resNR_spec (hc : ConcD C (toAS n t) a w N M L) {r : NR} (h : Hc (resNR n t r).1) : resC (toAS n t) r ∧ resV (toAS n t) r = av t.hp (resNR n t r).2 := by
 cases r with
 | t x => exact ⟨trivial,toAS_ev n t (.tmp x)⟩
 | c x m ag => exact rd_sound hc (.ld m ag (.tmp x)) h
theorem resOne_spec {T : Ty} {z : TV} {y : Den T} {l : List (Option Nat)} (h : resOne' t.hp T z = some (y,l)) (base : Nat) :
  (resT base T y).2.length = l.length ∧ ∀ (hN : ∀ b o,N b o → N' b o) (hH : ∀ (i : Nat) (x : Option Blk),(toHP t.hp)[i]? = some x → HB w N M i x (ℓ i)) (hA : At M M' ℓ ℓ' hpT base l (resT base T y).2),
   (∀ i b,(resT base T y).2[i]? = some b → HB w N' M' (base + i) (some (tb hpT b)) (ℓ' (base + i))) ∧
   ∀ v,Rep w N M (av t.hp z) v [] → Rep w N' M' (av hpT (resT base T y).1) v [] := by
 unfold resOne' at h
 unfold resT
 cases hf : T.flat with
 | true =>
  rw [hf,cond_true] at h
  obtain ⟨y',h1,h2⟩ := Option.map_eq_some_iff.1 h
  cases h2
  refine ⟨rfl,fun hN hH hA => ⟨fun i b e => by simp at e,fun v r => ?_⟩⟩
  have := (asDen_spec t.hp h1).2 _ _ _ _ r
  have hl : (enc false T y).low 0 = true := low_mkr (low_cls 0 false T y)
  exact (this.lowM (M' := M') (n := 0) (fun j hj => by omega) hl).nn hN
 | false =>
  rw [hf,cond_false] at h
  simp only [cond_false]
  split at h
  ·rename_i y' l' hz
   cases hb : (T.ag == z.isA) with
   | false => rw [hb] at h; cases h
   | true =>
    rw [hb,cond_true] at h
    cases h
    simp only [beq_iff_eq] at hb
    obtain ⟨c1,ec,k1⟩ := srcC_spec t.hp T z.cs _ _ [] hz
    rw [List.append_nil] at ec
    subst ec
    have hSR := k1 base
    cases hag : T.ag with
    | true =>
     simp only [cond_true]
     refine ⟨hSR.len.1,fun hN hH hA => ⟨fun i b e => hSR.blocks hN hH hA i b e,fun v r => ?_⟩⟩
     rw [hag] at hb
     have hz' : av t.hp z = .agg (z.cs.map (av t.hp)) := by
      cases z with
      | v A x => cases A <;> first | (cases hb; done) | (simp only [TV.cs,av_tcls]; rfl)
      | ag cs => simp only [TV.cs,av,avL_map]
      | _ => cases hb
     rw [hz'] at r
     cases r with
     | agg r =>
      simp only [av,avL_map]
      exact .agg (hSR.cells hN hA r)
    | false =>
     simp only [cond_false]
     refine ⟨hSR.len.1,fun hN hH hA => ⟨fun i b e => hSR.blocks hN hH hA i b e,fun v r => ?_⟩⟩
     rw [hag] at hb
     have hcs : z.cs = [z] := by
      cases z with
      | v A x => cases A <;> first | rfl | cases hb
      | ag cs => cases hb
      | _ => rfl
     have hl := hSR.len.2
     have rr := hSR.cells (N' := N') (vs := [v]) hN hA (by rw [hcs]; exact .cons (L1 := []) (L2 := []) r .nil)
     rw [hcs] at hl
     match hq : (rsC base T y).1,hl with
     | [c],_ =>
      rw [hq] at rr
      simp only [List.map_cons,List.map_nil] at rr
      have := rr.get 0
      simpa using this
  ·cases h
theorem resDec_spec (hc : ConcD C (toAS n t) a w N M L) : ∀ (R : RK) (rs : List NR) (x : DenR R) (l : List (Option Nat)) (rest : List NR),resDec n t R rs = some (x,l,rest) →
  ∃ r1,rs = r1 ++ rest ∧ allP (resC (toAS n t)) r1 ∧ ∀ base,(resR base R x).2.length = l.length ∧ ((resR base R x).1.length = r1.length) ∧
   ∀ (hN : ∀ b o,N b o → N' b o) (hH : ∀ (i : Nat) (x : Option Blk),(toHP t.hp)[i]? = some x → HB w N M i x (ℓ i)) (hA : At M M' ℓ ℓ' hpT base l (resR base R x).2),
   (∀ i b,(resR base R x).2[i]? = some b → HB w N' M' (base + i) (some (tb hpT b)) (ℓ' (base + i))) ∧
   ∀ vs,RepL w N M (r1.map (resV (toAS n t))) vs [] → RepL w N' M' ((resR base R x).1.map (av hpT)) vs [] := by
 have allapp : ∀ (a b : List NR),allP (resC (toAS n t)) a → allP (resC (toAS n t)) b → allP (resC (toAS n t)) (a ++ b) := by
  intro a
  induction a with
  | nil => intro b _ h; exact h
  | cons x a ih => intro b h k; exact ⟨h.1,ih b h.2 k⟩
 intro R
 induction R with
 | un =>
  intro rs x l rest h
  simp only [resDec,Option.some.injEq,Prod.mk.injEq,true_and] at h
  obtain ⟨rfl,rfl⟩ := h
  refine ⟨[],rfl,trivial,fun base => ⟨rfl,rfl,fun hN hH hA => ⟨fun i b e => by simp [resR] at e,fun vs r => ?_⟩⟩⟩
  cases r; exact .nil
 | t T =>
  intro rs x l rest h
  cases rs with
  | nil => cases h
  | cons q rs =>
   simp only [resDec] at h
   obtain ⟨h1,h2⟩ := chk_some h
   split at h2
   ·rename_i y l' h3
    cases h2
    obtain ⟨c1,c2⟩ := resNR_spec hc h1
    refine ⟨[q],rfl,⟨c1,trivial⟩,fun base => ?_⟩
    obtain ⟨k1,k2⟩ := resOne_spec (N := N) (N' := N') (M := M) (M' := M') (ℓ := ℓ) (ℓ' := ℓ') (hpT := hpT) (w := w) h3 base
    refine ⟨k1,rfl,fun hN hH hA => ?_⟩
    obtain ⟨k3,k4⟩ := k2 hN hH hA
    refine ⟨k3,fun vs r => ?_⟩
    simp only [List.map_cons,List.map_nil] at r ⊢
    generalize hK : ([] : List Nat) = K at r
    cases r with
    | cons hx ht =>
     obtain ⟨rfl,rfl⟩ := List.append_eq_nil_iff.1 hK.symm
     cases ht
     rw [c2] at hx
     exact .cons (L1 := []) (L2 := []) (k4 _ hx) .nil
   ·cases h2
 | pv T =>
  intro rs x l rest h
  cases rs with
  | nil => cases h
  | cons q rs =>
   simp only [resDec] at h
   obtain ⟨h1,h2⟩ := chk_some h
   split at h2
   ·rename_i j row off hj
    cases hb : (Nat.beq row 0 && Nat.beq off 0) with
    | false => rw [hb] at h2; cases h2
    | true =>
     rw [hb,cond_true] at h2
     simp only [Bool.and_eq_true,Nat.beq_eq] at hb
     obtain ⟨rfl,rfl⟩ := hb
     split at h2
     ·rename_i cs e2
      split at h2
      ·rename_i y hz
       cases h2
       obtain ⟨c1,c2⟩ := resNR_spec hc h1
       refine ⟨[q],rfl,⟨c1,trivial⟩,fun base => ⟨rfl,rfl,fun hN hH hA => ?_⟩⟩
       obtain ⟨m1,m2⟩ := hA.so 0 j rfl
       rw [Nat.add_zero] at m1 m2
       have e5 := hA.hp 0 _ rfl
       rw [Nat.add_zero] at e5
       refine ⟨fun i b eb => ?_,fun vs r => ?_⟩
       ·cases i with
        | zero =>
         simp only [resR,List.getElem?_cons_zero,Option.some.injEq] at eb
         subst eb
         exact hb_bv hN hH hz e2 m1 m2
        | succ i => simp [resR] at eb
       ·simp only [List.map_cons,List.map_nil,resR] at r ⊢
        generalize hK : ([] : List Nat) = K at r
        cases r with
        | cons hx ht =>
         obtain ⟨rfl,rfl⟩ := List.append_eq_nil_iff.1 hK.symm
         cases ht
         rw [c2,hj] at hx
         refine .cons (L1 := []) (L2 := []) ?_ .nil
         have a1 : av t.hp (.ptr j 0 0) = .ptr j 1 0 0 := by simp only [av,hpk_box e2]
         have a2 : av hpT (.ptr base 0 0) = .ptr base 1 0 0 := by simp only [av,hpk_box e5]
         rw [a1] at hx
         rw [a2]
         cases hx with
         | ptr mm h3 h4 => exact .ptr mm (by rw [m1]; exact h3) h4
      ·cases h2
     ·cases h2
   ·cases h2
 | pr a b iha ihb =>
  intro rs x l rest h
  simp only [resDec] at h
  split at h
  ·rename_i x1 l1 rs1 h1
   split at h
   ·rename_i x2 l2 rs2 h2
    cases h
    obtain ⟨r1,rfl,p1,p2⟩ := iha _ _ _ _ h1
    obtain ⟨r2,rfl,p3,p4⟩ := ihb _ _ _ _ h2
    refine ⟨r1 ++ r2,by simp,allapp _ _ p1 p3,fun base => ?_⟩
    obtain ⟨q1,q2,q3⟩ := p2 base
    obtain ⟨q4,q5,q6⟩ := p4 (base + (resR base a x1).2.length)
    refine ⟨by simp only [resR]; rw [List.length_append,q4,List.length_append,q1],by simp only [resR]; rw [List.length_append,q5,List.length_append,q2],fun hN hH hA => ?_⟩
    simp only [resR] at hA
    obtain ⟨s1,s2⟩ := q3 hN hH (At.left hA q1)
    obtain ⟨s3,s4⟩ := q6 hN hH (At.right hA q1)
    refine ⟨fun i b' e => ?_,fun vs r => ?_⟩
    ·simp only [resR] at e
     rcases Nat.lt_or_ge i (resR base a x1).2.length with hi | hi
     ·rw [List.getElem?_append_left hi] at e
      exact s1 i b' e
     ·rw [List.getElem?_append_right hi] at e
      have := s3 _ b' e
      rw [Nat.add_assoc,show (resR base a x1).2.length + (i - (resR base a x1).2.length) = i from by omega] at this
      exact this
    ·rw [List.map_append] at r
     obtain ⟨v1,v2,L1,L2,rfl,hL,r1',r2'⟩ := r.append
     obtain ⟨rfl,rfl⟩ := List.append_eq_nil_iff.1 hL.symm
     simp only [resR,List.map_append]
     exact RepL.join (L1 := []) (L2 := []) (s2 _ r1') (s4 _ r2')
   ·cases h
  ·cases h
theorem lt_somes (h : ConcF C (toAS n t) a w N M ℓ) : ∀ (R : RK) (rs : List NR) (x : DenR R) (l : List (Option Nat)) (rest : List NR),resDec n t R rs = some (x,l,rest) → ∀ j ∈ somes l,j < t.hp.length := by
 have sr : ∀ {base : Nat} {cs cs' : List TV} {l : List (Option Nat)} {B : List TB},SR t.hp base cs cs' l B → ∀ j ∈ somes l,j < t.hp.length := by
  intro base cs cs' l B h
  induction h with
  | nil => intro j hj; simp [somes] at hj
  | leaf _ _ ih => exact ih
  | own h1 _ _ ih =>
   intro j hj
   simp only [somes,List.mem_cons] at hj
   rcases hj with rfl | hj
   ·exact (List.getElem?_eq_some_iff.1 h1).1
   ·exact ih j hj
  | none _ ih => exact ih
 intro R
 induction R with
 | un => intro rs x l rest h j hj; simp only [resDec,Option.some.injEq,Prod.mk.injEq,true_and] at h; obtain ⟨rfl,_⟩ := h; simp [somes] at hj
 | t T =>
  intro rs x l rest h j hj
  cases rs with
  | nil => cases h
  | cons q rs =>
   simp only [resDec] at h
   obtain ⟨_,h2⟩ := chk_some h
   split at h2
   ·rename_i y l' h3
    cases h2
    unfold resOne' at h3
    cases hf : T.flat with
    | true =>
     rw [hf,cond_true] at h3
     obtain ⟨y',_,e⟩ := Option.map_eq_some_iff.1 h3
     cases e
     simp [somes] at hj
    | false =>
     rw [hf,cond_false] at h3
     split at h3
     ·rename_i hz
      cases hb : (T.ag == (resNR n t q).2.isA) with
      | false => rw [hb] at h3; cases h3
      | true =>
       rw [hb,cond_true] at h3
       cases h3
       obtain ⟨c1,_,k1⟩ := srcC_spec t.hp T _ _ _ [] hz
       exact sr (k1 0) j hj
     ·cases h3
   ·cases h2
 | pv T =>
  intro rs x l rest h j hj
  cases rs with
  | nil => cases h
  | cons q rs =>
   simp only [resDec] at h
   obtain ⟨_,h2⟩ := chk_some h
   split at h2
   ·rename_i j' row off _
    cases hb : (Nat.beq row 0 && Nat.beq off 0) with
    | false => rw [hb] at h2; cases h2
    | true =>
     rw [hb,cond_true] at h2
     split at h2
     ·rename_i cs e2
      split at h2
      ·cases h2
       simp only [somes,List.mem_singleton] at hj
       subst hj
       exact (List.getElem?_eq_some_iff.1 e2).1
      ·cases h2
     ·cases h2
   ·cases h2
 | pr a b iha ihb =>
  intro rs x l rest h j hj
  simp only [resDec] at h
  split at h
  ·rename_i h1
   split at h
   ·rename_i h2
    cases h
    rw [somes_mem,List.mem_append] at hj
    rcases hj with hj | hj
    ·exact iha _ _ _ _ h1 j (somes_mem.2 hj)
    ·exact ihb _ _ _ _ h2 j (somes_mem.2 hj)
   ·cases h
  ·cases h
end
theorem CT_of_x {P : Program} {f : FuncId} {nf : NF} {Γ : List CX} {Θ : TyO} {p : PK} {R : RK} {Λ : List (LC (DenR R))} (hf : nFn P f = some nf) (hm : P.follows .mixedOrders = true) (hΓ : ∀ cx ∈ Γ,CXok P cx)
  (hΛ : ∀ id B,(id,B) ∈ loopsOf nf.body → ∀ l,lcAt Λ id = some l → LoopEq Γ Θ Λ nf.n (resOf nf.n R nf.res) l B) (hp : ∀ a,(argAV p a).length ≤ nf.n) : CTok P ⟨f,p,R,xfn Γ Θ nf p R Λ⟩ := by
 intro arg ρ hx
 replace hx : xfn Γ Θ nf p R Λ arg = some ρ := hx
 unfold nFn at hf
 split at hf
 ·rename_i fn hfn
  split at hf
  ·cases hf
  ·rename_i hname
   split at hf
   ·rename_i c hb
    split at hf
    ·rename_i b r h1 h2
     cases hf
     simp only at hp hx hΛ
     refine ⟨⟨fn,hfn,by rw [hb]; rfl,by simpa using hname⟩,fun w N M L vs he hr => ?_⟩
     let C : Ctx := ⟨w,L.map Prod.fst,N,fun _ => none⟩
     have hlen := hr.length
     have hC : ∀ k,C.M0 k = none := fun _ => rfl
     have hstart : toAS fn.ntmps ⟨numT 0 (argT p arg),[]⟩ = ⟨argAV p arg ++ List.replicate (fn.ntmps - (argAV p arg).length) .any,[]⟩ := by
      rw [E_args (hp arg)]
      unfold toAS
      show E fn.ntmps [] _ = _
      unfold argAV argT
      rw [nums_map]
     have hinit : Conc C (toAS fn.ntmps ⟨numT 0 (argT p arg),[]⟩) { tmps := (⟨vs⟩ : Array Value) ++ Array.replicate (fn.ntmps - (⟨vs⟩ : Array Value).size) undef,defers := [] } w := by
      rw [hstart]
      refine ⟨N,M,L,rfl,?_,he.hr,he.nd,fun p hp => ⟨(he.own p hp).1,.inr (List.mem_map_of_mem hp),(he.own p hp).2⟩,he.nlt,fun _ _ h => h,fun _ _ h => .inl h,FrN.refl _ _ _,he.un,fun k m m0 _ h0 => (by cases h0),fun _ _ => rfl⟩
      have : (((⟨vs⟩ : Array Value) ++ Array.replicate (fn.ntmps - (⟨vs⟩ : Array Value).size) undef).toList) = vs ++ List.replicate (fn.ntmps - (argAV p arg).length) undef := by
       simp [hlen]
      show RepL w N M _ (((⟨vs⟩ : Array Value) ++ Array.replicate (fn.ntmps - (⟨vs⟩ : Array Value).size) undef).toList) []
      rw [this]
      exact RepL.join (L1 := []) (L2 := []) hr (RepL.replicate _)
     refine calls_of_wp hfn hb (wp_mono ((xrun_both (C := C) hm hΓ (q := 0) (fun k _ => rfl) (fun _ _ _ => Nat.zero_le _) b).1 hΛ (DenR R) c _ _ _ ρ _ _ w h1 hx hinit) fun e a w' q => ?_)
     have fin : ∀ t,resOf fn.ntmps R r t = some ρ → Conc C (toAS fn.ntmps t) a w' → a.defers = [] ∧ ∃ v,(results fn a.tmps).run P w' = .ok v w' ∧ (fun e w' => ∃ r,e = Ending.returned r ∧ ∃ x hp N' M' L',Back w N M L (Is (resA R ρ) (resH R ρ)) r w' x hp N' M' L') (.returned v) w' := by
      intro t ht hc
      replace hc := ownzR_conc r t hc
      unfold resOf at ht
      generalize ownzR fn.ntmps t r = t at ht hc
      obtain ⟨N1,M1,ℓ,hD⟩ := hc.fn
      unfold resOf0 at ht
      split at ht
      ·rename_i x l hd
       cases hnb : nodupB (somes l) with
       | false => rw [hnb] at ht; cases ht
       | true =>
        rw [hnb,cond_true] at ht
        cases ht
        have hnd := nodupB_iff hnb
        have hlt := lt_somes hD R r ρ l [] hd
        obtain ⟨r1,er,hall,hres⟩ := resDec_spec (N' := N1) (M' := fun _ => none) (ℓ := ℓ) (ℓ' := ℓ) (hpT := []) hD.d R r ρ l [] hd
        rw [List.append_nil] at er
        subst er
        obtain ⟨hlen1,hlen2,_⟩ := hres 0
        obtain ⟨v,v1,v2⟩ := snd_results hD.d h2 hall
        obtain ⟨M',ℓ',k1,k2,k3⟩ := kept_ex l (resR 0 R ρ).2 hlen1 M1 ℓ
        obtain ⟨r1',er',_,hres'⟩ := resDec_spec (N' := N1) (M' := M') (ℓ := ℓ) (ℓ' := ℓ') (hpT := resB R ρ) hD.d R r ρ l [] hd
        rw [List.append_nil] at er'
        subst er'
        have hH := hD.hp
        rw [toAS_hp] at hH
        obtain ⟨b1,b2⟩ := (hres' 0).2.2 (fun _ _ h => h) hH k1
        have hlt' : ∀ i j,l[i]? = some (some j) → j < (toAS fn.ntmps t).hp.length := fun i j e => by
         rw [toAS_hp,toHP_len]
         exact hlt j (somes_mem.2 (List.mem_of_getElem? e))
        have hpl : (resH R ρ).length = (resR 0 R ρ).2.length := by unfold resH resB; rw [toHP_len,List.length_map]
        have hrep : Rep w' N1 M' (resA R ρ) v [] := by
         unfold resA
         generalize (resR 0 R ρ).1 = zs at b2 hlen2
         match hr1 : r,zs,hlen2 with
         | [],[],_ =>
          have := b2 [] .nil
          cases v2 with
          | tup q => cases q; exact .tup .nil
         | [q],[z],_ =>
          have := b2 [v] (.cons (L1 := []) (L2 := []) v2 .nil)
          have := this.get 0
          simpa [tupT] using this
         | q :: q' :: qs,z :: z' :: zs,_ =>
          cases v2 with
          | tup qv =>
           have := b2 _ qv
           show Rep w' N1 M' (.tup (avL (resB R ρ) (z :: z' :: zs))) _ []
           rw [avL_map]
           exact .tup this
        refine ⟨hD.df,v,v1,v,rfl,resA R ρ,resH R ρ,N1,M',(List.range (resH R ρ).length).flatMap ℓ',⟨rfl,rfl⟩,hrep,⟨?_,?_,?_,hD.nlt,fun k hk => k2 k (by rw [← hpl]; exact hk)⟩,hD.fr,fun k m m0 _ h0 => (by rw [he.un k (Nat.zero_le _)] at h0; cases h0),hD.nup,hD.ndn,?_⟩
        ·refine HR.of_fn fun i y hy => ?_
         rw [Nat.zero_add]
         unfold resH resB at hy
         rw [toHP_get,List.getElem?_map] at hy
         cases hb' : (resR 0 R ρ).2[i]? with
         | none => rw [hb'] at hy; cases hy
         | some b' =>
          rw [hb'] at hy
          simp only [Option.map_some,Option.some.injEq] at hy
          subst hy
          have := b1 i b' hb'
          rw [Nat.zero_add] at this
          exact this
        ·rw [List.map_flatMap]
         refine List.pairwise_flatMap.2 ⟨fun i hi => ?_,?_⟩
         ·cases hq : l[i]? with
          | none =>
           have : ℓ' i = [] := by
            cases hl : ℓ' i with
            | nil => rfl
            | cons p _ => obtain ⟨j,e,_⟩ := k3 i p (by rw [hl]; simp); rw [hq] at e; cases e
           rw [this]; simp
          | some o =>
           cases o with
           | none =>
            have : ℓ' i = [] := by
             cases hl : ℓ' i with
             | nil => rfl
             | cons p _ => obtain ⟨j,e,_⟩ := k3 i p (by rw [hl]; simp); rw [hq] at e; cases e
            rw [this]; simp
           | some j =>
            have := (k1.so i j hq).2
            rw [Nat.zero_add] at this
            rw [this]
            exact hD.nd j (hlt' i j hq)
         ·rw [List.pairwise_iff_getElem]
          intro i i' hi hi' hii x hx y hy e
          simp only [List.getElem_range] at hx hy
          obtain ⟨p,hp,rfl⟩ := List.mem_map.1 hx
          obtain ⟨q,hq,e'⟩ := List.mem_map.1 hy
          obtain ⟨j,ej,m1⟩ := k3 i p hp
          obtain ⟨j',ej',m2⟩ := k3 i' q hq
          refine hD.dj j j' (hlt' i j ej) (hlt' i' j' ej') (fun ee => ?_) p m1 q m2 (e.trans e'.symm)
          subst ee
          have := nodup_somes hnd ej ej'
          omega
        ·intro p hp
         obtain ⟨i,hi,hp⟩ := List.mem_flatMap.1 hp
         obtain ⟨j,e,m1⟩ := k3 i p hp
         obtain ⟨o1,o2,o3⟩ := hD.own j (hlt' i j e) p m1
         exact ⟨o1,o3⟩
        ·intro p hp
         obtain ⟨i,hi,hp⟩ := List.mem_flatMap.1 hp
         obtain ⟨j,e,m1⟩ := k3 i p hp
         exact (hD.own j (hlt' i j e) p m1).2.1
      ·cases ht
     cases e with
     | normal => obtain ⟨t,k1,k2⟩ := q; exact fin t k1 k2
     | ret =>
      obtain ⟨t,ρ',k0,k1,k2⟩ := q
      cases k1
      exact fin t k0 k2
     | exit id => obtain ⟨t,k1,k2⟩ := q; cases k1
     | _ => exact q.elim
    ·cases hf
   ·cases hf
 ·cases hf
end Go.Proofs.YtfmlmdnaeonobaaGreat.Nx
