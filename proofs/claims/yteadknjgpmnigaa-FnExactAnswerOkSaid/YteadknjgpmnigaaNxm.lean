/- Calls and regions of the evaluator: sound, with no condition beyond those each lemma names. -/
import Derived.Test.YteadknjgpmnigaaNxl
set_option linter.unusedVariables false
set_option linter.unusedSimpArgs false
namespace Go.Proofs.Yteadknjgpmnigaa.Nx
open Go Go.RowKit

def argAV (p : PK) (a : DenP p) : List AV := (capT p a).map (av [])
def resB (R : RK) (r : DenR R) : THP := (resR 0 R r).2.map some
def resA (R : RK) (r : DenR R) : AV := av (resB R r) (tupT (resR 0 R r).1)
def resH (R : RK) (r : DenR R) : HP := toHP (resB R r)

/-- A contract that holds. -/
def CTok (P : Program) (ct : CT) : Prop := ∀ a r, ct.F a = some r → AC P ct.f (argAV ct.p a) [] (Is (resA ct.R r) (resH ct.R r))

mutual
def shf (b : Nat) : TV → TV
  | .own j => .own (j + b)
  | .sub j o l => .sub (j + b) o l
  | .ptr j r o => .ptr (j + b) r o
  | .ag cs => .ag (shfL b cs)
  | .tp cs => .tp (shfL b cs)
  | .ipt cs => .ipt (shfL b cs)
  | .fn f cs => .fn f (shfL b cs)
  | .any => .any
  | .v T x => .v T x
  | .c v => .c v
  | .nil => .nil
  | .emp => .emp
  | .ipv T x o => .ipv T x o
def shfL (b : Nat) : List TV → List TV
  | [] => []
  | x :: xs => shf b x :: shfL b xs
end

theorem shfL_map (b : Nat) : ∀ xs, shfL b xs = xs.map (shf b)
  | [] => rfl
  | x :: xs => by rw [shfL, shfL_map b xs]; rfl

mutual
theorem shf_shf (a b : Nat) : ∀ x, shf a (shf b x) = shf (b + a) x
  | .own j => by simp only [shf, Nat.add_assoc]
  | .sub j o l => by simp only [shf, Nat.add_assoc]
  | .ptr j r o => by simp only [shf, Nat.add_assoc]
  | .ag cs => by simp only [shf, shfL_shfL a b cs]
  | .tp cs => by simp only [shf, shfL_shfL a b cs]
  | .ipt cs => by simp only [shf, shfL_shfL a b cs]
  | .fn f cs => by simp only [shf, shfL_shfL a b cs]
  | .any => rfl
  | .v _ _ => rfl
  | .c _ => rfl
  | .nil => rfl
  | .emp => rfl
  | .ipv _ _ _ => rfl
theorem shfL_shfL (a b : Nat) : ∀ xs, shfL a (shfL b xs) = shfL (b + a) xs
  | [] => rfl
  | x :: xs => by simp only [shfL, shf_shf a b x, shfL_shfL a b xs]
end

theorem shfL_append (b : Nat) (xs ys : List TV) : shfL b (xs ++ ys) = shfL b xs ++ shfL b ys := by simp [shfL_map]

theorem rsC_shift : ∀ (T : Ty) (x : Den T) (b : Nat), (rsC b T x).1 = shfL b (rsC 0 T x).1 ∧ (rsC b T x).2 = (rsC 0 T x).2 := by
  intro T
  induction T with
  | i | bl | tx => intro x b; exact ⟨rfl, rfl⟩
  | sl t _ => intro x b; simp [rsC, shfL, shf]
  | st t ih => intro x b; exact ih x b
  | pr a c iha ihc =>
    intro x b
    simp only [rsC, Nat.zero_add]
    rw [(iha x.1 b).1, (iha x.1 b).2]
    refine ⟨?_, ?_⟩
    · rw [(ihc x.2 (b + (rsC 0 a x.1).2.length)).1, (ihc x.2 ((rsC 0 a x.1).2.length)).1, shfL_append, shfL_shfL, Nat.add_comm]
    · rw [(ihc x.2 (b + (rsC 0 a x.1).2.length)).2, (ihc x.2 ((rsC 0 a x.1).2.length)).2]

theorem resT_shift (T : Ty) (x : Den T) (b : Nat) : (resT b T x).1 = shf b (resT 0 T x).1 ∧ (resT b T x).2 = (resT 0 T x).2 := by
  have h := rsC_shift T x b
  unfold resT
  cases T.flat with
  | true => exact ⟨rfl, rfl⟩
  | false =>
    simp only [cond_false]
    cases T.ag with
    | true => simp only [cond_true, h.1, h.2, shf]; exact ⟨trivial, trivial⟩
    | false =>
      simp only [cond_false, h.1, h.2]
      refine ⟨?_, trivial⟩
      cases (rsC 0 T x).1 <;> rfl

theorem resR_shift : ∀ (R : RK) (r : DenR R) (b : Nat), (resR b R r).1 = shfL b (resR 0 R r).1 ∧ (resR b R r).2 = (resR 0 R r).2 := by
  intro R
  induction R with
  | un => intro r b; exact ⟨rfl, rfl⟩
  | t T => intro r b; simp only [resR, (resT_shift T r b).1, (resT_shift T r b).2, shfL]; exact ⟨trivial, trivial⟩
  | pr a c iha ihc =>
    intro r b
    simp only [resR, Nat.zero_add]
    rw [(iha r.1 b).1, (iha r.1 b).2]
    refine ⟨?_, ?_⟩
    · rw [(ihc r.2 (b + (resR 0 a r.1).2.length)).1, (ihc r.2 ((resR 0 a r.1).2.length)).1, shfL_append, shfL_shfL, Nat.add_comm]
    · rw [(ihc r.2 (b + (resR 0 a r.1).2.length)).2, (ihc r.2 ((resR 0 a r.1).2.length)).2]

theorem tupT_shf (b : Nat) (xs : List TV) : tupT (shfL b xs) = shf b (tupT xs) := by
  match xs with
  | [] => rfl
  | [x] => rfl
  | x :: y :: xs => rfl

def isArrT : TB → Bool
  | .arr _ o _ => o
  | _ => false

theorem rsC_arr : ∀ (T : Ty) (x : Den T) (b : Nat), ∀ k ∈ (rsC b T x).2, isArrT k = true := by
  intro T
  induction T with
  | i | bl | tx => intro x b k hk; cases hk
  | sl t _ => intro x b k hk; simp only [rsC, List.mem_singleton] at hk; subst hk; rfl
  | st t ih => intro x b; exact ih x b
  | pr a c iha ihc =>
    intro x b k hk
    rcases List.mem_append.1 hk with h | h
    · exact iha _ _ k h
    · exact ihc _ _ k h

theorem resT_arr (T : Ty) (x : Den T) (b : Nat) : ∀ k ∈ (resT b T x).2, isArrT k = true := by
  intro k hk
  unfold resT at hk
  cases hf : T.flat with
  | true => rw [hf] at hk; cases hk
  | false =>
    rw [hf, cond_false] at hk
    cases ha : T.ag <;> rw [ha] at hk <;> exact rsC_arr T x b k hk

theorem resR_arr : ∀ (R : RK) (r : DenR R) (b : Nat), ∀ k ∈ (resR b R r).2, isArrT k = true := by
  intro R
  induction R with
  | un => intro r b k hk; cases hk
  | t T => intro r b; exact resT_arr T r b
  | pr a c iha ihc =>
    intro x b k hk
    rcases List.mem_append.1 hk with h | h
    · exact iha _ _ k h
    · exact ihc _ _ k h

mutual
theorem av_shf {hp hp' : THP} {b : Nat} (h : ∀ j, hpk hp' (j + b) = hpk hp j) : ∀ x : TV, av hp' (shf b x) = ren (· + b) (av hp x)
  | .any => rfl
  | .v T x => by simp only [shf, av]; rw [ren_ci _ _ (ci_enc T x)]
  | .c _ => rfl
  | .nil => rfl
  | .emp => rfl
  | .ag cs => by simp only [shf, av, ren]; rw [avL_shf h cs]
  | .tp cs => by simp only [shf, av, ren]; rw [avL_shf h cs]
  | .own j => by
    simp only [shf, av, h]
    generalize hpk hp j = q
    cases q with
    | none => rfl
    | some q => cases q <;> rfl
  | .sub j o l => by
    simp only [shf, av, h]
    generalize hpk hp j = q
    cases q with
    | none => rfl
    | some q => cases q <;> rfl
  | .ptr j r o => by
    simp only [shf, av, h]
    generalize hpk hp j = q
    cases q with
    | none => rfl
    | some q => cases q <;> rfl
  | .ipv T x o => by
    simp only [shf, av]
    rw [ren_ci _ _ (by
      simp only [ci, ciL_all]
      have := ciL_cls T x
      rw [ciL_all] at this
      rw [List.all_eq_true] at this ⊢
      exact fun c hc => this c (List.mem_of_mem_drop hc))]
  | .ipt cs => by simp only [shf, av, ren]; rw [avL_shf h cs]
  | .fn f cs => by simp only [shf, av, ren]; rw [avL_shf h cs]
theorem avL_shf {hp hp' : THP} {b : Nat} (h : ∀ j, hpk hp' (j + b) = hpk hp j) : ∀ xs : List TV, avL hp' (shfL b xs) = renL (· + b) (avL hp xs)
  | [] => rfl
  | x :: xs => by simp only [shfL, avL, renL]; rw [av_shf h x, avL_shf h xs]
end

theorem ren_mkr (f : Nat → Nat) (ag : Bool) (l : List AV) : ren f (mkr ag l) = mkr ag (renL f l) := by
  unfold mkr
  split
  · rfl
  · cases l <;> rfl

/-- Data have no keys. -/
theorem ren_cls (f : Nat → Nat) (o : Bool) : ∀ (T : Ty) (x : Den T), renL f (cls o T x) = cls o T x := by
  intro T
  induction T with
  | i | bl | tx => intro x; rfl
  | sl t ih =>
    intro x
    simp only [cls, renL, ren]
    rw [renL_map, List.map_map]
    congr 2
    refine List.map_congr_left fun y _ => ?_
    simp only [Function.comp, ren_mkr, ih y]
  | pr a b iha ihb => intro x; simp only [cls]; rw [renL_map, List.map_append, ← renL_map, ← renL_map, iha, ihb]
  | st t ih => intro x; exact ih x

theorem ren_rows (f : Nat → Nat) (o : Bool) (T : Ty) (L : List (Den T)) : renL f (L.map (enc o T)) = L.map (enc o T) := by
  rw [renL_map, List.map_map]
  refine List.map_congr_left fun y _ => ?_
  simp only [Function.comp, enc, ren_mkr, ren_cls]

theorem fresh_cls : ∀ (T : Ty) (x : Den T), freshL (cls true T x) = true := by
  intro T
  induction T with
  | i | bl | tx => intro x; rfl
  | sl t ih =>
    intro x
    simp only [cls, freshL, fresh, Bool.true_or, Bool.true_and, Bool.and_true]
    rw [freshL_all, List.all_eq_true]
    intro c hc
    obtain ⟨y, _, rfl⟩ := List.mem_map.1 hc
    have := ih y
    unfold mkr
    split
    · exact this
    · generalize cls true t y = l at this
      cases l with
      | nil => rfl
      | cons c l => simp only [freshL, Bool.and_eq_true] at this; exact this.1
  | pr a b iha ihb => intro x; simp only [cls]; rw [freshL_all, List.all_append, ← freshL_all, ← freshL_all, iha, ihb]; rfl
  | st t ih => intro x; exact ih x

theorem fresh_enc (T : Ty) (x : Den T) : fresh (enc true T x) = true := by
  have := fresh_cls T x
  unfold enc mkr
  split
  · exact this
  · generalize cls true T x = l at this
    cases l with
    | nil => rfl
    | cons c l => simp only [freshL, Bool.and_eq_true] at this; exact this.1

theorem fresh_flat {T : Ty} (h : T.flat = true) (x : Den T) : fresh (enc false T x) = true := by
  have := fresh_enc T x
  unfold enc at this ⊢
  rw [← cls_flat h]; exact this

section
variable {hp : THP}

theorem fresh_rsC : ∀ (T : Ty) (x : Den T) (b : Nat), ∀ c ∈ (rsC b T x).1, fresh (av hp c) = true := by
  intro T
  induction T with
  | i | bl | tx => intro x b c hc; simp only [rsC, List.mem_singleton] at hc; subst hc; rfl
  | sl t _ =>
    intro x b c hc
    simp only [rsC, List.mem_singleton] at hc
    subst hc
    simp only [av]
    split <;> rfl
  | st t ih => intro x b; exact ih x b
  | pr a d iha ihd =>
    intro x b c hc
    rcases List.mem_append.1 hc with h | h
    · exact iha _ _ c h
    · exact ihd _ _ c h

theorem fresh_agL {cs : List TV} (h : ∀ c ∈ cs, fresh (av hp c) = true) : freshL (avL hp cs) = true := by
  rw [freshL_all, avL_map, List.all_map, List.all_eq_true]
  exact fun c hc => h c hc

theorem fresh_resT (T : Ty) (x : Den T) (b : Nat) : fresh (av hp (resT b T x).1) = true := by
  have h := fresh_rsC (hp := hp) T x b
  unfold resT
  cases hf : T.flat with
  | true => exact fresh_flat hf x
  | false =>
    simp only [cond_false]
    cases T.ag with
    | true => exact fresh_agL h
    | false =>
      simp only [cond_false]
      generalize (rsC b T x).1 = l at h
      cases l with
      | nil => rfl
      | cons c l => exact h c (by simp)

theorem fresh_resR : ∀ (R : RK) (r : DenR R) (b : Nat), ∀ c ∈ (resR b R r).1, fresh (av hp c) = true := by
  intro R
  induction R with
  | un => intro r b c hc; cases hc
  | t T => intro r b c hc; simp only [resR, List.mem_singleton] at hc; subst hc; exact fresh_resT T r b
  | pr a d iha ihd =>
    intro x b c hc
    rcases List.mem_append.1 hc with h | h
    · exact iha _ _ c h
    · exact ihd _ _ c h

theorem fresh_tup {xs : List TV} (h : ∀ c ∈ xs, fresh (av hp c) = true) : fresh (av hp (tupT xs)) = true := by
  match xs, h with
  | [], _ => rfl
  | [x], h => exact h x (by simp)
  | x :: y :: xs, h => exact fresh_agL h
end

theorem fresh_resA (R : RK) (r : DenR R) : fresh (resA R r) = true := fresh_tup (fresh_resR R r 0)

theorem fresh_resH (R : RK) (r : DenR R) : freshH (resH R r) = true := by
  unfold freshH resH toHP resB
  rw [List.map_map, List.all_map, List.all_eq_true]
  intro b hb
  have := resR_arr R r 0 b hb
  cases b with
  | arr T o L =>
    simp only [isArrT] at this
    subst this
    show freshL (L.map (enc true T)) = true
    rw [freshL_all, List.all_map, List.all_eq_true]
    exact fun y _ => fresh_enc T y
  | _ => cases this

section
variable {n : Nat} {t : TS}

/-- New blocks, as they came. -/
theorem StLe.newL {bs : List TB} (hb : ∀ b ∈ bs, isArrT b = true) : StLe { toAS n t with hp := toHP t.hp ++ impA t.hp.length (toHP (bs.map some)) } (toAS n (t.new bs)) := by
  have hl : ∀ j, Nat.blt j t.hp.length = true → hpk (t.new bs).hp j = hpk t.hp j := fun j hj => by
    rw [Nat.blt_eq] at hj
    rw [← hpk_flt (fun i => Nat.blt i t.hp.length) t.hp j]
    unfold hpk TS.new
    rw [List.getElem?_append_left (by rw [fltH_len]; exact hj)]
  refine ⟨by rw [toAS_len, toAS_len], fun i => ?_, ?_, fun i x hx => ?_⟩
  · show Im ((toAS n t).sl.getD i .any) _
    rw [toAS_get, toAS_get, TS.new, get_flt n t _ _ (fun i => Nat.blt i t.hp.length) rfl]
    exact av_flt hl _
  · show (toHP (t.new bs).hp).length = (toHP t.hp ++ impA t.hp.length (toHP (bs.map some))).length
    simp [toHP_len, TS.new, fltH_len, impA_length]
  · show ∃ y, (toHP (t.new bs).hp)[i]? = some y ∧ _
    replace hx : (toHP t.hp ++ impA t.hp.length (toHP (bs.map some)))[i]? = some x := hx
    rw [toHP_get]
    rcases Nat.lt_or_ge i t.hp.length with hi | hi
    · rw [List.getElem?_append_left (by rw [toHP_len]; exact hi), toHP_get] at hx
      have e : (t.new bs).hp[i]? = (t.hp[i]?).map (Option.map (TB.flt fun i => Nat.blt i t.hp.length)) := by
        unfold TS.new
        rw [List.getElem?_append_left (by rw [fltH_len]; exact hi), fltH_get]
      rw [e]
      cases hb : t.hp[i]? with
      | none => rw [hb] at hx; cases hx
      | some c =>
        rw [hb] at hx
        simp only [Option.map_some, Option.some.injEq] at hx
        subst hx
        refine ⟨_, rfl, ?_⟩
        cases c with
        | none => trivial
        | some c => exact tb_flt hl c
    · rw [List.getElem?_append_right (by rw [toHP_len]; exact hi), toHP_len] at hx
      have e : (t.new bs).hp[i]? = (bs.map some)[i - t.hp.length]? := by
        unfold TS.new
        rw [List.getElem?_append_right (by rw [fltH_len]; exact hi), fltH_len]
      rw [e]
      unfold impA at hx
      rw [List.getElem?_map, toHP_get] at hx
      rw [List.getElem?_map] at hx ⊢
      cases hb' : bs[i - t.hp.length]? with
      | none => rw [hb'] at hx; cases hx
      | some b =>
        rw [hb'] at hx
        simp only [Option.map_some, Option.some.injEq] at hx
        subst hx
        refine ⟨_, rfl, ?_⟩
        have := hb b (List.mem_of_getElem? hb')
        cases b with
        | arr T o L =>
          show RowLe { tb (bs.map some) (.arr T o L) with rows := renL _ (L.map (enc o T)), fz := 0 } (tb _ (.arr T o L))
          rw [ren_rows]
          exact RowLe.refl _
        | _ => cases this

theorem hpk_new {bs : List TB} (j : Nat) : hpk (t.new bs).hp (j + t.hp.length) = hpk (bs.map some) j := by
  unfold hpk TS.new
  rw [List.getElem?_append_right (by rw [fltH_len]; omega), fltH_len, Nat.add_sub_cancel]

/-- More is told of the arguments. -/
theorem AC.args {P : Program} {f : FuncId} {args args' : List AV} {hp0 : HP} {Post : AV → HP → Prop} (h : AC P f args' hp0 Post) (hi : All2 Im args args') : AC P f args hp0 Post :=
  ⟨h.1, fun w N M L vs he hr => h.2 w N M L vs he (Im.all2 hi hr)⟩

theorem pick_spec {hp : THP} : ∀ {Γ : List CT} {f : FuncId} {xs : List TV} {ct : CT} {a : DenP ct.p}, pick hp Γ f xs = some ⟨ct, a⟩ → ct ∈ Γ ∧ ct.f = f ∧ need ct.p ≤ 8 ∧ asPs hp ct.p xs = some (a, [])
  | [], _, _, _, _, h => by cases h
  | c :: Γ, f, xs, ct, a, h => by
    simp only [pick] at h
    cases hb : (Nat.beq c.f f && Nat.ble (need c.p) 8) with
    | false =>
      rw [hb, cond_false] at h
      obtain ⟨h1, h2⟩ := pick_spec h
      exact ⟨List.mem_cons_of_mem _ h1, h2⟩
    | true =>
      rw [hb, cond_true] at h
      split at h
      · rename_i a' e
        simp only [Bool.and_eq_true, Nat.beq_eq] at hb
        cases h
        exact ⟨by simp, hb.1, Nat.le_of_ble_eq_true hb.2, e⟩
      · obtain ⟨h1, h2⟩ := pick_spec h
        exact ⟨List.mem_cons_of_mem _ h1, h2⟩

theorem xcall_sound {P : Program} {Ω : Type} {r : Ω} {Γ : List CT} (hΓ : ∀ ct ∈ Γ, CTok P ct) {f : FuncId} {xs : List TV} {d : Option Nat} {k : TS → Option Ω} (h : xcall Γ t f xs d k = some r) :
    CallW P (toAS n t) f (xs.map (av t.hp)) d (Kt k r n) := by
  unfold xcall at h
  split at h
  · rename_i ct a hp
    obtain ⟨h1, h2, h3, h4⟩ := pick_spec hp
    obtain ⟨y, hy, hk⟩ := Option.bind_eq_some_iff.1 h
    obtain ⟨x1, e, hi⟩ := asPs_spec _ _ _ _ h4 8 h3
    rw [List.append_nil] at e
    subst e
    refine .a ⟨Is (resA ct.R y) (resH ct.R y), ?_, ?_⟩
    · have := hΓ ct h1 a y hy
      rw [h2] at this
      refine this.args ?_
      rw [List.map_map]
      exact hi
    · rintro x hp' ⟨rfl, rfl⟩
      refine ⟨fresh_resA _ _, fresh_resH _ _, ?_⟩
      refine Kt.of hk ?_
      rw [toAS_put, toAS_hp, toHP_len]
      obtain ⟨s1, s2⟩ := resR_shift ct.R y t.hp.length
      have hle := StLe.newL (n := n) (t := t) (resR_arr ct.R y t.hp.length)
      rw [s2] at hle
      rw [s2]
      refine StLe.put hle d ?_
      rw [s1, tupT_shf, av_shf (hp := resB ct.R y)]
      · exact Im.refl _
      · exact fun j => hpk_new j
  · cases h
end
end Go.Proofs.Yteadknjgpmnigaa.Nx

namespace Go.Proofs.Yteadknjgpmnigaa.Nx
open Go Go.RowKit

section
variable {P : Program} {Ω : Type} {r : Ω} {Γ : List CT} {Θ : TyO} {n : Nat} {C : Ctx} {t : TS} {a : Act} {w : World}

theorem xeff_sound (hc : Conc C (toAS n t) a w) {d : Option Nat} {k : TS → Option Ω} {no : NO} (h : xeff n Θ t d k no = some r) : ae (toAS n t) d (Kt k r n) no := by
  cases no with
  | al z => exact eff_al h
  | bx m x => exact eff_bx h
  | bsl sz m ag z ps => exact eff_bsl h
  | mk sz b ag z l c => exact eff_mk h
  | st m x y =>
    refine eff_st (fun j row off hx T o L e => ?_) h
    obtain ⟨N, M, K, hcd⟩ := hc
    have ha : (toAS n t).ev x = .ptr j L.length row off := by rw [toAS_ev, hx]; simp only [av, hpk_arr e]
    obtain ⟨b, m, L1, q1, q2, q3, q4, q5, q6, q7, q8⟩ := hcd.ptr ha (by rw [toAS_hp, at_arr e]; rfl)
    exact q7
  | app str sz b x y => exact eff_app h
  | csb x => exact eff_csb h
  | isn g x => exact eff_isn h
  | _ => cases h

theorem xact_sound (hΓ : ∀ ct ∈ Γ, CTok P ct) (hc : Conc C (toAS n t) a w) {o : NOp} {k : TS → Option Ω} (h : xact Γ Θ n t o k = some r) : actW P (toAS n t) o (Kt k r n) := by
  have args : ∀ l : List Operand, l.map (toAS n t).ev = (l.map (t.ev n)).map (av t.hp) := fun l => by
    rw [List.map_map]; exact List.map_congr_left fun x _ => toAS_ev n t x
  obtain ⟨N, M, L, hcd⟩ := id hc
  have reads : ∀ no : NO, o.n = no → (chk (rd n t no).1 (k (t.put o.d (rd n t no).2)) = some r) → apc (toAS n t) no ∧ Kt k r n ((toAS n t).put o.d (apv (toAS n t) no)) := fun no _ h => by
    obtain ⟨h1, h2⟩ := chk_some h
    obtain ⟨k1, k2⟩ := rd_sound hcd no h1
    refine ⟨k1, Kt.of h2 ?_⟩
    rw [toAS_put, k2]
    exact StLe.refl _
  obtain ⟨d, g, no⟩ := o
  have effs : ∀ no : NO, xeff n Θ t d k no = some r → ae (toAS n t) d (Kt k r n) no := fun no h => xeff_sound hc h
  unfold xact at h
  unfold actW
  cases no with
  | call f l =>
    simp only at h ⊢
    rw [args]
    exact xcall_sound hΓ h
  | callv x l =>
    simp only at h ⊢
    rw [toAS_ev]
    split at h
    · rename_i f cap e
      rw [e]
      simp only [av, avL_map]
      rw [args, ← List.map_append]
      exact xcall_sound hΓ h
    · cases h
  | al z => exact effs (.al z) h
  | bx m x => exact effs (.bx m x) h
  | bsl sz m ag z ps => exact effs (.bsl sz m ag z ps) h
  | mk sz b ag z l c => exact effs (.mk sz b ag z l c) h
  | st m x y => exact effs (.st m x y) h
  | app str sz b x y => exact effs (.app str sz b x y) h
  | csb x => exact effs (.csb x) h
  | isn g x => exact effs (.isn g x) h
  | _ => exact reads _ rfl h

theorem put_same {s : AS} {g : Nat} {x : AV} (h : s.sl.getD g .any = x) : s.put (some g) x = s := by
  show ({ s with sl := s.sl.set g x } : AS) = s
  rcases Nat.lt_or_ge g s.sl.length with hl | hl
  · rw [← h, List.getD_eq_getElem?_getD, List.getElem?_eq_getElem hl]
    simp
  · rw [List.set_eq_of_length_le hl]

theorem xst_sound (hΓ : ∀ ct ∈ Γ, CTok P ct) (hc : Conc C (toAS n t) a w) {o : NOp} {k : TS → Option Ω} (h : xst Γ Θ n t o k = some r) : stW P (toAS n t) o (Kt k r n) := by
  unfold xst at h
  unfold stW
  split at h
  · rename_i hg
    rw [hg]
    exact xact_sound hΓ hc h
  · rename_i g want hg
    rw [hg]
    split at h
    · rename_i b hb
      have hev : (toAS n t).ev (.tmp g) = .val (.bool b) := by
        rw [toAS_ev]
        show av t.hp (t.get n g) = _
        rw [hb]; rfl
      have hsame : toAS n (t.put (some g) (.v .bl b)) = toAS n t := by
        rw [toAS_put]; exact put_same hev
      simp only [hev]
      have yes : ∀ c, b = c → xact Γ Θ n (t.put (some g) (.v .bl c)) o k = some r → actW P ((toAS n t).put (some g) (.val (.bool c))) o (Kt k r n) := by
        rintro c rfl h
        have hc' : Conc C (toAS n (t.put (some g) (.v .bl b))) a w := by rw [hsame]; exact hc
        have := xact_sound hΓ hc' h
        rw [toAS_put] at this
        exact this
      have no : ∀ c, k ((t.put (some g) (.v .bl c)).put o.d (.c undef)) = some r → Kt k r n (((toAS n t).put (some g) (.val (.bool c))).put o.d (.val undef)) := fun c h => by
        refine Kt.of h ?_
        rw [toAS_put, toAS_put]
        exact StLe.refl _
      split at h
      · cases b with
        | true => exact ⟨fun _ => yes true rfl h, fun e => by cases e⟩
        | false => exact ⟨(fun e => by cases e), fun _ => no false h⟩
      · cases b with
        | true => exact ⟨(fun e => by cases e), fun _ => no true h⟩
        | false => exact ⟨fun _ => yes false rfl h, fun e => by cases e⟩
    · rename_i hb
      have hev : (toAS n t).ev (.tmp g) = .val (.tuple ⟨[]⟩) := by
        rw [toAS_ev]
        show av t.hp (t.get n g) = _
        rw [hb]; rfl
      simp only [hev]
      refine Kt.of h ?_
      rw [toAS_put]
      exact StLe.refl _
    · cases h

variable {ops : Array Oper} {Q : Exit → Act → World → Prop}

theorem planT (hΓ : ∀ ct ∈ Γ, CTok P ct) (hs : Region.noSelect ops = true) (hQ : ∀ c a w, ¬ Q (.panic c) a w) {k : TS → Option Ω} (hK : ∀ t a w, k t = some r → Conc C (toAS n t) a w → Q .normal a w) :
    ∀ (fuel : Nat) (listed : Array Bool) (rt : RT), plan P ops fuel listed = some rt → ∀ (t : TS) (a : Act) (w : World), xreg Γ Θ n rt k t = some r → Conc C (toAS n t) a w → gAny P .any ops Q (quietAt P ops) fuel listed a w := by
  intro fuel
  induction fuel with
  | zero =>
    intro listed rt h t a w hr hc
    unfold plan at h
    split at h
    · rename_i he
      cases h
      exact ⟨by simpa using he, hK _ _ _ hr hc⟩
    · cases h
  | succ fuel ih =>
    intro listed rt h t a w hr hc
    unfold plan at h
    split at h
    · rename_i i hi
      obtain ⟨o, nn, t', h1, h2, h3, rfl⟩ := branch_inv h
      have hmem := List.mem_of_find?_eq_some hi
      have hfree := List.find?_some hi
      have hst := xst_sound hΓ hc hr
      obtain ⟨N, M, L, hcd⟩ := hc
      have h2' := h2
      unfold nOper at h2'
      split at h2'
      · rename_i no g hno hg
        cases h2'
        obtain ⟨hrd, hf⟩ := free_hfree h1 hno hfree
        have hop : nOp P o.op = some no := by
          rcases nAny_cases hno with h | h | h
          · exact h
          · have := (nEff_kind h).1; rw [hrd] at this; cases this
          · rcases nCall_cases h with ⟨_, _, _, _, rfl⟩ | ⟨_, _, _, _, rfl⟩ <;> cases hrd
        rcases stW_cases hcd hg hst with ⟨hw, ha⟩ | ⟨hw, hk⟩
        · obtain ⟨c1, t1, c2, c3⟩ := actW_reads hrd ha
          obtain ⟨v, ⟨q1, q2⟩, rr⟩ := reads_sound hcd hop c1
          have hy : YK P ops no.looks o v a w := .inl ⟨hw, fun w' hk => by
            cases hl : no.looks with
            | true => exact q1 w' (hk hl) o rfl
            | false => exact q2 hl w' o rfl⟩
          exact gAny_first h1 (Region.noSelect_spec hs) hQ fuel listed a w hf hmem hy (ih _ _ h3 _ _ _ c2 (c3 C _ _ ⟨N, M, L, hcd.put _ rr⟩))
        · obtain ⟨t1, c2, c3⟩ := hk
          have hy : YK P ops no.looks o undef a w := .inr ⟨hw, rfl⟩
          exact gAny_first h1 (Region.noSelect_spec hs) hQ fuel listed a w hf hmem hy (ih _ _ h3 _ _ _ c2 (c3 C _ _ ⟨N, M, L, hcd.put _ (.val _)⟩))
      · cases h2'
    · refine ⟨fun he => ?_, fun i hi => ?_⟩
      · rw [he] at h
        cases h
        exact hK _ _ _ hr hc
      · -- two orders are not taken
        revert h
        generalize Region.ready .any ops listed = l at hi
        intro h
        match l, hi with
        | [j], hi =>
          simp only [List.mem_singleton] at hi
          subst hi
          obtain ⟨o, nn, t'', h3, h4, h5, rfl⟩ := branch_inv h
          refine gOp_mono (fun a' w' ⟨s', ⟨t1, k1, k2⟩, k3⟩ => ih _ _ h5 t1 a' w' k1 (k2 C _ _ k3)) (st_sound hc h3 h4 (xst_sound hΓ hc hr))
        | j :: j' :: l, _ =>
          simp only [branches] at h
          split at h
          · cases h; cases hr
          · cases h

theorem lineT (hΓ : ∀ ct ∈ Γ, CTok P ct) {k : TS → Option Ω} (hK : ∀ t a w, k t = some r → Conc C (toAS n t) a w → Q .normal a w) : ∀ (l : List Oper) (j : Nat) (rt : RT), (∀ i, l[i]? = ops[j + i]?) → line P ops l = some rt →
    ∀ (t : TS) (a : Act) (w : World), xreg Γ Θ n rt k t = some r → Conc C (toAS n t) a w → wpOps P ops Q (List.range' j l.length) a w := by
  intro l
  induction l with
  | nil =>
    intro j rt _ h t a w hr hc
    cases h
    exact hK _ _ _ hr hc
  | cons o l ih =>
    intro j rt hl h t a w hr hc
    simp only [line] at h
    split at h
    · rename_i nn t' h1 h2
      cases h
      rw [List.length_cons, List.range'_succ, wpOps_cons]
      have h0 : ops[j]? = some o := by simpa using (hl 0).symm
      refine wpOp_mono (fun a' w' ⟨_, s', ⟨t1, k1, k2⟩, k3⟩ => ih (j + 1) t' (fun i => by have := hl (i + 1); simpa [Nat.add_assoc, Nat.add_comm 1 i] using this) h2 t1 a' w' k1 (k2 C _ _ k3)) (st_sound hc h0 h1 (xst_sound hΓ hc hr))
    · cases h
end
end Go.Proofs.Yteadknjgpmnigaa.Nx
