/- Call results and blocks anew: sound, with no condition beyond those each lemma names. -/
import Derived.Test.YtkmhopbmpeiofaaNxl
set_option linter.unusedVariables false
set_option linter.unusedSimpArgs false
namespace Go.Proofs.Ytkmhopbmpeiofaa.Nx
open Go Go.RowKit
def argAV (p : PK) (a : DenP p) : List AV := (capT p a).map (av [])
def resB (R : RK) (r : DenR R) : THP := (resR 0 R r).2.map some
def resA (R : RK) (r : DenR R) : AV := av (resB R r) (tupT (resR 0 R r).1)
def resH (R : RK) (r : DenR R) : HP := toHP (resB R r)
def CTok (P : Program) (ct : CT) : Prop := ∀ a r,ct.F a = some r → AC P ct.f (argAV ct.p a) [] (Is (resA ct.R r) (resH ct.R r))
mutual
def shf (b : Nat) : TV → TV
 | .own j => .own (j + b)
 | .sub j o l => .sub (j + b) o l
 | .ptr j r o => .ptr (j + b) r o
 | .ag cs => .ag (shfL b cs)
 | .tp cs => .tp (shfL b cs)
 | .ipt cs => .ipt (shfL b cs)
 | .fn f cs => .fn f (shfL b cs)
 | .any => .any
 | .v T x => .v T x
 | .c v => .c v
 | .nil => .nil
 | .emp => .emp
 | .ipv T x o => .ipv T x o
def shfL (b : Nat) : List TV → List TV
 | [] => []
 | x :: xs => shf b x :: shfL b xs
end
theorem shfL_map (b : Nat) : ∀ xs,shfL b xs = xs.map (shf b)
 | [] => rfl
 | x :: xs => by rw [shfL,shfL_map b xs]; rfl
mutual
theorem shf_shf (a b : Nat) : ∀ x,shf a (shf b x) = shf (b + a) x
 | .own j => by simp only [shf,Nat.add_assoc]
 | .sub j o l => by simp only [shf,Nat.add_assoc]
 | .ptr j r o => by simp only [shf,Nat.add_assoc]
 | .ag cs => by simp only [shf,shfL_shfL a b cs]
 | .tp cs => by simp only [shf,shfL_shfL a b cs]
 | .ipt cs => by simp only [shf,shfL_shfL a b cs]
 | .fn f cs => by simp only [shf,shfL_shfL a b cs]
 | .any => rfl
 | .v _ _ => rfl
 | .c _ => rfl
 | .nil => rfl
 | .emp => rfl
 | .ipv _ _ _ => rfl
theorem shfL_shfL (a b : Nat) : ∀ xs,shfL a (shfL b xs) = shfL (b + a) xs
 | [] => rfl
 | x :: xs => by simp only [shfL,shf_shf a b x,shfL_shfL a b xs]
end
theorem shfL_append (b : Nat) (xs ys : List TV) : shfL b (xs ++ ys) = shfL b xs ++ shfL b ys := by simp [shfL_map]
theorem rsC_shift : ∀ (T : Ty) (x : Den T) (b : Nat),(rsC b T x).1 = shfL b (rsC 0 T x).1 ∧ (rsC b T x).2 = (rsC 0 T x).2 := by
 intro T
 induction T with
 | i | bl | tx | sv => intro x b; exact ⟨rfl,rfl⟩
 | ar n k =>
  intro x b
  refine ⟨?_,rfl⟩
  simp only [rsC,tcls,shfL_map,List.map_map]
  exact List.map_congr_left fun i _ => rfl
 | sl t _ => intro x b; simp [rsC,shfL,shf]
 | st t ih => intro x b; exact ih x b
 | pr a c iha ihc =>
  intro x b
  simp only [rsC,Nat.zero_add]
  rw [(iha x.1 b).1,(iha x.1 b).2]
  refine ⟨?_,?_⟩
  ·rw [(ihc x.2 (b + (rsC 0 a x.1).2.length)).1,(ihc x.2 ((rsC 0 a x.1).2.length)).1,shfL_append,shfL_shfL,Nat.add_comm]
  ·rw [(ihc x.2 (b + (rsC 0 a x.1).2.length)).2,(ihc x.2 ((rsC 0 a x.1).2.length)).2]
theorem av_nrm (hp : THP) (T : Ty) (x : Den T) : av hp (nrmT T x) = enc false T x := by cases T <;> rfl
theorem resT_shift (T : Ty) (x : Den T) (b : Nat) : (resT b T x).1 = shf b (resT 0 T x).1 ∧ (resT b T x).2 = (resT 0 T x).2 := by
 have h := rsC_shift T x b
 unfold resT
 cases T.flat with
 | true => exact ⟨by cases T <;> rfl,rfl⟩
 | false =>
  simp only [cond_false]
  cases T.ag with
  | true => simp only [cond_true,h.1,h.2,shf]; exact ⟨trivial,trivial⟩
  | false =>
   simp only [cond_false,h.1,h.2]
   refine ⟨?_,trivial⟩
   cases (rsC 0 T x).1 <;> rfl
theorem resR_shift : ∀ (R : RK) (r : DenR R) (b : Nat),(resR b R r).1 = shfL b (resR 0 R r).1 ∧ (resR b R r).2 = (resR 0 R r).2 := by
 intro R
 induction R with
 | un => intro r b; exact ⟨rfl,rfl⟩
 | t T => intro r b; simp only [resR,(resT_shift T r b).1,(resT_shift T r b).2,shfL]; exact ⟨trivial,trivial⟩
 | pv T => intro r b; simp [resR,shfL,shf]
 | pr a c iha ihc =>
  intro r b
  simp only [resR,Nat.zero_add]
  rw [(iha r.1 b).1,(iha r.1 b).2]
  refine ⟨?_,?_⟩
  ·rw [(ihc r.2 (b + (resR 0 a r.1).2.length)).1,(ihc r.2 ((resR 0 a r.1).2.length)).1,shfL_append,shfL_shfL,Nat.add_comm]
  ·rw [(ihc r.2 (b + (resR 0 a r.1).2.length)).2,(ihc r.2 ((resR 0 a r.1).2.length)).2]
theorem tupT_shf (b : Nat) (xs : List TV) : tupT (shfL b xs) = shf b (tupT xs) := by
 match xs with
 | [] => rfl
 | [x] => rfl
 | x :: y :: xs => rfl
def isArrT : TB → Bool
 | .arr _ o _ => o
 | _ => false
theorem rsC_arr : ∀ (T : Ty) (x : Den T) (b : Nat),∀ k ∈ (rsC b T x).2,isArrT k = true := by
 intro T
 induction T with
 | i | bl | tx | sv | ar => intro x b k hk; cases hk
 | sl t _ => intro x b k hk; simp only [rsC,List.mem_singleton] at hk; subst hk; rfl
 | st t ih => intro x b; exact ih x b
 | pr a c iha ihc =>
  intro x b k hk
  rcases List.mem_append.1 hk with h | h
  ·exact iha _ _ k h
  ·exact ihc _ _ k h
theorem resT_arr (T : Ty) (x : Den T) (b : Nat) : ∀ k ∈ (resT b T x).2,isArrT k = true := by
 intro k hk
 unfold resT at hk
 cases hf : T.flat with
 | true => rw [hf] at hk; cases hk
 | false =>
  rw [hf,cond_false] at hk
  cases ha : T.ag <;> rw [ha] at hk <;> exact rsC_arr T x b k hk
theorem resR_arr : ∀ (R : RK),noPv R = true → ∀ (r : DenR R) (b : Nat),∀ k ∈ (resR b R r).2,isArrT k = true := by
 intro R
 induction R with
 | un => intro _ r b k hk; cases hk
 | t T => intro _ r b; exact resT_arr T r b
 | pv T => intro h; cases h
 | pr a c iha ihc =>
  intro h x b k hk
  simp only [noPv,Bool.and_eq_true] at h
  rcases List.mem_append.1 hk with hk | hk
  ·exact iha h.1 _ _ k hk
  ·exact ihc h.2 _ _ k hk
def TB.novB : TB → Bool
 | .arr T _ _ => T.nov
 | _ => true
theorem rsC_nov : ∀ (T : Ty),T.nov = true → ∀ (x : Den T) (b : Nat),∀ k ∈ (rsC b T x).2,k.novB = true := by
 intro T
 induction T with
 | i | bl | tx | sv | ar => intro _ x b k hk; cases hk
 | sl t _ => intro h x b k hk; simp only [rsC,List.mem_singleton] at hk; subst hk; exact h
 | st t ih => intro h x b; exact ih h x b
 | pr a c iha ihc =>
  intro h x b k hk
  simp only [Ty.nov,Bool.and_eq_true] at h
  rcases List.mem_append.1 hk with hk | hk
  ·exact iha h.1 _ _ k hk
  ·exact ihc h.2 _ _ k hk
theorem resT_nov (T : Ty) (h : T.nov = true) (x : Den T) (b : Nat) : ∀ k ∈ (resT b T x).2,k.novB = true := by
 intro k hk
 unfold resT at hk
 cases hf : T.flat with
 | true => rw [hf] at hk; cases hk
 | false =>
  rw [hf,cond_false] at hk
  cases ha : T.ag <;> rw [ha] at hk <;> exact rsC_nov T h x b k hk
theorem resR_nov : ∀ (R : RK),noPv R = true → ∀ (r : DenR R) (b : Nat),∀ k ∈ (resR b R r).2,k.novB = true := by
 intro R
 induction R with
 | un => intro _ r b k hk; cases hk
 | t T => intro h r b; exact resT_nov T h r b
 | pv T => intro h; cases h
 | pr a c iha ihc =>
  intro h x b k hk
  simp only [noPv,Bool.and_eq_true] at h
  rcases List.mem_append.1 hk with hk | hk
  ·exact iha h.1 _ _ k hk
  ·exact ihc h.2 _ _ k hk
def isDat : TB → Bool
 | .arr _ o _ => o
 | .box cs => cs.all fun c => match c with
  | .v A _ => !A.ag
  | _ => false
 | _ => false
theorem tcls_dat : ∀ (T : Ty) (x : Den T),(tcls T x).all (fun c => match c with
  | .v A _ => !A.ag
  | _ => false) = true := by
 intro T
 induction T with
 | i | bl | tx | sl | sv => intro x; rfl
 | ar n k =>
  intro x
  rw [List.all_eq_true]
  intro c hc
  simp only [tcls,List.mem_map] at hc
  obtain ⟨i,_,rfl⟩ := hc
  rfl
 | st t ih => intro x; exact ih x
 | pr a b iha ihb => intro x; simp only [tcls,List.all_append,iha,ihb]; rfl
theorem resR_dat : ∀ (R : RK) (r : DenR R) (b : Nat),∀ k ∈ (resR b R r).2,isDat k = true := by
 intro R
 induction R with
 | un => intro r b k hk; cases hk
 | t T =>
  intro r b k hk
  have := resT_arr T r b k hk
  cases k <;> first | exact this | cases this
 | pv T => intro r b k hk; simp only [resR,List.mem_singleton] at hk; subst hk; exact tcls_dat T r
 | pr a c iha ihc =>
  intro x b k hk
  rcases List.mem_append.1 hk with h | h
  ·exact iha _ _ k h
  ·exact ihc _ _ k h
mutual
theorem av_shf {hp hp' : THP} {b : Nat} (h : ∀ j,hpk hp' (j + b) = hpk hp j) : ∀ x : TV,av hp' (shf b x) = ren (· + b) (av hp x)
 | .any => rfl
 | .v T x => by simp only [shf,av]; rw [ren_ci _ _ (ci_enc T x)]
 | .c _ => rfl
 | .nil => rfl
 | .emp => rfl
 | .ag cs => by simp only [shf,av,ren]; rw [avL_shf h cs]
 | .tp cs => by simp only [shf,av,ren]; rw [avL_shf h cs]
 | .own j => by
  simp only [shf,av,h]
  generalize hpk hp j = q
  cases q with
  | none => rfl
  | some q => cases q <;> rfl
 | .sub j o l => by
  simp only [shf,av,h]
  generalize hpk hp j = q
  cases q with
  | none => rfl
  | some q => cases q <;> rfl
 | .ptr j r o => by
  simp only [shf,av,h]
  generalize hpk hp j = q
  cases q with
  | none => rfl
  | some q => cases q <;> rfl
 | .ipv T x o => by
  simp only [shf,av]
  rw [ren_ci _ _ (by
   simp only [ci,ciL_all]
   have := ciL_cls T x
   rw [ciL_all] at this
   rw [List.all_eq_true] at this ⊢
   exact fun c hc => this c (List.mem_of_mem_drop hc))]
 | .ipt cs => by simp only [shf,av,ren]; rw [avL_shf h cs]
 | .fn f cs => by simp only [shf,av,ren]; rw [avL_shf h cs]
theorem avL_shf {hp hp' : THP} {b : Nat} (h : ∀ j,hpk hp' (j + b) = hpk hp j) : ∀ xs : List TV,avL hp' (shfL b xs) = renL (· + b) (avL hp xs)
 | [] => rfl
 | x :: xs => by simp only [shfL,avL,renL]; rw [av_shf h x,avL_shf h xs]
end
theorem ren_mkr (f : Nat → Nat) (ag : Bool) (l : List AV) : ren f (mkr ag l) = mkr ag (renL f l) := by
 unfold mkr
 split
 ·rfl
 ·cases l <;> rfl
theorem ren_cls (f : Nat → Nat) (o : Bool) : ∀ (T : Ty) (x : Den T),renL f (cls o T x) = cls o T x := by
 intro T
 induction T with
 | i | bl | tx => intro x; rfl
 | sl t ih =>
  intro x
  simp only [cls,renL,ren]
  rw [renL_map,List.map_map]
  congr 2
  refine List.map_congr_left fun y _ => ?_
  simp only [Function.comp,ren_mkr,ih y]
 | sv t _ => intro x; exact renL_ci f _ (ciL_cls (.sv t) x)
 | ar n k => intro x; exact renL_ci f _ (ciL_cls (.ar n k) x)
 | pr a b iha ihb => intro x; simp only [cls]; rw [renL_map,List.map_append,← renL_map,← renL_map,iha,ihb]
 | st t ih => intro x; exact ih x
theorem ren_rows (f : Nat → Nat) (o : Bool) (T : Ty) (L : List (Den T)) : renL f (L.map (enc o T)) = L.map (enc o T) := by
 rw [renL_map,List.map_map]
 refine List.map_congr_left fun y _ => ?_
 simp only [Function.comp,enc,ren_mkr,ren_cls]
theorem fresh_cls : ∀ (T : Ty),T.nov = true → ∀ (x : Den T),freshL (cls true T x) = true := by
 intro T
 induction T with
 | i | bl | tx => intro _ x; rfl
 | sv => intro h; cases h
 | ar n k =>
  intro _ x
  rw [freshL_all,List.all_eq_true]
  intro c hc
  simp only [cls,arC,List.mem_map] at hc
  obtain ⟨i,_,rfl⟩ := hc
  rfl
 | sl t ih =>
  intro h x
  simp only [cls,freshL,fresh,Bool.true_or,Bool.true_and,Bool.and_true]
  rw [freshL_all,List.all_eq_true]
  intro c hc
  obtain ⟨y,_,rfl⟩ := List.mem_map.1 hc
  have := ih h y
  unfold mkr
  split
  ·exact this
  ·generalize cls true t y = l at this
   cases l with
   | nil => rfl
   | cons c l => simp only [freshL,Bool.and_eq_true] at this; exact this.1
 | pr a b iha ihb =>
  intro h x
  simp only [Ty.nov,Bool.and_eq_true] at h
  simp only [cls]; rw [freshL_all,List.all_append,← freshL_all,← freshL_all,iha h.1,ihb h.2]; rfl
 | st t ih => intro h x; exact ih h x
theorem fresh_enc (T : Ty) (hv : T.nov = true) (x : Den T) : fresh (enc true T x) = true := by
 have := fresh_cls T hv x
 unfold enc mkr
 split
 ·exact this
 ·generalize cls true T x = l at this
  cases l with
  | nil => rfl
  | cons c l => simp only [freshL,Bool.and_eq_true] at this; exact this.1
theorem fresh_flat {T : Ty} (h : T.flat = true) (hv : T.nov = true) (x : Den T) : fresh (enc false T x) = true := by
 have := fresh_enc T hv x
 unfold enc at this ⊢
 rw [← cls_flat h]; exact this
section
variable {hp : THP}
theorem fresh_rsC : ∀ (T : Ty),T.nov = true → ∀ (x : Den T) (b : Nat),∀ c ∈ (rsC b T x).1,fresh (av hp c) = true := by
 intro T
 induction T with
 | i | bl | tx => intro _ x b c hc; simp only [rsC,List.mem_singleton] at hc; subst hc; rfl
 | ar n k =>
  intro _ x b c hc
  simp only [rsC,tcls,List.mem_map] at hc
  obtain ⟨i,_,rfl⟩ := hc
  rfl
 | sv => intro h; cases h
 | sl t _ =>
  intro _ x b c hc
  simp only [rsC,List.mem_singleton] at hc
  subst hc
  simp only [av]
  split <;> rfl
 | st t ih => intro h x b; exact ih h x b
 | pr a d iha ihd =>
  intro h x b c hc
  simp only [Ty.nov,Bool.and_eq_true] at h
  rcases List.mem_append.1 hc with hc | hc
  ·exact iha h.1 _ _ c hc
  ·exact ihd h.2 _ _ c hc
theorem fresh_agL {cs : List TV} (h : ∀ c ∈ cs,fresh (av hp c) = true) : freshL (avL hp cs) = true := by
 rw [freshL_all,avL_map,List.all_map,List.all_eq_true]
 exact fun c hc => h c hc
theorem fresh_resT (T : Ty) (hv : T.nov = true) (x : Den T) (b : Nat) : fresh (av hp (resT b T x).1) = true := by
 have h := fresh_rsC (hp := hp) T hv x b
 unfold resT
 cases hf : T.flat with
 | true => show fresh (av hp (nrmT T x)) = true; rw [av_nrm]; exact fresh_flat hf hv x
 | false =>
  simp only [cond_false]
  cases T.ag with
  | true => exact fresh_agL h
  | false =>
   simp only [cond_false]
   generalize (rsC b T x).1 = l at h
   cases l with
   | nil => rfl
   | cons c l => exact h c (by simp)
theorem fresh_resR : ∀ (R : RK),noPv R = true → ∀ (r : DenR R) (b : Nat),∀ c ∈ (resR b R r).1,fresh (av hp c) = true := by
 intro R
 induction R with
 | un => intro _ r b c hc; cases hc
 | t T => intro h r b c hc; simp only [resR,List.mem_singleton] at hc; subst hc; exact fresh_resT T h r b
 | pv T => intro h; cases h
 | pr a d iha ihd =>
  intro h x b c hc
  simp only [noPv,Bool.and_eq_true] at h
  rcases List.mem_append.1 hc with hc | hc
  ·exact iha h.1 _ _ c hc
  ·exact ihd h.2 _ _ c hc
theorem fresh_tup {xs : List TV} (h : ∀ c ∈ xs,fresh (av hp c) = true) : fresh (av hp (tupT xs)) = true := by
 match xs,h with
 | [],_ => rfl
 | [x],h => exact h x (by simp)
 | x :: y :: xs,h => exact fresh_agL h
end
theorem fresh_resA (R : RK) (hp : noPv R = true) (r : DenR R) : fresh (resA R r) = true := fresh_tup (fresh_resR R hp r 0)
theorem fresh_resH (R : RK) (hp : noPv R = true) (r : DenR R) : freshH (resH R r) = true := by
 unfold freshH resH toHP resB
 rw [List.map_map,List.all_map,List.all_eq_true]
 intro b hb
 have := resR_arr R hp r 0 b hb
 have hv := resR_nov R hp r 0 b hb
 cases b with
 | arr T o L =>
  simp only [isArrT] at this
  subst this
  show freshL (L.map (enc true T)) = true
  rw [freshL_all,List.all_map,List.all_eq_true]
  exact fun y _ => fresh_enc T hv y
 | _ => cases this
section
variable {n : Nat} {t : TS}
theorem StLe.newL {bs : List TB} (hb : ∀ b ∈ bs,isArrT b = true) : StLe { toAS n t with hp := toHP t.hp ++ impA t.hp.length (toHP (bs.map some)) } (toAS n (t.new bs)) := by
 have hl : ∀ j,Nat.blt j t.hp.length = true → hpk (t.new bs).hp j = hpk t.hp j := fun j hj => by
  rw [Nat.blt_eq] at hj
  rw [← hpk_flt (fun i => Nat.blt i t.hp.length) t.hp j]
  unfold hpk TS.new
  rw [List.getElem?_append_left (by rw [fltH_len]; exact hj)]
 refine ⟨by rw [toAS_len,toAS_len],fun i => ?_,?_,fun i x hx => ?_⟩
 ·show Im ((toAS n t).sl.getD i .any) _
  rw [toAS_get,toAS_get,TS.new,get_flt n t _ _ (fun i => Nat.blt i t.hp.length) rfl]
  exact av_flt hl _
 ·show (toHP (t.new bs).hp).length = (toHP t.hp ++ impA t.hp.length (toHP (bs.map some))).length
  simp [toHP_len,TS.new,fltH_len,impA_length]
 ·show ∃ y,(toHP (t.new bs).hp)[i]? = some y ∧ _
  replace hx : (toHP t.hp ++ impA t.hp.length (toHP (bs.map some)))[i]? = some x := hx
  rw [toHP_get]
  rcases Nat.lt_or_ge i t.hp.length with hi | hi
  ·rw [List.getElem?_append_left (by rw [toHP_len]; exact hi),toHP_get] at hx
   have e : (t.new bs).hp[i]? = (t.hp[i]?).map (Option.map (TB.flt fun i => Nat.blt i t.hp.length)) := by
    unfold TS.new
    rw [List.getElem?_append_left (by rw [fltH_len]; exact hi),fltH_get]
   rw [e]
   cases hb : t.hp[i]? with
   | none => rw [hb] at hx; cases hx
   | some c =>
    rw [hb] at hx
    simp only [Option.map_some,Option.some.injEq] at hx
    subst hx
    refine ⟨_,rfl,?_⟩
    cases c with
    | none => trivial
    | some c => exact tb_flt hl c
  ·rw [List.getElem?_append_right (by rw [toHP_len]; exact hi),toHP_len] at hx
   have e : (t.new bs).hp[i]? = (bs.map some)[i - t.hp.length]? := by
    unfold TS.new
    rw [List.getElem?_append_right (by rw [fltH_len]; exact hi),fltH_len]
   rw [e]
   unfold impA at hx
   rw [List.getElem?_map,toHP_get] at hx
   rw [List.getElem?_map] at hx ⊢
   cases hb' : bs[i - t.hp.length]? with
   | none => rw [hb'] at hx; cases hx
   | some b =>
    rw [hb'] at hx
    simp only [Option.map_some,Option.some.injEq] at hx
    subst hx
    refine ⟨_,rfl,?_⟩
    have := hb b (List.mem_of_getElem? hb')
    cases b with
    | arr T o L =>
     show RowLe { tb (bs.map some) (.arr T o L) with rows := renL _ (L.map (enc o T)),fz := 0 } (tb _ (.arr T o L))
     rw [ren_rows]
     exact RowLe.refl _
    | _ => cases this
theorem hpk_new {bs : List TB} (j : Nat) : hpk (t.new bs).hp (j + t.hp.length) = hpk (bs.map some) j := by
 unfold hpk TS.new
 rw [List.getElem?_append_right (by rw [fltH_len]; omega),fltH_len,Nat.add_sub_cancel]
theorem AC.args {P : Program} {f : FuncId} {args args' : List AV} {hp0 : HP} {Post : AV → HP → Prop} (h : AC P f args' hp0 Post) (hi : All2 Im args args') : AC P f args hp0 Post :=
 ⟨h.1,fun w N M L vs he hr => h.2 w N M L vs he (Im.all2 hi hr)⟩
end
end Go.Proofs.Ytkmhopbmpeiofaa.Nx
namespace Go.Proofs.Ytkmhopbmpeiofaa.Nx
open Go Go.RowKit
inductive SR (hp : THP) : Nat → List TV → List TV → List (Option Nat) → List TB → Prop
 | nil (base : Nat) : SR hp base [] [] [] []
 | leaf {base : Nat} {c : TV} {cs cs' : List TV} {l : List (Option Nat)} {B : List TB} : (∃ A y,c = .v A y ∧ A.ag = false) → SR hp base cs cs' l B → SR hp base (c :: cs) (c :: cs') l B
 | own {base j : Nat} {A : Ty} {o : Bool} {L : List (Den A)} {cs cs' : List TV} {l : List (Option Nat)} {B : List TB} : hp[j]? = some (some (.arr A o L)) → (o || A.flat) = true → SR hp (base + 1) cs cs' l B →
   SR hp base (.own j :: cs) (.own base :: cs') (some j :: l) (.arr A true L :: B)
 | none {base : Nat} {A : Ty} {cs cs' : List TV} {l : List (Option Nat)} {B : List TB} : SR hp (base + 1) cs cs' l B → SR hp base (.nil :: cs) (.own base :: cs') (none :: l) (.arr A true [] :: B)
theorem SR.len {hp : THP} {base : Nat} {cs cs' : List TV} {l : List (Option Nat)} {B : List TB} (h : SR hp base cs cs' l B) : B.length = l.length ∧ cs'.length = cs.length := by
 induction h with
 | nil => exact ⟨rfl,rfl⟩
 | leaf _ _ ih => exact ⟨ih.1,by simp [ih.2]⟩
 | own _ _ _ ih => exact ⟨by simp [ih.1],by simp [ih.2]⟩
 | none _ ih => exact ⟨by simp [ih.1],by simp [ih.2]⟩
theorem SR.append {hp : THP} {base : Nat} {cs cs' : List TV} {l : List (Option Nat)} {B : List TB} (h : SR hp base cs cs' l B) {ds ds' : List TV} {m : List (Option Nat)} {D : List TB} : SR hp (base + B.length) ds ds' m D →
  SR hp base (cs ++ ds) (cs' ++ ds') (l ++ m) (B ++ D) := by
 induction h with
 | nil => intro k; simpa using k
 | leaf h1 _ ih => intro k; exact .leaf h1 (ih k)
 | own h1 h2 _ ih => intro k; exact .own h1 h2 (ih (by simpa [Nat.add_assoc,Nat.add_comm 1] using k))
 | none _ ih => intro k; exact .none (ih (by simpa [Nat.add_assoc,Nat.add_comm 1] using k))
theorem srcC_spec (hp : THP) : ∀ (T : Ty) (cs : List TV) (x : Den T) (l : List (Option Nat)) (r : List TV),srcC hp T cs = some (x,l,r) → ∃ c1,cs = c1 ++ r ∧ ∀ base,SR hp base c1 (rsC base T x).1 l (rsC base T x).2 := by
 intro T
 induction T with
 | ar n k =>
  intro cs y l r h
  cases cs with
  | nil => cases h
  | cons c cs => cases h
 | i k =>
  intro cs y l r h
  cases cs with
  | nil => cases h
  | cons c cs =>
   simp only [srcC] at h
   split at h
   ·split at h
    ·rename_i hz
     cases h
     obtain ⟨rfl,hz⟩ := cst_some hz
     cases hz
     exact ⟨[_],rfl,fun base => .leaf ⟨_,_,rfl,rfl⟩ (.nil _)⟩
    ·cases h
   ·cases h
 | bl =>
  intro cs y l r h
  cases cs with
  | nil => cases h
  | cons c cs =>
   simp only [srcC] at h
   split at h
   ·split at h
    ·rename_i hz
     cases h
     obtain ⟨rfl,hz⟩ := cst_some hz
     cases hz
     exact ⟨[_],rfl,fun base => .leaf ⟨_,_,rfl,rfl⟩ (.nil _)⟩
    ·cases h
   ·cases h
 | tx =>
  intro cs y l r h
  cases cs with
  | nil => cases h
  | cons c cs =>
   simp only [srcC] at h
   split at h
   ·split at h
    ·rename_i hz
     cases h
     obtain ⟨rfl,hz⟩ := cst_some hz
     cases hz
     exact ⟨[_],rfl,fun base => .leaf ⟨_,_,rfl,rfl⟩ (.nil _)⟩
    ·cases h
   ·cases h
 | sv t _ =>
  intro cs y l r h
  cases cs with
  | nil => cases h
  | cons c cs =>
   simp only [srcC] at h
   split at h
   ·split at h
    ·rename_i hz
     cases h
     obtain ⟨rfl,hz⟩ := cst_some hz
     cases hz
     exact ⟨[_],rfl,fun base => .leaf ⟨_,_,rfl,rfl⟩ (.nil _)⟩
    ·cases h
   ·cases h
 | sl t _ =>
  intro cs y l r h
  cases cs with
  | nil => cases h
  | cons c cs =>
   simp only [srcC] at h
   split at h
   ·split at h
    ·rename_i A o Lx e
     cases ho : (o || A.flat) with
     | false => rw [ho] at h; cases h
     | true =>
      rw [ho,cond_true] at h
      split at h
      ·rename_i hz
       cases h
       obtain ⟨e1,hz⟩ := cst_some hz
       cases e1
       cases hz
       exact ⟨[_],rfl,fun base => .own e ho (.nil _)⟩
      ·cases h
    ·cases h
   ·cases h
    exact ⟨[_],rfl,fun base => .none (.nil _)⟩
   ·cases h
 | pr a b iha ihb =>
  intro cs y l r h
  simp only [srcC] at h
  split at h
  ·rename_i h1
   split at h
   ·rename_i h2
    cases h
    obtain ⟨c1,rfl,k1⟩ := iha _ _ _ _ h1
    obtain ⟨c2,rfl,k2⟩ := ihb _ _ _ _ h2
    exact ⟨c1 ++ c2,by simp,fun base => (k1 base).append (k2 _)⟩
   ·cases h
  ·cases h
 | st t ih =>
  intro cs y l r h
  exact ih cs y l r h
def vcn (sz : Nat) : Cn := { b := 0,o := 0,sz := sz,len := 0,fr := 0,virt := true }
theorem SR.at_ {hp : THP} {base : Nat} {cs cs' : List TV} {l : List (Option Nat)} {B : List TB} (h : SR hp base cs cs' l B) : ∀ i,i < l.length → ∃ (A : Ty) (X : List (Den A)),B[i]? = some (.arr A true X) ∧ ∀ j,l[i]? = some (some j) → ∃ (o : Bool) (Z : List (Den A)),hp[j]? = some (some (.arr A o Z)) ∧ Z.length = X.length := by
 induction h with
 | nil => intro i hi; simp at hi
 | leaf _ _ ih => exact ih
 | own h1 h2 _ ih =>
  intro i hi
  cases i with
  | zero => exact ⟨_,_,rfl,fun j e => by simp only [List.getElem?_cons_zero,Option.some.injEq] at e; subst e; exact ⟨_,_,h1,rfl⟩⟩
  | succ i =>
   obtain ⟨A,X,k1,k2⟩ := ih i (by simpa using hi)
   exact ⟨A,X,by simpa using k1,fun j e => k2 j (by simpa using e)⟩
 | none _ ih =>
  intro i hi
  cases i with
  | zero => exact ⟨_,_,rfl,fun j e => by simp at e⟩
  | succ i =>
   obtain ⟨A,X,k1,k2⟩ := ih i (by simpa using hi)
   exact ⟨A,X,by simpa using k1,fun j e => k2 j (by simpa using e)⟩
theorem rsC_nsl : ∀ (T : Ty) (x : Den T) (base : Nat),(rsC base T x).2.length = T.nsl
 | .i _,_,_ => rfl
 | .bl,_,_ => rfl
 | .tx,_,_ => rfl
 | .sv _,_,_ => rfl
 | .ar _ _,_,_ => rfl
 | .sl _,_,_ => rfl
 | .st t,x,base => rsC_nsl t x base
 | .pr a b,x,base => by simp [rsC,Ty.nsl,rsC_nsl a,rsC_nsl b]
theorem blkL_nsl : ∀ (T : Ty) (y : DenL T),(blkL T y).length = T.nsl
 | .i _,_ => rfl
 | .bl,_ => rfl
 | .tx,_ => rfl
 | .sv _,_ => rfl
 | .ar _ _,_ => rfl
 | .sl _,_ => rfl
 | .st t,y => blkL_nsl t y
 | .pr a b,y => by simp [blkL,Ty.nsl,blkL_nsl a,blkL_nsl b]
theorem blkL_at : ∀ (T : Ty) (x : Den T) (y : DenL T) (base : Nat),lenL T x y = true → ∀ (i : Nat) (A : Ty) (X : List (Den A)),(rsC base T x).2[i]? = some (.arr A true X) → ∃ Y : List (Den A),(blkL T y)[i]? = some (.arr A true Y) ∧ Y.length = X.length := by
 intro T
 induction T with
 | i | bl | tx | sv | ar => intro x y base _ i A X h; simp [rsC] at h
 | sl t _ =>
  intro x y base hl i A X h
  cases i with
  | zero =>
   simp only [rsC,List.getElem?_cons_zero,Option.some.injEq] at h
   cases h
   exact ⟨y,rfl,by simp only [lenL,Nat.beq_eq] at hl; exact hl.symm⟩
  | succ i => simp [rsC] at h
 | st t ih => exact fun x y base hl i A X h => ih x y base hl i A X h
 | pr a b iha ihb =>
  intro x y base hl i A X h
  simp only [lenL,Bool.and_eq_true] at hl
  simp only [rsC] at h
  simp only [blkL]
  have e1 := rsC_nsl a x.1 base
  have e2 := blkL_nsl a y.1
  rcases Nat.lt_or_ge i a.nsl with hi | hi
  ·rw [List.getElem?_append_left (by omega)] at h ⊢
   exact iha x.1 y.1 base hl.1 i A X h
  ·rw [List.getElem?_append_right (by omega)] at h ⊢
   rw [e1] at h
   rw [e2]
   exact ihb x.2 y.2 _ hl.2 _ A X h
structure At (M M' : MT) (ℓ ℓ' : Nat → List (Nat × Nat)) (hpT : THP) (base : Nat) (l : List (Option Nat)) (B : List TB) : Prop where
 hp : ∀ i b,B[i]? = some b → hpT[base + i]? = some (some b)
 so : ∀ i j,l[i]? = some (some j) → M' (base + i) = M j ∧ ℓ' (base + i) = ℓ j
 no : ∀ i b,l[i]? = some none → B[i]? = some b → M' (base + i) = some (some (vcn (tb hpT b).sz)) ∧ ℓ' (base + i) = []
theorem At.left {M M' : MT} {ℓ ℓ' : Nat → List (Nat × Nat)} {hpT : THP} {base : Nat} {l m : List (Option Nat)} {B D : List TB} (h : At M M' ℓ ℓ' hpT base (l ++ m) (B ++ D)) (hl : B.length = l.length) : At M M' ℓ ℓ' hpT base l B := by
 refine ⟨fun i b e => h.hp i b ?_,fun i j e => h.so i j ?_,fun i b e e' => h.no i b ?_ ?_⟩
 ·rw [List.getElem?_append_left (List.getElem?_eq_some_iff.1 e).1]; exact e
 ·rw [List.getElem?_append_left (List.getElem?_eq_some_iff.1 e).1]; exact e
 ·rw [List.getElem?_append_left (List.getElem?_eq_some_iff.1 e).1]; exact e
 ·rw [List.getElem?_append_left (List.getElem?_eq_some_iff.1 e').1]; exact e'
theorem At.right {M M' : MT} {ℓ ℓ' : Nat → List (Nat × Nat)} {hpT : THP} {base : Nat} {l m : List (Option Nat)} {B D : List TB} (h : At M M' ℓ ℓ' hpT base (l ++ m) (B ++ D)) (hl : B.length = l.length) : At M M' ℓ ℓ' hpT (base + B.length) m D := by
 refine ⟨fun i b e => ?_,fun i j e => ?_,fun i b e e' => ?_⟩
 ·rw [Nat.add_assoc]
  exact h.hp (B.length + i) b (by rw [List.getElem?_append_right (by omega),Nat.add_sub_cancel_left]; exact e)
 ·rw [Nat.add_assoc]
  exact h.so (B.length + i) j (by rw [hl,List.getElem?_append_right (by omega),Nat.add_sub_cancel_left]; exact e)
 ·rw [Nat.add_assoc]
  exact h.no (B.length + i) b (by rw [hl,List.getElem?_append_right (by omega),Nat.add_sub_cancel_left]; exact e) (by rw [List.getElem?_append_right (by omega),Nat.add_sub_cancel_left]; exact e')
theorem low_mkr {n : Nat} {ag : Bool} {l : List AV} (h : lowL n l = true) : (mkr ag l).low n = true := by
 unfold mkr
 split
 ·exact h
 ·cases l with
  | nil => rfl
  | cons c l => simp only [lowL,Bool.and_eq_true] at h; exact h.1
theorem low_clsA (n : Nat) : ∀ (T : Ty) (o : Bool) (x : Den T),lowL n (cls o T x) = true := by
 intro T
 induction T with
 | i | bl | tx => intro o x; rfl
 | ar m k =>
  intro o x
  rw [lowL_all,List.all_eq_true]
  intro c hc
  simp only [cls,arC,List.mem_map] at hc
  obtain ⟨i,_,rfl⟩ := hc
  rfl
 | sl t ih | sv t ih =>
  intro o x
  simp only [cls,lowL,AV.low,Bool.and_true]
  rw [lowL_all,List.all_eq_true]
  intro c hc
  obtain ⟨y,_,rfl⟩ := List.mem_map.1 hc
  exact low_mkr (ih _ y)
 | pr a b iha ihb => intro o x; simp only [cls]; rw [lowL_append,iha,ihb]; rfl
 | st t ih => intro o x; exact ih o x
theorem low_cls (n : Nat) (o : Bool) (T : Ty) (x : Den T) : lowL n (cls o T x) = true := low_clsA n T o x
theorem low_rows (n : Nat) (o : Bool) (T : Ty) (L : List (Den T)) : lowL n ((L.map (enc o T)).flatMap AV.cells) = true := by
 rw [lowL_flat,lowL_all,List.all_map,List.all_eq_true]
 exact fun y _ => low_mkr (low_cls n o T y)
section
variable {w : World} {N N' : NT} {M M' : MT} {ℓ ℓ' : Nat → List (Nat × Nat)} {hp hpT : THP}
theorem RepC.data (hN : ∀ b o,N b o → N' b o) {xs : List AV} {b o : Nat} {K : List Nat} (hl : lowL 0 xs = true) (r : RepC w N M b o xs K) : RepC w N' M' b o xs K := by
 have r1 := r.lowM (M' := M') (n := 0) (fun j hj => by omega) hl
 exact r1.gr ⟨fun _ c _ _ h => ⟨c,h,rfl⟩,fun _ _ _ => rfl,hN,fun _ x h => ⟨x,h,fun m hm => ⟨m,hm,.inl rfl⟩⟩⟩ (fun _ _ => rfl) (fun _ _ _ => rfl)
theorem Rep.dataV (hN : ∀ b o,N b o → N' b o) {x : AV} {v : Value} {K : List Nat} (hl : x.low 0 = true) (r : Rep w N M x v K) : Rep w N' M' x v K := by
 have r1 := r.lowM (M' := M') (n := 0) (fun j hj => by omega) hl
 exact r1.gr ⟨fun _ c _ _ h => ⟨c,h,rfl⟩,fun _ _ _ => rfl,hN,fun _ x h => ⟨x,h,fun m hm => ⟨m,hm,.inl rfl⟩⟩⟩ (fun _ _ _ => rfl)
theorem rep_own {j i : Nat} {A : Ty} {o : Bool} {L : List (Den A)} (h1 : hp[j]? = some (some (.arr A o L))) (h2 : hpT[i]? = some (some (.arr A true L))) (hM : M' i = M j) {v : Value}
  (r : Rep w N M (av hp (.own j)) v []) : Rep w N' M' (av hpT (.own i)) v [] := by
 rw [av_own (hpk_arr h1)] at r
 rw [av_own (hpk_arr h2)]
 cases r with
 | ref mm h3 h4 => exact .ref mm (by rw [hM]; exact h3) h4
theorem rep_none {i : Nat} {A : Ty} {sz : Nat} (h2 : hpT[i]? = some (some (.arr A true []))) (hM : M' i = some (some (vcn sz))) {v : Value} (r : Rep w N M (av hp .nil) v []) : Rep w N' M' (av hpT (.own i)) v [] := by
 rw [av_own (hpk_arr h2)]
 cases r
 exact .ref _ hM fun m hm => by
  cases hm
  exact ⟨Nat.le_refl _,fun _ => ⟨Nat.le_refl _,.inl ⟨rfl,rfl⟩⟩⟩
theorem SR.cells (hN : ∀ b o,N b o → N' b o) {base : Nat} {cs cs' : List TV} {l : List (Option Nat)} {B : List TB} (h : SR hp base cs cs' l B) : At M M' ℓ ℓ' hpT base l B → ∀ {vs : List Value},RepL w N M (cs.map (av hp)) vs [] → RepL w N' M' (cs'.map (av hpT)) vs [] := by
 induction h with
 | nil => intro _ vs r; cases r; exact .nil
 | leaf h1 _ ih =>
  intro hA vs r
  generalize hK : ([] : List Nat) = K at r
  cases r with
  | cons hx ht =>
   obtain ⟨rfl,rfl⟩ := List.append_eq_nil_iff.1 hK.symm
   refine .cons (L1 := []) (L2 := []) ?_ (ih hA ht)
   obtain ⟨A,y,rfl,hag⟩ := h1
   exact Rep.dataV hN (x := enc false A y) (low_mkr (low_cls 0 false A y)) hx
 | own h1 h2 _ ih =>
  intro hA vs r
  generalize hK : ([] : List Nat) = K at r
  cases r with
  | cons hx ht =>
   obtain ⟨rfl,rfl⟩ := List.append_eq_nil_iff.1 hK.symm
   have hA' := At.right (l := [_]) (B := [_]) hA rfl
   refine .cons (L1 := []) (L2 := []) ?_ (ih hA' ht)
   have e1 := hA.hp 0 _ rfl
   have e2 := (hA.so 0 _ rfl).1
   exact rep_own h1 (by simpa using e1) (by simpa using e2) hx
 | none _ ih =>
  intro hA vs r
  generalize hK : ([] : List Nat) = K at r
  cases r with
  | cons hx ht =>
   obtain ⟨rfl,rfl⟩ := List.append_eq_nil_iff.1 hK.symm
   have hA' := At.right (l := [_]) (B := [_]) hA rfl
   refine .cons (L1 := []) (L2 := []) ?_ (ih hA' ht)
   have e1 := hA.hp 0 _ rfl
   have e2 := (hA.no 0 _ rfl rfl).1
   exact rep_none (by simpa using e1) (by simpa using e2) hx
theorem SR.c1 {base : Nat} {cs cs' : List TV} {l : List (Option Nat)} {B : List TB} (h : SR hp base cs cs' l B) : At M M' ℓ ℓ' hpT base l B → (∀ c ∈ cs,c.c1 hp = true) ∧ ∀ c ∈ cs',c.c1 hpT = true := by
 induction h with
 | nil => intro _; exact ⟨fun _ h => (by cases h),fun _ h => by cases h⟩
 | leaf h1 _ ih =>
  intro hA
  obtain ⟨A,y,rfl,hag⟩ := h1
  have hl : ∀ hp,(TV.v A y).c1 hp = true := fun hp => by cases A <;> first | rfl | cases hag
  obtain ⟨k1,k2⟩ := ih hA
  refine ⟨fun c hc => ?_,fun c hc => ?_⟩ <;> rcases List.mem_cons.1 hc with rfl | hc
  ·exact hl _
  ·exact k1 c hc
  ·exact hl _
  ·exact k2 c hc
 | own h1 h2 _ ih =>
  intro hA
  obtain ⟨k1,k2⟩ := ih (At.right (l := [_]) (B := [_]) hA rfl)
  have e1 := hA.hp 0 _ rfl
  rw [Nat.add_zero] at e1
  refine ⟨fun c hc => ?_,fun c hc => ?_⟩ <;> rcases List.mem_cons.1 hc with rfl | hc
  ·simp [TV.c1,isArr,hpk_arr h1]
  ·exact k1 c hc
  ·simp [TV.c1,isArr,hpk_arr e1]
  ·exact k2 c hc
 | none _ ih =>
  intro hA
  obtain ⟨k1,k2⟩ := ih (At.right (l := [_]) (B := [_]) hA rfl)
  have e1 := hA.hp 0 _ rfl
  rw [Nat.add_zero] at e1
  refine ⟨fun c hc => ?_,fun c hc => ?_⟩ <;> rcases List.mem_cons.1 hc with rfl | hc
  ·rfl
  ·exact k1 c hc
  ·simp [TV.c1,isArr,hpk_arr e1]
  ·exact k2 c hc
theorem hb_own (hN : ∀ b o,N b o → N' b o) (hH : ∀ (i : Nat) (x : Option Blk),(toHP hp)[i]? = some x → HB w N M i x (ℓ i)) {j i : Nat} {A : Ty} {o : Bool} {L : List (Den A)} (h1 : hp[j]? = some (some (.arr A o L))) (h2 : (o || A.flat) = true)
  (hM : M' i = M j) (hl : ℓ' i = ℓ j) : HB w N' M' i (some (tb hpT (.arr A true L))) (ℓ' i) := by
 obtain ⟨m,L1,q1,q2,q3⟩ := hH j _ (by rw [toHP_get,h1]; rfl)
 have e : tb hp (.arr A o L) = tb hpT (.arr A true L) := by
  simp only [tb]
  congr 1
  refine List.map_congr_left fun y _ => ?_
  unfold enc
  cases o with
  | true => rfl
  | false => rw [cls_flat (by simpa using h2)]
 rw [e] at q2
 refine ⟨m,L1,by rw [hM]; exact q1,⟨q2.len,q2.sz,q2.fr,q2.cl,q2.rep.data hN (low_rows 0 true A L),q2.vt,q2.rm,q2.lo,fun i hi => hN _ _ (q2.fz i hi),q2.f0⟩,by rw [hl]; exact q3⟩
theorem hb_none {i : Nat} {A : Ty} (hM : M' i = some (some (vcn (tb hpT (.arr A true [])).sz))) (hl : ℓ' i = []) : HB w N' M' i (some (tb hpT (.arr A true []))) (ℓ' i) := by
 refine ⟨_,[],hM,⟨rfl,rfl,Nat.zero_le _,fun y hy => (by cases hy),.nil _ _,fun _ => rfl,(fun e => by cases e),Nat.le_refl _,fun i hi => by simp [tb] at hi,fun _ => rfl⟩,?_⟩
 rw [hl]; rfl
theorem rep_own' {j i l : Nat} (h1 : hpk hp j = some (some l)) (h2 : hpk hpT i = some (some l)) (hM : M' i = M j) {v : Value}
  (r : Rep w N M (av hp (.own j)) v []) : Rep w N' M' (av hpT (.own i)) v [] := by
 rw [av_own h1] at r
 rw [av_own h2]
 cases r with
 | ref mm h3 h4 => exact .ref mm (by rw [hM]; exact h3) h4
theorem rep_none' {i : Nat} {sz : Nat} (h2 : hpk hpT i = some (some 0)) (hM : M' i = some (some (vcn sz))) {v : Value} (r : Rep w N M (av hp .nil) v []) : Rep w N' M' (av hpT (.own i)) v [] := by
 rw [av_own h2]
 cases r
 exact .ref _ hM fun m hm => by
  cases hm
  exact ⟨Nat.le_refl _,fun _ => ⟨Nat.le_refl _,.inl ⟨rfl,rfl⟩⟩⟩
theorem hb_log (hN : ∀ b o,N b o → N' b o) (hH : ∀ (i : Nat) (x : Option Blk),(toHP hp)[i]? = some x → HB w N M i x (ℓ i)) {j i : Nat} {A : Ty} {L : List (Den A)} {k : TB} (h1 : hp[j]? = some (some k)) (e : tb hp k = tb hpT (.log A L))
  (hM : M' i = M j) (hl : ℓ' i = ℓ j) : HB w N' M' i (some (tb hpT (.log A L))) (ℓ' i) := by
 obtain ⟨m,L1,q1,q2,q3⟩ := hH j _ (by rw [toHP_get,h1]; rfl)
 rw [e] at q2
 exact ⟨m,L1,by rw [hM]; exact q1,⟨q2.len,q2.sz,q2.fr,q2.cl,q2.rep.data hN (low_rows 0 false A L),q2.vt,q2.rm,q2.lo,fun i hi => hN _ _ (q2.fz i hi),q2.f0⟩,by rw [hl]; exact q3⟩
theorem SR.blocks (hN : ∀ b o,N b o → N' b o) (hH : ∀ (i : Nat) (x : Option Blk),(toHP hp)[i]? = some x → HB w N M i x (ℓ i)) {base : Nat} {cs cs' : List TV} {l : List (Option Nat)} {B : List TB} (h : SR hp base cs cs' l B) :
  At M M' ℓ ℓ' hpT base l B → ∀ i b,B[i]? = some b → HB w N' M' (base + i) (some (tb hpT b)) (ℓ' (base + i)) := by
 induction h with
 | nil => intro _ i b h; simp at h
 | leaf _ _ ih => exact ih
 | own h1 h2 _ ih =>
  intro hA i b hb
  cases i with
  | zero =>
   simp only [List.getElem?_cons_zero,Option.some.injEq] at hb
   subst hb
   obtain ⟨e1,e2⟩ := hA.so 0 _ rfl
   exact hb_own hN hH h1 h2 e1 e2
  | succ i =>
   have := ih (At.right (l := [_]) (B := [_]) hA rfl) i b (by simpa using hb)
   rw [Nat.add_assoc,Nat.add_comm 1 i] at this; exact this
 | none _ ih =>
  intro hA i b hb
  cases i with
  | zero =>
   simp only [List.getElem?_cons_zero,Option.some.injEq] at hb
   subst hb
   obtain ⟨e1,e2⟩ := hA.no 0 _ rfl rfl
   exact hb_none e1 e2
  | succ i =>
   have := ih (At.right (l := [_]) (B := [_]) hA rfl) i b (by simpa using hb)
   rw [Nat.add_assoc,Nat.add_comm 1 i] at this; exact this
theorem cavs {cs : List TV} (h : ∀ c ∈ cs,c.c1 hp = true) : cs.map (cav hp) = cs.map (av hp) :=
 List.map_congr_left fun c hc => by unfold cav; rw [h c hc]; rfl
theorem hb_box (hN : ∀ b o,N b o → N' b o) (hH : ∀ (i : Nat) (x : Option Blk),(toHP hp)[i]? = some x → HB w N M i x (ℓ i)) {base : Nat} {cs cs' : List TV} {l : List (Option Nat)} {B : List TB} (h : SR hp base cs cs' l B) (hA : At M M' ℓ ℓ' hpT base l B)
  {j i : Nat} (h1 : hp[j]? = some (some (.box cs))) (hM : M' i = M j) (hl : ℓ' i = ℓ j) : HB w N' M' i (some (tb hpT (.box cs'))) (ℓ' i) := by
 obtain ⟨m,L1,q1,q2,q3⟩ := hH j _ (by rw [toHP_get,h1]; rfl)
 obtain ⟨c1,c2⟩ := h.c1 hA
 have hcl := h.len.2
 have r := q2.rep
 simp only [tb,List.flatMap_cons,List.flatMap_nil,List.append_nil,AV.cells,cavs c1] at r
 have : L1 = [] := r.bare fun x hx => by
  obtain ⟨c,hc,rfl⟩ := List.mem_map.1 hx
  exact c1_bare (c1 c hc)
 subst this
 obtain ⟨vs,v1,v2,v3⟩ := r.values
 have r' := RepC.of_values (o := m.o) (b := m.b) (h.cells (N' := N') hN hA v1) fun i hi => by
  rw [v2] at hi
  exact v3 i hi
 refine ⟨m,[],by rw [hM]; exact q1,⟨q2.len,by rw [q2.sz]; simp [tb,hcl],by simp [tb,hcl]; have := q2.fr; simpa [tb] using this,?_,?_,fun e => ?_,?_,q2.lo,fun i hi => by simp [tb] at hi,fun _ => q2.f0 rfl⟩,by rw [hl]; exact q3⟩
 ·intro y hy
  simp only [tb,List.mem_singleton] at hy
  subst hy; simp [tb,AV.cells]
 ·simp only [tb,List.flatMap_cons,List.flatMap_nil,List.append_nil,AV.cells,cavs c2]
  exact r'
 ·have := q2.vt e
  simp [tb] at this
 ·exact q2.rm
theorem asCls_c1 (hp : THP) : ∀ (T : Ty) (cs : List TV) (y : Den T) (r : List TV),asCls T cs = some (y,r) → ∃ c1,cs = c1 ++ r ∧ ∀ c ∈ c1,c.c1 hp = true := by
 intro T
 induction T with
 | ar n k =>
  intro cs y r h
  cases cs with
  | nil => cases h
  | cons c cs => cases h
 | i k =>
  intro cs y r h
  cases cs with
  | nil => cases h
  | cons c cs =>
   simp only [asCls] at h
   split at h
   ·split at h
    ·rename_i z hz
     cases h
     obtain ⟨rfl,hz⟩ := cst_some hz
     exact ⟨[_],rfl,fun c hc => by simp only [List.mem_singleton] at hc; subst hc; rfl⟩
    ·cases h
   ·cases h
 | bl =>
  intro cs y r h
  cases cs with
  | nil => cases h
  | cons c cs =>
   simp only [asCls] at h
   split at h
   ·split at h
    ·rename_i z hz
     cases h
     obtain ⟨rfl,hz⟩ := cst_some hz
     exact ⟨[_],rfl,fun c hc => by simp only [List.mem_singleton] at hc; subst hc; rfl⟩
    ·cases h
   ·cases h
 | tx =>
  intro cs y r h
  cases cs with
  | nil => cases h
  | cons c cs =>
   simp only [asCls] at h
   split at h
   ·split at h
    ·rename_i z hz
     cases h
     obtain ⟨rfl,hz⟩ := cst_some hz
     exact ⟨[_],rfl,fun c hc => by simp only [List.mem_singleton] at hc; subst hc; rfl⟩
    ·cases h
   ·cases h
 | sv t _ =>
  intro cs y r h
  cases cs with
  | nil => cases h
  | cons c cs =>
   simp only [asCls] at h
   split at h
   ·split at h
    ·rename_i z hz
     cases h
     obtain ⟨rfl,hz⟩ := cst_some hz
     exact ⟨[_],rfl,fun c hc => by simp only [List.mem_singleton] at hc; subst hc; rfl⟩
    ·cases h
   ·cases h
    exact ⟨[_],rfl,fun c hc => by simp only [List.mem_singleton] at hc; subst hc; rfl⟩
   ·cases h
 | sl t _ =>
  intro cs y r h
  cases cs with
  | nil => cases h
  | cons c cs =>
   simp only [asCls] at h
   split at h
   ·split at h
    ·rename_i z hz
     cases h
     obtain ⟨rfl,hz⟩ := cst_some hz
     exact ⟨[_],rfl,fun c hc => by simp only [List.mem_singleton] at hc; subst hc; rfl⟩
    ·cases h
   ·cases h
    exact ⟨[_],rfl,fun c hc => by simp only [List.mem_singleton] at hc; subst hc; rfl⟩
   ·cases h
 | st t ih => intro cs y r h; exact ih cs y r h
 | pr a b iha ihb =>
  intro cs y r h
  simp only [asCls] at h
  split at h
  ·rename_i h1
   split at h
   ·rename_i h2
    cases h
    obtain ⟨c1,rfl,k1⟩ := iha _ _ _ h1
    obtain ⟨c2,rfl,k2⟩ := ihb _ _ _ h2
    refine ⟨c1 ++ c2,by simp,fun c hc => ?_⟩
    rcases List.mem_append.1 hc with hc | hc
    ·exact k1 c hc
    ·exact k2 c hc
   ·cases h
  ·cases h
theorem tcls_c1 (hp : THP) : ∀ (T : Ty) (x : Den T),∀ c ∈ tcls T x,c.c1 hp = true := by
 intro T
 induction T with
 | i | bl | tx | sl | sv => intro x c hc; simp only [tcls,List.mem_singleton] at hc; subst hc; rfl
 | ar n k =>
  intro x c hc
  simp only [tcls,List.mem_map] at hc
  obtain ⟨i,_,rfl⟩ := hc
  rfl
 | st t ih => intro x; exact ih x
 | pr a b iha ihb =>
  intro x c hc
  rcases List.mem_append.1 hc with hc | hc
  ·exact iha _ c hc
  ·exact ihb _ c hc
theorem tcls_cav (hp : THP) (T : Ty) (x : Den T) : (tcls T x).map (cav hp) = cls false T x := by
 rw [← av_tcls hp T x]
 exact List.map_congr_left fun c hc => by unfold cav; rw [tcls_c1 hp T x c hc]; rfl
theorem shfL_tcls (b : Nat) : ∀ (T : Ty) (x : Den T),shfL b (tcls T x) = tcls T x := by
 intro T
 induction T with
 | i | bl | tx | sl | sv => intro x; rfl
 | ar n k =>
  intro x
  simp only [tcls,shfL_map,List.map_map]
  exact List.map_congr_left fun i _ => rfl
 | st t ih => intro x; exact ih x
 | pr a c iha ihc => intro x; simp only [tcls,shfL_append,iha,ihc]
theorem hb_bv (hN : ∀ b o,N b o → N' b o) (hH : ∀ (i : Nat) (x : Option Blk),(toHP hp)[i]? = some x → HB w N M i x (ℓ i)) {T : Ty} {x : Den T} {cs : List TV} (hz : asCls T cs = some (x,[]))
  {j i : Nat} (h1 : hp[j]? = some (some (.box cs))) (hM : M' i = M j) (hl : ℓ' i = ℓ j) : HB w N' M' i (some (tb hpT (.box (tcls T x)))) (ℓ' i) := by
 obtain ⟨m,L1,q1,q2,q3⟩ := hH j _ (by rw [toHP_get,h1]; rfl)
 obtain ⟨c1,ec,hc⟩ := asCls_c1 hp T cs x [] hz
 obtain ⟨c2,ec2,hi,_⟩ := asCls_spec hp T cs x [] hz
 rw [List.append_nil] at ec ec2
 subst ec
 subst ec2
 have r := q2.rep
 simp only [tb,List.flatMap_cons,List.flatMap_nil,List.append_nil,AV.cells,cavs hc] at r
 have : L1 = [] := r.bare fun x hx => by
  obtain ⟨c,hcc,rfl⟩ := List.mem_map.1 hx
  exact c1_bare (hc c hcc)
 subst this
 have r' := (Im.cells hi r).data (N' := N') (M' := M') hN (low_cls 0 false T x)
 have hlen : (tcls T x).length = cs.length := by rw [tcls_len,← cls_len false T x,← hi.length_eq,List.length_map]
 refine ⟨m,[],by rw [hM]; exact q1,⟨q2.len,by rw [q2.sz]; simp [tb,hlen],by simp [tb,hlen]; have := q2.fr; simpa [tb] using this,?_,?_,fun e => ?_,?_,q2.lo,fun i hi => by simp [tb] at hi,fun _ => q2.f0 rfl⟩,by rw [hl]; exact q3⟩
 ·intro y hy
  simp only [tb,List.mem_singleton] at hy
  subst hy; simp [tb,AV.cells]
 ·simp only [tb,List.flatMap_cons,List.flatMap_nil,List.append_nil,AV.cells,tcls_cav]
  exact r'
 ·have := q2.vt e
  simp [tb] at this
 ·exact q2.rm
theorem BR.dat {h h' : THP} {k : TB} {m : Cn} {L : List Nat} {n : Nat} (hd : isDat k = true) (r : BR w N M (tb h k) m L) : tb h k = tb h' k ∧ BR w N M' (tb h' k) m L := by
 have e : tb h k = tb h' k := by
  cases k with
  | arr T o L => rfl
  | box cs =>
   simp only [tb]
   congr 3
   refine List.map_congr_left fun c hc => ?_
   simp only [isDat,List.all_eq_true] at hd
   have := hd c hc
   cases c with
   | v A x => cases A <;> rfl
   | _ => cases this
  | rws => cases hd
  | hol => cases hd
  | tld => cases hd
  | log => cases hd
  | ara => cases hd
 refine ⟨e,?_⟩
 rw [← e]
 refine ⟨r.len,r.sz,r.fr,r.cl,?_,r.vt,r.rm,r.lo,r.fz,r.f0⟩
 refine r.rep.lowM (n := 0) (fun j hj => by omega) ?_
 cases k with
 | arr T o L => exact low_rows 0 o T L
 | box cs =>
  simp only [tb,List.flatMap_cons,List.flatMap_nil,List.append_nil,AV.cells]
  rw [lowL_all,List.all_map,List.all_eq_true]
  intro c hc
  simp only [isDat,List.all_eq_true] at hd
  have := hd c hc
  cases c with
  | v A x =>
   simp only [Function.comp,cav]
   cases (TV.v A x).c1 h
   ·rfl
   ·exact low_mkr (low_cls 0 false A x)
  | _ => cases this
 | rws => cases hd
 | hol => cases hd
 | tld => cases hd
 | log => cases hd
 | ara => cases hd
end
end Go.Proofs.Ytkmhopbmpeiofaa.Nx
