/- Calls that write into what is lent: sound, with no condition beyond those each lemma names. -/
import Derived.Test.YtcmlapepofgkpaaNxn
set_option linter.unusedVariables false
set_option linter.unusedSimpArgs false
namespace Go.Proofs.Ytcmlapepofgkpaa.Nx
open Go Go.RowKit

def nums : Nat → List AV → List (Nat × AV)
  | _, [] => []
  | k, x :: xs => (k, x) :: nums (k + 1) xs

theorem lk_nums {n : Nat} : ∀ {args : List AV} {k t : Nat}, k + args.length ≤ n → lk n t (nums k args) = if k ≤ t then args.getD (t - k) .any else .any
  | [], k, t, _ => by simp [nums, lk]
  | x :: xs, k, t, h => by
    simp only [List.length_cons] at h
    simp only [nums, lk]
    split
    · rename_i e
      subst e
      rw [if_pos (by omega), if_pos (by omega)]; simp
    · rename_i e
      rw [lk_nums (by omega)]
      by_cases h1 : k + 1 ≤ t
      · rw [if_pos h1, if_pos (by omega), show t - k = (t - (k + 1)) + 1 from by omega]; simp
      · rw [if_neg h1, if_neg (by omega)]

theorem ext_getD {xs ys : List AV} (hl : xs.length = ys.length) (h : ∀ i, xs.getD i .any = ys.getD i .any) : xs = ys := by
  apply List.ext_getElem hl
  intro i h1 h2
  have := h i
  simpa [List.getD_eq_getElem?_getD, h1, h2] using this

theorem E_args {n : Nat} {args : List AV} {hp : HP} (h : args.length ≤ n) : (⟨args ++ List.replicate (n - args.length) .any, hp⟩ : AS) = E n hp (nums 0 args) := by
  unfold E
  congr 1
  refine ext_getD (by rw [E_len]; simp; omega) fun i => ?_
  rw [E_get, lk_nums (by omega)]
  simp only [Nat.zero_le, if_true, Nat.sub_zero]
  rw [List.getD_eq_getElem?_getD, List.getD_eq_getElem?_getD]
  rcases Nat.lt_or_ge i args.length with hi | hi
  · rw [List.getElem?_append_left hi]
  · rw [List.getElem?_append_right hi, List.getElem?_eq_none hi, List.getElem?_replicate]
    split <;> rfl


theorem nums_map (hp : THP) : ∀ (k : Nat) (xs : List TV), nums k (xs.map (av hp)) = (numT k xs).map fun p => (p.1, av hp p.2)
  | _, [] => rfl
  | k, x :: xs => by simp only [List.map_cons, nums, numT, nums_map hp (k + 1) xs]

section
variable {n : Nat} {t : TS}

theorem toAS_args (hp : THP) (xs : List TV) : (toAS xs.length ⟨numT 0 xs, hp⟩).sl = xs.map (av hp) := by
  have h : (xs.map (av hp)).length ≤ xs.length := by simp
  have := E_args (n := xs.length) (args := xs.map (av hp)) (hp := toHP hp) h
  unfold toAS
  show (E xs.length (toHP hp) ((numT 0 xs).map fun p => (p.1, av hp p.2))).sl = _
  rw [← nums_map, ← this]
  simp

/-- Rows of data in another place. -/
theorem BR.data {w : World} {N N' : NT} {M M' : MT} {h h' : THP} {B : Ty} {Y : List (Den B)} {m : Cn} {L : List Nat} (r : BR w N M (tb h (.arr B true Y)) m L) : BR w N' M' (tb h' (.arr B true Y)) m L := by
  have hf : freshL ((Y.map (enc true B)).flatMap AV.cells) = true := freshL_flat (by
    rw [freshL_all, List.all_map, List.all_eq_true]
    exact fun y _ => fresh_enc B y)
  refine ⟨r.len, r.sz, r.fr, r.cl, ?_, r.vt, r.rm, r.lo, fun i hi => by simp [tb] at hi, r.f0⟩
  have r1 := r.rep.freshN (N' := N') hf
  exact r1.lowM (M' := M') (n := 0) (fun j hj => by omega) (low_rows 0 true B Y)

theorem xcallM_sound {P : Program} {S : Bool} {Ω : Type} {r : Ω} {Γ : List CX} (hΓ : ∀ cx ∈ Γ, CXok P cx) (hS : ∀ cm, CX.m cm ∈ Γ → S = true) {f : FuncId} {xs : List TV} {d : Option Nat} {k : TS → Option Ω} (h : xcallM Γ t f xs d k = some r) :
    CallW P S (toAS n t) f (xs.map (av t.hp)) d (Kt k r n) := by
  have pick : ∀ {Γ : List CX} {f : FuncId} {cm : CM}, pickM Γ f = some cm → CX.m cm ∈ Γ ∧ cm.f = f := by
    intro Γ
    induction Γ with
    | nil => intro f cm h; cases h
    | cons c Γ ih =>
      intro f cm h
      cases c with
      | c ct => exact ⟨List.mem_cons_of_mem _ (ih h).1, (ih h).2⟩
      | m c =>
        simp only [pickM] at h
        cases hb : Nat.beq c.f f with
        | true => rw [hb, cond_true] at h; cases h; exact ⟨by simp, by simpa using hb⟩
        | false => rw [hb, cond_false] at h; exact ⟨List.mem_cons_of_mem _ (ih h).1, (ih h).2⟩
  unfold xcallM at h
  split at h
  case h_2 => cases h
  rename_i cm hp
  obtain ⟨h1, rfl⟩ := pick hp
  cases hb : (Nat.beq xs.length (slotsS cm.s).length && onlyO cm.s) with
  | false => rw [hb] at h; cases h
  | true =>
    rw [hb, cond_true] at h
    simp only [Bool.and_eq_true, Nat.beq_eq] at hb
    obtain ⟨hlen, hO⟩ := hb
    split at h
    case h_2 => cases h
    rename_i x hm
    obtain ⟨⟨ρ, y⟩, hF, hk⟩ := Option.bind_eq_some_iff.1 h
    obtain ⟨hlw, hgood, hcall⟩ := (show CMok P cm from hΓ _ h1) x (ρ, y) hF
    refine .m (hS _ h1) hgood fun C act w N M L vs hcd hr => ?_
    obtain ⟨ℓ, hD⟩ := hcd.fn
    let tA : TS := ⟨numT 0 xs, t.hp⟩
    let X' : List Nat := ((List.range t.hp.length).flatMap ℓ).map Prod.fst
    let C' : Ctx := ⟨w, X', N, fun _ => none⟩
    have hhp : (toAS xs.length tA).hp = (toAS n t).hp := by rw [toAS_hp, toAS_hp]
    have hlh : (toAS n t).hp.length = t.hp.length := by rw [toAS_hp, toHP_len]
    have hA : ConcF C' (toAS xs.length tA) { tmps := ⟨vs⟩, defers := [] } w N M ℓ := by
      refine ⟨rfl, ?_, fun i z hz => hD.hp i z (by rw [← hhp]; exact hz), fun i hi => hD.nd i (by rw [← hhp]; exact hi), fun i j hi hj => hD.dj i j (by rw [← hhp]; exact hi) (by rw [← hhp]; exact hj), fun i hi p hp => ?_, hD.nlt, fun _ _ h => h, fun _ _ h => .inl h, FrN.refl _ _ _, fun k hk => hD.un k (by rw [← hhp]; exact hk), fun _ _ _ _ h0 => (by cases h0), fun _ _ => rfl⟩
      · rw [toAS_args]; exact hr
      · rw [hhp] at hi
        obtain ⟨o1, o2, o3⟩ := hD.own i hi p hp
        exact ⟨o1, .inr (List.mem_map_of_mem (List.mem_flatMap.2 ⟨i, List.mem_range.2 (by rw [← hlh]; exact hi), hp⟩)), o3⟩
    obtain ⟨N1, M1, ℓ1, hE, hK, hN, hnd, hlt, hul, t', hcan⟩ := mask_full (C := C') (q := 0) (fun _ _ => rfl) rfl hm hA
    have hE' := hE.d
    have hpl : (toAS xs.length (mkS cm.s x)).hp.length = (ust 0 cm.s x).2.length := by rw [toAS_hp, toHP_len]; simp [mkS]
    obtain ⟨hbl, hat⟩ := keepO cm.s x y 0 hO hcan hlw
    have env : Env w N1 M1 (toHP ((ust 0 cm.s x).2.map some)) _ := ⟨by have := hE'.hp; rw [toAS_hp] at this; exact this, hE'.nd, fun p hp => ⟨(hE'.own p hp).1, (hE'.own p hp).2.2⟩, hE'.nlt, fun k hk => hE'.un k (by rw [toAS_hp]; exact hk)⟩
    refine (hcall w N1 M1 _ vs env (by rw [← hlen]; exact hE.sl)).mono fun e w' ⟨v, e1, N2, M2, L2, b⟩ => ⟨v, e1, ?_⟩
    -- what the callee leaves
    have hF2 : ∃ ℓ2, ConcF ⟨w', L2.map Prod.fst, N2, fun _ => none⟩ ⟨[], toHP (resBM cm.R ρ cm.s y)⟩ { tmps := #[], defers := [] } w' N2 M2 ℓ2 ∧ ∀ i, ∀ p ∈ ℓ2 i, i < (toHP (resBM cm.R ρ cm.s y)).length → p ∈ L2 := by
      have hd : ConcD ⟨w', L2.map Prod.fst, N2, fun _ => none⟩ ⟨[], toHP (resBM cm.R ρ cm.s y)⟩ { tmps := #[], defers := [] } w' N2 M2 L2 :=
        ⟨rfl, .nil, b.env.hr, b.env.nd, fun p hp => ⟨(b.env.own p hp).1, .inr (List.mem_map_of_mem hp), (b.env.own p hp).2⟩, b.env.nlt, fun _ _ h => h, fun _ _ h => .inl h, FrN.refl _ _ _, b.env.un, fun _ _ _ _ h0 => (by cases h0), fun _ _ => rfl⟩
      obtain ⟨ℓ2, e, hl⟩ := hd.hp.fn
      have hmem : ∀ i, ∀ p ∈ ℓ2 i, i < (toHP (resBM cm.R ρ cm.s y)).length → p ∈ L2 := fun i p hp hi => by rw [e]; exact List.mem_flatMap.2 ⟨i, List.mem_range.2 hi, hp⟩
      subst e
      have hnd' := hd.nd
      rw [List.map_flatMap] at hnd'
      obtain ⟨n1, n2⟩ := List.pairwise_flatMap.1 hnd'
      refine ⟨ℓ2, ⟨hd.df, hd.sl, fun i x hx => by have := hl i x hx; rwa [Nat.zero_add] at this, fun i hi => n1 i (List.mem_range.2 hi), ?_, fun i hi p hp => hd.own p (hmem i p hp hi), hd.nlt, hd.nup, hd.ndn, hd.fr, hd.un, hd.mv, hd.mz⟩, hmem⟩
      have key : ∀ i j, i < j → j < (toHP (resBM cm.R ρ cm.s y)).length → ∀ p ∈ ℓ2 i, ∀ q ∈ ℓ2 j, p.1 ≠ q.1 := by
        intro i j hij hj p hp q hq e
        have n2 := List.pairwise_iff_getElem.1 n2 i j (by simp; omega) (by simp; omega) hij
        simp only [List.getElem_range] at n2
        exact n2 p.1 (List.mem_map_of_mem hp) q.1 (List.mem_map_of_mem hq) e
      intro i j hi hj hne p hp q hq
      rcases Nat.lt_or_gt_of_ne hne with h | h
      · exact key i j h hj p hp q hq
      · exact fun e => key j i h hi q hq p hp e.symm
    obtain ⟨ℓ2, hF2, hmem2⟩ := hF2
    obtain ⟨kat, kun, kfrom⟩ := hK
    let n0 := t.hp.length
    let np := (resR 0 cm.R ρ).2.length
    let l := keep xs.length tA cm.s
    let B' := blkW cm.s y
    let tp : TS := { t with hp := putM t.hp l B' }
    let resB' := (resR 0 cm.R ρ).2
    let idx : Nat → Option Nat := fun k => (List.range l.length).find? fun i => decide (l[i]? = some (some k))
    have idx_some : ∀ (k i : Nat), idx k = some i → l[i]? = some (some k) := fun k i e => by simpa using List.find?_some e
    have idx_none : ∀ k, idx k = none → ∀ i : Nat, l[i]? ≠ some (some k) := fun k e i hi => by
      have := List.find?_eq_none.1 e i (List.mem_range.2 (List.getElem?_eq_some_iff.1 hi).1)
      simp [hi] at this
    let M3 : MT := fun k => if k < n0 then M k else if k < n0 + np then M2 (k - n0) else none
    let ℓ3 : Nat → List (Nat × Nat) := fun k => if k < n0 then (match idx k with | some i => ℓ2 (np + i) | none => ℓ k) else ℓ2 (k - n0)
    have hn0 : tp.hp.length = n0 := putM_len _ _ _
    have hhpT : (toHP (resBM cm.R ρ cm.s y)).length = np + B'.length := by rw [toHP_len]; simp [resBM, np, B']
    have hbl' : B'.length = l.length := hbl
    have hllt : ∀ (i k : Nat), l[i]? = some (some k) → k < n0 := fun i k e => hlt k (somes_mem.2 (List.mem_of_getElem? e))
    -- blocks that were lent
    have hlent : ∀ (i k : Nat), l[i]? = some (some k) → ∃ (A B : Ty) (X : List (Den A)) (Y : List (Den B)) (o : Bool) (Z : List (Den A)), (ust 0 cm.s x).2[i]? = some (.arr A true X) ∧ B'[i]? = some (.arr B true Y) ∧ Y.length = X.length ∧ t.hp[k]? = some (some (.arr A o Z)) ∧ Z.length = X.length := fun i k e => by
      obtain ⟨A, B, X, Y, a1, a2, _, a4, a5⟩ := hat i (List.getElem?_eq_some_iff.1 e).1
      obtain ⟨o, Z, a6, a7⟩ := a5 k e
      exact ⟨A, B, X, Y, o, Z, a1, a2, a4, a6, a7⟩
    have hput : ∀ (i k : Nat) (b : TB), l[i]? = some (some k) → B'[i]? = some b → tp.hp[k]? = some (some b) := fun i k b e e' => putM_at l B' t.hp hnd (fun j hj => hlt j hj) i k b e e'
    have hoth : ∀ k, idx k = none → tp.hp[k]? = t.hp[k]? := fun k e => putM_other l B' t.hp k (idx_none k e)
    have hhpk : ∀ j, hpk tp.hp j = hpk t.hp j := fun j => by
      unfold hpk
      cases hi : idx j with
      | none => rw [hoth j hi]
      | some i =>
        obtain ⟨A, B, X, Y, o, Z, a1, a2, a3, a4, a5⟩ := hlent i j (idx_some j i hi)
        rw [hput i j _ (idx_some j i hi) a2, a4]
        simp only [TB.rlen, a3, a5]
    have hL1 : ∀ z ∈ (List.range (toAS xs.length (mkS cm.s x)).hp.length).flatMap ℓ1, ∃ i j, l[i]? = some (some j) ∧ z ∈ ℓ j := fun z hz => by
      obtain ⟨i, _, hz⟩ := List.mem_flatMap.1 hz
      obtain ⟨j, e, h⟩ := kfrom i z hz
      exact ⟨i, j, e, h⟩
    have hMlt : ∀ j z, M j = some z → j < n0 := fun j z e => by
      rcases Nat.lt_or_ge j n0 with h | h
      · exact h
      · rw [hD.un j (by rw [hlh]; exact h)] at e; cases e
    have g : Gr w w' N N M M3 := ⟨b.fr.shp, fun i o hn => b.fr.nc i o (hN i o hn), fun _ _ hn => hn, fun j z hj => ⟨z, by simp only [M3, hMlt j z hj, if_true, hj], fun m hm => ⟨m, hm, .inl rfl⟩⟩⟩
    have hold : ∀ k, k < n0 → idx k = none → ∀ p ∈ ℓ k, p.1 < w.heap.size ∧ p.1 ∉ ((List.range (toAS xs.length (mkS cm.s x)).hp.length).flatMap ℓ1).map Prod.fst := fun k hk hi p hp => by
      refine ⟨(hD.own k (by rw [hlh]; exact hk) p hp).1, fun hm => ?_⟩
      obtain ⟨z, hz, e⟩ := List.mem_map.1 hm
      obtain ⟨i, j, e', h⟩ := hL1 z hz
      have hne : k ≠ j := fun ee => idx_none k hi i (by rw [ee]; exact e')
      exact hD.dj k j (by rw [hlh]; exact hk) (by rw [hlh]; exact hllt i j e') hne p hp z h e.symm
    have hsame : ∀ k, k < n0 → idx k = none → ∀ p ∈ ℓ k, Same w w' p.1 := fun k hk hi p hp => by
      obtain ⟨q1, q2⟩ := hold k hk hi p hp
      exact b.fr.same q1 q2
    have hM3n : ∀ i, i < np → M3 (n0 + i) = M2 i := fun i hi => by
      have h1 : ¬ n0 + i < n0 := by omega
      have h2 : n0 + i < n0 + np := by omega
      simp only [M3, h1, if_false, h2, if_true, Nat.add_sub_cancel_left]
    have hresl : ∀ (i : Nat) (b' : TB), resB'[i]? = some b' → (toHP (resBM cm.R ρ cm.s y))[i]? = some (some (tb (resBM cm.R ρ cm.s y) b')) := fun i b' e => by
      rw [toHP_get]
      unfold resBM
      rw [List.getElem?_map, List.getElem?_append_left (List.getElem?_eq_some_iff.1 e).1, e]
      rfl
    have hmovl : ∀ (i : Nat) (b' : TB), B'[i]? = some b' → (toHP (resBM cm.R ρ cm.s y))[np + i]? = some (some (tb (resBM cm.R ρ cm.s y) b')) := fun i b' e => by
      rw [toHP_get]
      unfold resBM
      rw [List.getElem?_map, List.getElem?_append_right (by simp [np]), show np + i - (resR 0 cm.R ρ).2.length = i from by simp [np], e]
      rfl
    -- where a block's own cells come from
    have hcase : ∀ k, k < n0 + np → (k < n0 ∧ idx k = none ∧ ℓ3 k = ℓ k) ∨ ∃ i, i < (toHP (resBM cm.R ρ cm.s y)).length ∧ ℓ3 k = ℓ2 i ∧ ((k < n0 ∧ ∃ q, idx k = some q ∧ i = np + q) ∨ (n0 ≤ k ∧ i = k - n0)) := fun k hk => by
      rcases Nat.lt_or_ge k n0 with h | h
      · cases hi : idx k with
        | none => exact .inl ⟨h, rfl, by simp only [ℓ3, h, if_true, hi]⟩
        | some q =>
          have := (List.getElem?_eq_some_iff.1 (idx_some k q hi)).1
          exact .inr ⟨np + q, by rw [hhpT]; omega, by simp only [ℓ3, h, if_true, hi], .inl ⟨h, q, rfl, rfl⟩⟩
      · have h' : ¬ k < n0 := by omega
        exact .inr ⟨k - n0, by rw [hhpT]; omega, by simp only [ℓ3, h', if_false], .inr ⟨h, rfl⟩⟩
    have hs'len : ({ toAS n tp with hp := toHP tp.hp ++ impA n0 (toHP (resB'.map some)) } : AS).hp.length = n0 + np := by
      show (toHP tp.hp ++ impA n0 (toHP (resB'.map some))).length = _
      rw [List.length_append, toHP_len, impA_length, toHP_len, hn0, List.length_map]
    have main : ConcF C { toAS n tp with hp := toHP tp.hp ++ impA n0 (toHP (resB'.map some)) } act w' N M3 ℓ3 := by
      refine ⟨hD.df, ?_, fun i z hz => ?_, fun i hi => ?_, fun i j hi hj hne p hp q hq => ?_, fun i hi p hp => ?_, fun i o hn => Nat.lt_of_lt_of_le (hD.nlt i o hn) b.fr.size, hD.nup, hD.ndn, ?_, fun k hk => ?_, fun k m m0 h1 h0 => ?_, fun k hk => hD.mz k ?_⟩
      · have : (toAS n tp).sl = (toAS n t).sl := by
          unfold toAS
          show (E n _ (t.u.map fun p => (p.1, av tp.hp p.2))).sl = (E n _ (t.u.map fun p => (p.1, av t.hp p.2))).sl
          rw [show (fun p : Nat × TV => (p.1, av tp.hp p.2)) = fun p => (p.1, av t.hp p.2) from funext fun p => by rw [av_congr hhpk]]
          rfl
        show RepL w' N M3 (toAS n tp).sl _ []
        rw [this]
        exact hD.sl.gr g (fun _ hb => by cases hb)
      · replace hz : (toHP tp.hp ++ impA n0 (toHP (resB'.map some)))[i]? = some z := hz
        rcases Nat.lt_or_ge i n0 with hi | hi
        · rw [List.getElem?_append_left (by rw [toHP_len, hn0]; exact hi), toHP_get] at hz
          have hM3 : M3 i = M i := by simp only [M3, hi, if_true]
          cases hx : idx i with
          | none =>
            have hl3 : ℓ3 i = ℓ i := by simp only [ℓ3, hi, if_true, hx]
            rw [hoth i hx] at hz
            have h0 := hD.hp i z (by
              rw [toAS_hp, toHP_get]
              rw [show tb t.hp = tb tp.hp from funext fun b => (tb_congr hhpk b).symm]
              exact hz)
            rw [hl3]
            cases z with
            | none => exact ⟨by rw [hM3]; exact h0.1, h0.2⟩
            | some z =>
              obtain ⟨m, K, e1, e2, e3⟩ := h0
              exact ⟨m, K, by rw [hM3]; exact e1, e2.gr g (fun p hp => hsame i hi hx p (by rw [e3]; exact hp)), e3⟩
          | some q =>
            have hl3 : ℓ3 i = ℓ2 (np + q) := by simp only [ℓ3, hi, if_true, hx]
            have hq := idx_some i q hx
            obtain ⟨A, B, X, Y, o, Z, a1, a2, a3, a4, a5⟩ := hlent q i hq
            rw [hput q i _ hq a2] at hz
            simp only [Option.map_some, Option.some.injEq] at hz
            subst hz
            obtain ⟨m, K, e1, e2, e3⟩ := hF2.hp (np + q) _ (hmovl q _ a2)
            obtain ⟨m0, K0, f1, f2, _⟩ := hE.hp q (some (tb ((ust 0 cm.s x).2.map some) (.arr A true X))) (by rw [toAS_hp, toHP_get]; simp only [mkS, List.getElem?_map, a1, Option.map_some])
            have f3 := (kat.so q i hq).1
            rw [Nat.zero_add, f1] at f3
            obtain ⟨_, g2⟩ := b.mv q m m0 e1 f1
            have l1 := e2.len
            have l2 := f2.len
            simp only [tb, List.length_map] at l1 l2
            have := g2 (by omega)
            subst this
            rw [hl3]
            exact ⟨m, K, by rw [hM3]; exact f3.symm, e2.data, e3⟩
        · rw [List.getElem?_append_right (by rw [toHP_len, hn0]; exact hi), toHP_len, hn0] at hz
          have hi' : ¬ i < n0 := by omega
          unfold impA at hz
          rw [List.getElem?_map, toHP_get, List.getElem?_map] at hz
          cases hb' : resB'[i - n0]? with
          | none => rw [hb'] at hz; cases hz
          | some b' =>
            rw [hb'] at hz
            simp only [Option.map_some, Option.some.injEq] at hz
            subst hz
            have harr := resR_arr cm.R ρ 0 b' (List.mem_of_getElem? hb')
            have hlt2 : i - n0 < np := (List.getElem?_eq_some_iff.1 hb').1
            cases b' with
            | arr T o Y =>
              simp only [isArrT] at harr
              subst harr
              obtain ⟨m, K, e1, e2, e3⟩ := hF2.hp (i - n0) _ (hresl _ _ hb')
              have hl3 : ℓ3 i = ℓ2 (i - n0) := by simp only [ℓ3, hi', if_false]
              rw [hl3]
              have hM3 := hM3n (i - n0) hlt2
              rw [show n0 + (i - n0) = i from by omega] at hM3
              refine ⟨m, K, by rw [hM3]; exact e1, ?_, e3⟩
              have : ({ tb (resB'.map some) (.arr T true Y) with rows := renL (· + n0) (tb (resB'.map some) (.arr T true Y)).rows, fz := 0 } : Blk) = tb (resB'.map some) (.arr T true Y) := by
                simp only [tb, ren_rows]
              rw [this]
              exact e2.data
            | _ => cases harr
      · rw [hs'len] at hi
        rcases hcase i hi with ⟨q1, q2, q3⟩ | ⟨j, q1, q2, _⟩
        · rw [q3]; exact hD.nd i (by rw [hlh]; exact q1)
        · rw [q2]; exact hF2.nd j q1
      · rw [hs'len] at hi hj
        have mixed : ∀ k, k < n0 → idx k = none → ∀ j, j < (toHP (resBM cm.R ρ cm.s y)).length → ∀ p ∈ ℓ k, ∀ q ∈ ℓ2 j, p.1 ≠ q.1 := fun k hk hx j hj p hp q hq e => by
          obtain ⟨u1, u2⟩ := hold k hk hx p hp
          rcases b.new q (hmem2 j q hq hj) with h | h
          · omega
          · exact u2 (e ▸ h)
        rcases hcase i hi with ⟨u1, u2, u3⟩ | ⟨i', u1, u2, u3⟩
        · rcases hcase j hj with ⟨v1, v2, v3⟩ | ⟨j', v1, v2, v3⟩
          · rw [u3] at hp; rw [v3] at hq
            exact hD.dj i j (by rw [hlh]; exact u1) (by rw [hlh]; exact v1) hne p hp q hq
          · rw [u3] at hp; rw [v2] at hq
            exact mixed i u1 u2 j' v1 p hp q hq
        · rcases hcase j hj with ⟨v1, v2, v3⟩ | ⟨j', v1, v2, v3⟩
          · rw [u2] at hp; rw [v3] at hq
            exact fun e => mixed j v1 v2 i' u1 q hq p hp e.symm
          · rw [u2] at hp; rw [v2] at hq
            refine hF2.dj i' j' u1 v1 (fun e => ?_) p hp q hq
            subst e
            rcases u3 with ⟨w1, a, w2, w3⟩ | ⟨w1, w2⟩
            · rcases v3 with ⟨x1, a', x2, x3⟩ | ⟨x1, x2⟩
              · have : a = a' := by omega
                subst this
                have e1 := idx_some i a w2
                have e2 := idx_some j a x2
                rw [e1] at e2
                cases e2
                exact hne rfl
              · have := (List.getElem?_eq_some_iff.1 (idx_some i a w2)).1
                omega
            · rcases v3 with ⟨x1, a', x2, x3⟩ | ⟨x1, x2⟩
              · omega
              · omega
      · rw [hs'len] at hi
        rcases hcase i hi with ⟨q1, q2, q3⟩ | ⟨j, q1, q2, _⟩
        · rw [q3] at hp
          obtain ⟨o1, o2, o3⟩ := hD.own i (by rw [hlh]; exact q1) p hp
          exact ⟨Nat.lt_of_lt_of_le o1 b.fr.size, o2, o3⟩
        · rw [q2] at hp
          have hpL := hmem2 j p hp q1
          obtain ⟨o1, o3⟩ := b.env.own p hpL
          refine ⟨o1, ?_, fun o hn => o3 o (b.nup _ _ (hN _ _ hn))⟩
          rcases b.new p hpL with h | h
          · exact .inl (Nat.le_trans hD.fr.size h)
          · obtain ⟨z, hz, e⟩ := List.mem_map.1 h
            obtain ⟨i', j', e', hz'⟩ := hL1 z hz
            rw [← e]
            exact (hD.own j' (by rw [hlh]; exact hllt i' j' e') z hz').2.1
      · refine hD.fr.trans b.fr.toFr (fun y hy => ?_) (fun i o hn => b.fr.nc i o (hN i o (hD.nup i o hn)))
        obtain ⟨z, hz, rfl⟩ := List.mem_map.1 hy
        obtain ⟨i', j', e', hz'⟩ := hL1 z hz
        exact ((hD.own j' (by rw [hlh]; exact hllt i' j' e') z hz').2.1).symm
      · rw [hs'len] at hk
        have h1 : ¬ k < n0 := by omega
        have h2 : ¬ k < n0 + np := by omega
        simp only [M3, h1, h2, if_false]
      · rcases Nat.lt_or_ge k n0 with h | h
        · simp only [M3, h, if_true] at h1
          exact hD.mv k m m0 h1 h0
        · rw [hD.mz k (by rw [hlh]; exact h)] at h0; cases h0
      · rw [hs'len] at hk
        rw [hlh]; omega
    -- the answer
    obtain ⟨lo, ec⟩ := low_tup (h := resBM cm.R ρ cm.s y) (low_resR cm.R ρ 0 np (by simp [np]))
    have e1 : av (resBM cm.R ρ cm.s y) (tupT (resR 0 cm.R ρ).1) = resA cm.R ρ := ec (resB cm.R ρ) fun j hj => by
      unfold hpk resBM resB
      rw [List.getElem?_map, List.getElem?_map, List.getElem?_append_left hj]
    have rr := b.rep
    rw [e1] at rr lo
    have r2 := (rr.freshN (N' := N) (fresh_resA cm.R ρ)).lowM (M' := fun j => if j < np then M2 j else none) (n := np) (fun j hj z e => by simp only [hj, if_true]; exact e) lo
    have r3 := r2.ren (M := M3) (f := (· + n0)) (fun j z e => by
      by_cases hj : j < np
      · simp only [hj, if_true] at e
        show M3 (j + n0) = _
        rw [Nat.add_comm, hM3n j hj]; exact e
      · simp only [hj, if_false] at e; cases e)
    refine ⟨_, ?_, N, M3, _, main.d.put d r3⟩
    refine Kt.of hk ?_
    rw [toAS_put]
    obtain ⟨s1, s2⟩ := resR_shift cm.R ρ n0
    have hle := StLe.newL (n := n) (t := tp) (resR_arr cm.R ρ n0)
    rw [s2, hn0] at hle
    show StLe _ ((toAS n (tp.new (resR n0 cm.R ρ).2)).put d _)
    rw [s2]
    refine StLe.put hle d ?_
    rw [s1, tupT_shf, av_shf (hp := resB cm.R ρ)]
    · exact Im.refl _
    · intro j
      have := hpk_new (t := tp) (bs := (resR 0 cm.R ρ).2) j
      rw [hn0] at this
      exact this
end
end Go.Proofs.Ytcmlapepofgkpaa.Nx

namespace Go.Proofs.Ytcmlapepofgkpaa.Nx
open Go Go.RowKit

section
variable {n : Nat} {t : TS}
theorem pick_spec {hp : THP} : ∀ {Γ : List CX} {f : FuncId} {xs : List TV} {ct : CT} {a : DenP ct.p}, pick hp Γ f xs = some ⟨ct, a⟩ → CX.c ct ∈ Γ ∧ ct.f = f ∧ need ct.p ≤ 8 ∧ asPs hp ct.p xs = some (a, [])
  | [], _, _, _, _, h => by cases h
  | .m c :: Γ, f, xs, ct, a, h => by
    obtain ⟨h1, h2⟩ := pick_spec (Γ := Γ) h
    exact ⟨List.mem_cons_of_mem _ h1, h2⟩
  | .c c :: Γ, f, xs, ct, a, h => by
    simp only [pick] at h
    cases hb : (Nat.beq c.f f && Nat.ble (need c.p) 8) with
    | false =>
      rw [hb, cond_false] at h
      obtain ⟨h1, h2⟩ := pick_spec h
      exact ⟨List.mem_cons_of_mem _ h1, h2⟩
    | true =>
      rw [hb, cond_true] at h
      split at h
      · rename_i a' e
        simp only [Bool.and_eq_true, Nat.beq_eq] at hb
        cases h
        exact ⟨by simp, hb.1, Nat.le_of_ble_eq_true hb.2, e⟩
      · obtain ⟨h1, h2⟩ := pick_spec h
        exact ⟨List.mem_cons_of_mem _ h1, h2⟩

/-- Contracts that hold; where S is false, only of those that write nothing. -/
def ΓOk (P : Program) (S : Bool) (Γ : List CX) : Prop := (∀ cx ∈ Γ, CXok P cx) ∧ ∀ cm, CX.m cm ∈ Γ → S = true

theorem onlyC_mem : ∀ {Γ : List CX} {cx : CX}, cx ∈ onlyC Γ → cx ∈ Γ ∧ ∀ cm, cx ≠ .m cm
  | [], _, h => by cases h
  | .c ct :: Γ, cx, h => by
    simp only [onlyC, List.mem_cons] at h
    rcases h with rfl | h
    · exact ⟨by simp, fun cm e => by cases e⟩
    · exact ⟨List.mem_cons_of_mem _ (onlyC_mem h).1, (onlyC_mem h).2⟩
  | .m cm :: Γ, cx, h => by
    have := onlyC_mem (Γ := Γ) (cx := cx) h
    exact ⟨List.mem_cons_of_mem _ this.1, this.2⟩

theorem lows_ok {P : Program} {Γ : List CX} (h : ∀ cx ∈ Γ, CXok P cx) (S : Bool) : ΓOk P S (lows S Γ) := by
  cases S with
  | true => exact ⟨h, fun _ _ => rfl⟩
  | false => exact ⟨fun cx hc => h cx (onlyC_mem hc).1, fun cm hc => absurd rfl ((onlyC_mem hc).2 cm)⟩

theorem xcall_sound {P : Program} {S : Bool} {Ω : Type} {r : Ω} {Γ : List CX} (hΓ : ΓOk P S Γ) {f : FuncId} {xs : List TV} {d : Option Nat} {k : TS → Option Ω} (h : xcall Γ t f xs d k = some r) :
    CallW P S (toAS n t) f (xs.map (av t.hp)) d (Kt k r n) := by
  unfold xcall at h
  split at h
  · rename_i ct a hp
    obtain ⟨h1, h2, h3, h4⟩ := pick_spec hp
    obtain ⟨y, hy, hk⟩ := Option.bind_eq_some_iff.1 h
    obtain ⟨x1, e, hi⟩ := asPs_spec _ _ _ _ h4 8 h3
    rw [List.append_nil] at e
    subst e
    refine .a ⟨Is (resA ct.R y) (resH ct.R y), ?_, ?_⟩
    · have := (show CTok P ct from hΓ.1 _ h1) a y hy
      rw [h2] at this
      refine this.args ?_
      rw [List.map_map]
      exact hi
    · rintro x hp' ⟨rfl, rfl⟩
      refine ⟨fresh_resA _ _, fresh_resH _ _, ?_⟩
      refine Kt.of hk ?_
      rw [toAS_put, toAS_hp, toHP_len]
      obtain ⟨s1, s2⟩ := resR_shift ct.R y t.hp.length
      have hle := StLe.newL (n := n) (t := t) (resR_arr ct.R y t.hp.length)
      rw [s2] at hle
      rw [s2]
      refine StLe.put hle d ?_
      rw [s1, tupT_shf, av_shf (hp := resB ct.R y)]
      · exact Im.refl _
      · exact fun j => hpk_new j
  · exact xcallM_sound hΓ.1 hΓ.2 h
end
end Go.Proofs.Ytcmlapepofgkpaa.Nx
