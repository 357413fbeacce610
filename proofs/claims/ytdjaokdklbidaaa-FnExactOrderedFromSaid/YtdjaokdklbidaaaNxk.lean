/- The effects of the evaluator: sound, with no condition beyond those each lemma names. -/
import Derived.Test.YtdjaokdklbidaaaNxj
set_option linter.unusedVariables false
set_option linter.unusedSimpArgs false
namespace Go.Proofs.Ytdjaokdklbidaaa.Nx
open Go Go.RowKit

section
variable {Ω : Type} {r : Ω} {n : Nat} {Θ : TyO} {t : TS} {d : Option Nat} {k : TS → Option Ω}

/-- On to a state that the evaluator goes on with. -/
def Kt (k : TS → Option Ω) (r : Ω) (n : Nat) (s : AS) : Prop := ∃ t', k t' = some r ∧ Get s (toAS n t')

theorem Kt.of {s : AS} {t' : TS} (h : k t' = some r) (hs : StLe s (toAS n t')) : Kt k r n s := ⟨t', h, hs.get⟩

theorem new_put {kb : Blk} {b : TB} {x : AV} {y : TV} (hk : RowLe kb (tb (t.new [b]).hp b)) (hx : Im x (av (t.new [b]).hp y)) (h : k ((t.new [b]).put d y) = some r) :
    Kt k r n ((toAS n t).new d kb x) := by
  refine Kt.of h ?_
  rw [toAS_put]
  exact (StLe.new b hk).put d hx

theorem new_len (b : TB) : (t.new [b]).hp[t.hp.length]? = some (some b) := by
  unfold TS.new
  show ((fltH _ t.hp) ++ [some b])[t.hp.length]? = _
  rw [List.getElem?_append_right (by rw [fltH_len]; exact Nat.le_refl _), fltH_len, Nat.sub_self]; rfl

theorem av_own {hp : THP} {j : Nat} {l : Nat} (h : hpk hp j = some (some l)) : av hp (.own j) = .ref j l 0 l := by simp only [av, h]

theorem cut_hpk (b : TB) : ∀ j, Nat.blt j t.hp.length = true → hpk (t.new [b]).hp j = hpk t.hp j := fun j hj => by
  rw [Nat.blt_eq] at hj
  rw [← hpk_flt (fun i => Nat.blt i t.hp.length) t.hp j]
  unfold hpk TS.new
  rw [List.getElem?_append_left (by rw [fltH_len]; exact hj)]

theorem cav_leaf {hp : THP} {c : AV} (h : isVal c = true) : Im c (cav hp (cAVt c)) := by
  cases c <;> first | cases h | skip
  rename_i v
  unfold cav
  cases hc : TV.c1 hp (cAVt (.val v)) with
  | false => exact .any _
  | true =>
    simp only [cond_true]
    show Im _ (av hp (leaf v))
    rw [av_leaf]; exact .refl _

theorem all2_vals {hp : THP} : ∀ {z : List AV}, z.all isVal = true → All2 Im z ((z.map cAVt).map (cav hp))
  | [], _ => .nil
  | c :: z, h => by
    simp only [List.all_cons, Bool.and_eq_true] at h
    exact .cons (cav_leaf h.1) (all2_vals h.2)

theorem vals_bare {z : List AV} (h : z.all isVal = true) : ∀ c ∈ z, c.bare1 = true := fun c hc => by
  have := List.all_eq_true.1 h c hc
  cases c <;> first | rfl | cases this

theorem eff_al {z : List AV} (h : xeff n Θ t d k (.al z) = some r) : ae (toAS n t) d (Kt k r n) (.al z) := by
  simp only [xeff] at h
  cases hz : z.all isVal with
  | false => rw [hz] at h; cases h
  | true =>
    rw [hz, cond_true] at h
    refine new_put (b := .box (z.map cAVt)) ?_ ?_ h
    · refine RowLe.of (by simp [tb]) rfl rfl rfl ?_ ?_ ?_
      · intro c hc
        simp only [List.flatMap_cons, List.flatMap_nil, List.append_nil, AV.cells] at hc
        exact vals_bare hz c hc
      · intro _ y hy
        simp only [tb, List.mem_singleton] at hy
        subst hy; simp [AV.cells]
      · simp only [tb, List.flatMap_cons, List.flatMap_nil, List.append_nil, AV.cells]
        exact all2_vals hz
    · simp only [av, hpk, new_len, TB.rlen, toAS_hp, toHP_len]
      exact .refl _

theorem cs_cav {hp : THP} {m : Nat} {x : TV} (h : x.fits hp m = true) : (av hp x).cells = x.cs.map (cav hp) := by
  rw [← (fits_spec h).2]
  refine List.map_congr_left fun c hc => ?_
  unfold cav
  rw [fits_c1 h c hc]; rfl

theorem all2_cut {b : TB} (cs : List TV) : All2 Im (cs.map (cav t.hp)) ((fltL (fun i => Nat.blt i t.hp.length) cs).map (cav (t.new [b]).hp)) := by
  rw [fltL_map, List.map_map]
  exact all2_map (fun x => cav_flt (cut_hpk b) x) cs

theorem eff_bx {m : Nat} {x : Operand} (h : xeff n Θ t d k (.bx m x) = some r) : ae (toAS n t) d (Kt k r n) (.bx m x) := by
  simp only [xeff] at h
  cases hf : (t.ev n x).fits t.hp m with
  | false => rw [hf] at h; cases h
  | true =>
    rw [hf, cond_true] at h
    simp only [ae, toAS_ev]
    refine ⟨(fits_spec hf).1, new_put (b := .box (fltL (fun i => Nat.blt i t.hp.length) (t.ev n x).cs)) ?_ ?_ h⟩
    · rw [cs_cav hf]
      refine RowLe.of ?_ rfl rfl rfl ?_ ?_ ?_
      · simp only [tb, fltL_map, List.length_map]
        exact fits_len hf
      · intro c hc
        simp only [List.flatMap_cons, List.flatMap_nil, List.append_nil, AV.cells, List.mem_map] at hc
        obtain ⟨y, _, rfl⟩ := hc
        exact (cav_cell _ y).1
      · intro _ y hy
        simp only [tb, List.mem_singleton] at hy
        subst hy
        simp only [AV.cells, List.length_map, fltL_map]
        exact fits_len hf
      · simp only [tb, List.flatMap_cons, List.flatMap_nil, List.append_nil, AV.cells]
        exact all2_cut _
    · simp only [av, hpk, new_len, TB.rlen, toAS_hp, toHP_len]
      exact .refl _

theorem im_own {b : TB} {l : Nat} (hb : b.rlen = some l) : Im (.ref t.hp.length l 0 l) (av (t.new [b]).hp (.own t.hp.length)) := by
  rw [av_own (l := l) (by unfold hpk; rw [new_len]; simp [hb])]
  exact .refl _

theorem fits_sz {o : Bool} {T : Ty} {x : TV} {y : Den T} (h : RI false T (av t.hp x).cells y) (ho : T.flat = true) (ha : ∀ t', T ≠ .pr t' t' ∨ True) : True := trivial

theorem bslT_spec {sz : Nat} {T : Ty} (hs : T.sz = sz) (ho : T.flat = true) : ∀ {ps : List (Nat × Operand)} {L L' : List (Den T)} {rows : List AV}, bslT n t T ps L = some L' → All2 (RR true T) rows L →
    bslC (toAS n t) sz L.length ps ∧ All2 (RR true T) (bslR (toAS n t) ps rows) L' ∧ L'.length = L.length
  | [], L, L', rows, h, hr => by cases h; exact ⟨trivial, hr, rfl⟩
  | (i, x) :: ps, L, L', rows, h, hr => by
    simp only [bslT] at h
    split at h
    · rename_i y hy
      cases hc : (Nat.blt i L.length && (t.ev n x).fits t.hp T.sz) with
      | false => rw [hc] at h; cases h
      | true =>
        rw [hc, cond_true] at h
        simp only [Bool.and_eq_true, Nat.blt_eq] at hc
        obtain ⟨k1, k2, k3⟩ := bslT_spec hs ho h (hr.set (x := (toAS n t).ev x) (y := y) (by
          show RI true T ((toAS n t).ev x).cells y
          rw [toAS_ev]
          exact (asDen_spec t.hp hy).1.o (by simpa using ho)) i)
        rw [List.length_set] at k1 k3
        refine ⟨⟨hc.1, ?_, k1⟩, k2, k3⟩
        rw [toAS_ev, ← hs]
        exact (fits_spec hc.2).1
    · cases h

theorem RRw_rows {T : Ty} {hp : THP} {cs : List TV} {x : AV} (h : x.cells = cs.map (cav hp)) (hl : T.ag = false → cs.length = 1) : (mkr T.ag (cs.map (cav hp))).cells = x.cells := by
  rw [map_cav_cells, h]
  split
  · rfl
  · rename_i hag
    have := hl (by simpa using hag)
    match cs, this with
    | [c], _ => rfl

def RW (T : Ty) (hp : THP) (x : AV) (cs : List TV) : Prop := All2 Im x.cells (mkr T.ag (cs.map (cav hp))).cells ∧ (∀ c ∈ x.cells, c.bare1 = true) ∧ (mkr T.ag (cs.map (cav hp))).cells.length = T.sz

theorem sz_one {T : Ty} (h : T.ag = false) : T.sz = 1 := by cases T <;> first | rfl | cases h

theorem bslR_spec {sz : Nat} {T : Ty} (hs : T.sz = sz) : ∀ {ps : List (Nat × Operand)} {R R' : List (List TV)} {rows : List AV}, bslR' n t sz ps R = some R' → All2 (RW T t.hp) rows R →
    bslC (toAS n t) sz R.length ps ∧ All2 (RW T t.hp) (bslR (toAS n t) ps rows) R' ∧ R'.length = R.length
  | [], R, R', rows, h, hr => by cases h; exact ⟨trivial, hr, rfl⟩
  | (i, x) :: ps, R, R', rows, h, hr => by
    simp only [bslR'] at h
    cases hc : (Nat.blt i R.length && (t.ev n x).fits t.hp sz) with
    | false => rw [hc] at h; cases h
    | true =>
      rw [hc, cond_true] at h
      simp only [Bool.and_eq_true, Nat.blt_eq] at hc
      have hcs := cs_cav hc.2
      have hm := RRw_rows (T := T) hcs fun hag => by rw [fits_len hc.2, ← hs]; exact sz_one hag
      obtain ⟨k1, k2, k3⟩ := bslR_spec hs h (hr.set (x := (toAS n t).ev x) (y := (t.ev n x).cs) (by
        show RW T t.hp ((toAS n t).ev x) _
        rw [toAS_ev]
        refine ⟨by rw [hm]; exact All2.imrefl _, fun c hc' => ?_, by rw [hm, hcs, List.length_map, fits_len hc.2, hs]⟩
        rw [hcs] at hc'
        obtain ⟨y, _, rfl⟩ := List.mem_map.1 hc'
        exact (cav_cell _ y).1) i)
      rw [List.length_set] at k1 k3
      refine ⟨⟨hc.1, ?_, k1⟩, k2, k3⟩
      rw [toAS_ev]
      exact (fits_spec hc.2).1

theorem RowLe.trans {a b c : Blk} (h : RowLe a b) (k : RowLe b c) : RowLe a c := by
  obtain ⟨a1, a2, a3, a4, a5, a6⟩ := h
  obtain ⟨b1, b2, b3, b4, b5, b6⟩ := k
  refine ⟨b1.trans a1, b2.trans a2, b3.trans a3, b4.trans a4, fun q => ?_, fun w N M p o K r => b6 _ _ _ _ _ _ (a6 _ _ _ _ _ _ r)⟩
  have := b5 (by rw [a1]; exact a5 q)
  rw [a1] at this; exact this

theorem rwLe {T : Ty} {hp : THP} {rows : List AV} {R : List (List TV)} (h : All2 (RW T hp) rows R) : RowLe ⟨T.sz, 0, rows, 0⟩ ⟨T.sz, 0, R.map fun cs => mkr T.ag (cs.map (cav hp)), 0⟩ := by
  refine RowLe.of rfl rfl rfl (by rw [List.length_map]; exact h.len) ?_ ?_ ?_
  · intro c hc
    obtain ⟨r, hr, hc⟩ := List.mem_flatMap.1 hc
    obtain ⟨y, hy⟩ := h.mem_left hr
    exact hy.2.1 c hc
  · intro _ y hy
    obtain ⟨cs, hcs, rfl⟩ := List.mem_map.1 hy
    obtain ⟨x, hx⟩ := h.mem_right hcs
    exact hx.2.2
  · show All2 Im (rows.flatMap AV.cells) ((R.map _).flatMap AV.cells)
    induction h with
    | nil => exact .nil
    | cons h1 _ ih =>
      simp only [List.flatMap_cons, List.map_cons]
      exact All2.append h1.1 ih

theorem eff_bsl {sz m : Nat} {ag : Bool} {z : List AV} {ps : List (Nat × Operand)} (h : xeff n Θ t d k (.bsl sz m ag z ps) = some r) : ae (toAS n t) d (Kt k r n) (.bsl sz m ag z ps) := by
  simp only [xeff] at h
  split at h
  · rename_i T hT
    cases hc : (Nat.beq T.sz sz && (T.ag == ag)) with
    | false => rw [hc] at h; cases h
    | true =>
      rw [hc, cond_true] at h
      simp only [Bool.and_eq_true, Nat.beq_eq, beq_iff_eq] at hc
      obtain ⟨hs, rfl⟩ := hc
      cases hf : (T.flat && (zOk T z || Nat.beq m 0)) with
      | true =>
        rw [hf, cond_true] at h
        simp only [Bool.and_eq_true, Bool.or_eq_true, Nat.beq_eq] at hf
        split at h
        · rename_i L hL
          have h0 : All2 (RR true T) (List.replicate m (zrow T.ag z)) (List.replicate m (dft T)) := by
            rcases hf.2 with hz | rfl
            · exact All2.replicate (R := RR true T) (zOk_spec hz).1 m
            · exact .nil
          obtain ⟨k1, k2, k3⟩ := bslT_spec hs hf.1 hL h0
          rw [List.length_replicate] at k1 k3
          refine ⟨k1, ?_⟩
          have hlen : L.length = m := k3
          rw [← hs, toAS_hp, toHP_len]
          have := im_own (t := t) (b := .arr T true L) (l := m) (by simp [TB.rlen, hlen])
          exact new_put (b := .arr T true L) (rowsLe k2) this h
        · cases h
      | false =>
        rw [hf, cond_false] at h
        cases hv : z.all isVal with
        | false => rw [hv] at h; cases h
        | true =>
          rw [hv, cond_true] at h
          cases hzl : Nat.beq z.length T.sz with
          | false => rw [hzl] at h; cases h
          | true =>
          rw [hzl, cond_true] at h
          simp only [Nat.beq_eq] at hzl
          split at h
          · rename_i R hR
            have hz0 : (zrow T.ag z).cells = z ∨ (T.ag = false ∧ ∃ c, z = [c] ∧ (zrow T.ag z).cells = [c]) := by
              unfold zrow
              cases hag : T.ag with
              | true => exact .inl rfl
              | false =>
                have h1 : z.length = 1 := by rw [hzl]; exact sz_one hag
                match z, h1, hv with
                | [c], _, hv =>
                  simp only [List.all_cons, List.all_nil, Bool.and_true] at hv
                  cases c <;> first | exact .inr ⟨rfl, _, rfl, rfl⟩ | cases hv
            have hzc : (zrow T.ag z).cells = z := by
              rcases hz0 with h | ⟨_, c, rfl, h⟩
              · exact h
              · exact h
            have h0 : All2 (RW T t.hp) (List.replicate m (zrow T.ag z)) (List.replicate m (z.map cAVt)) := by
              refine All2.replicate ?_ m
              unfold RW
              rw [hzc, map_cav_cells]
              refine ⟨?_, vals_bare hv, ?_⟩
              · split
                · exact all2_vals hv
                · rename_i hag
                  have h1 : z.length = 1 := by rw [hzl]; exact sz_one (by simpa using hag)
                  match z, h1, hv with
                  | [c], _, hv => exact .cons (cav_leaf (by simpa using hv)) .nil
              · split
                · simp [hzl]
                · rename_i hag
                  rw [sz_one (by simpa using hag)]; rfl
            obtain ⟨k1, k2, k3⟩ := bslR_spec hs hR h0
            rw [List.length_replicate] at k1 k3
            refine ⟨k1, ?_⟩
            rw [← hs, toAS_hp, toHP_len]
            have := im_own (t := t) (b := .rws T (R.map (fltL fun i => Nat.blt i t.hp.length))) (l := m) (by simp [TB.rlen, k3])
            refine new_put (b := .rws T (R.map (fltL fun i => Nat.blt i t.hp.length))) ?_ this h
            exact (rwLe k2).trans (tb_flt (cut_hpk _) (.rws T R))
          · cases h
  · cases h
end
end Go.Proofs.Ytdjaokdklbidaaa.Nx

namespace Go.Proofs.Ytdjaokdklbidaaa.Nx
open Go Go.RowKit

section
variable {Ω : Type} {r : Ω} {n : Nat} {Θ : TyO} {t : TS} {d : Option Nat} {k : TS → Option Ω}

theorem eff_mk {sz by_ : Nat} {ag : Bool} {z : List AV} {l c : Operand} (h : xeff n Θ t d k (.mk sz by_ ag z l c) = some r) : ae (toAS n t) d (Kt k r n) (.mk sz by_ ag z l c) := by
  simp only [xeff] at h
  split at h
  · rename_i T k1 m k2 m' hT hl hc
    cases hb : (Nat.beq T.sz sz && ((T.ag == ag) && zOk T z)) with
    | false => rw [hb] at h; cases h
    | true =>
      rw [hb, cond_true] at h
      simp only [Bool.and_eq_true, Nat.beq_eq, beq_iff_eq] at hb
      obtain ⟨hs, rfl, hz⟩ := hb
      obtain ⟨h1, h2⟩ := chk_some h
      have h1 := h1.sm
      simp only [Bool.and_eq_true, decide_eq_true_eq] at h1
      obtain ⟨e1, e2, e3, e4⟩ := h1
      subst e1
      simp only [ae, toAS_ev, hl, hc]
      show m = m ∧ 0 ≤ m ∧ m * (by_ : Int) ≤ 140737488355328 ∧ m ≤ 9223372036854775807 ∧ _
      refine ⟨rfl, e2, e3, e4, ?_⟩
      rw [← hs, toAS_hp, toHP_len]
      exact new_put (b := .arr T true (List.replicate m.toNat (dft T))) (rowsLe (All2.replicate (R := RR true T) (zOk_spec hz).1 _)) (im_own (by rw [TB.rlen, List.length_replicate])) h2
  · cases h

theorem eff_csb {x : Operand} (h : xeff n Θ t d k (.csb x) = some r) : ae (toAS n t) d (Kt k r n) (.csb x) := by
  simp only [xeff] at h
  split at h
  · rename_i s hs
    simp only [ae, toAS_ev, hs]
    show Kt k r n _
    have hsz : s.size = (byteL s).length := by unfold byteL; rw [List.length_map]; rfl
    rw [bytesAV_eq, toAS_hp, toHP_len]
    refine new_put (b := .arr (.i .u8) true (byteL s)) ?_ (im_own (by rw [TB.rlen, hsz])) h
    exact RowLe.refl _
  · cases h

theorem eff_isn {neg : Bool} {x : Operand} (h : xeff n Θ t d k (.isn neg x) = some r) : ae (toAS n t) d (Kt k r n) (.isn neg x) := by
  simp only [xeff] at h
  split at h
  · rename_i T L hL
    obtain ⟨h1, h2⟩ := chk_some h
    have h1 := h1.sm
    simp only [Bool.not_eq_true', decide_eq_false_iff_not] at h1
    simp only [ae, toAS_ev, hL]
    refine ⟨trivial, fun b hb => ?_⟩
    have hb0 : b = false := by
      cases b with
      | false => rfl
      | true =>
        have := hb rfl
        have e : lenV (av t.hp (.v (.sl T) L)) = .val (.int .i64 (L.length : Nat)) := by
          show AV.val (.int .i64 ((L.map fun y => mkr T.ag (cls false T y)).length : Nat)) = _
          rw [List.length_map]
        rw [e] at this
        simp only [AV.val.injEq, Value.int.injEq, true_and] at this
        exact absurd (by exact_mod_cast this) h1
    subst hb0
    refine Kt.of h2 ?_
    rw [toAS_put]
    have : (neg != false) = neg := by cases neg <;> rfl
    rw [this]
    exact StLe.refl _
  · cases h

theorem mkRow_enc {o : Bool} {T : Ty} (x : Den T) (cs : List AV) (hl : cs.length = T.sz) (hc : ∀ c ∈ cs, c.cells = [c]) : (mkRow (enc o T x) cs).cells = cs := by
  cases T with
  | st t => rfl
  | pr a b => rfl
  | _ =>
    have h1 : cs.length = 1 := hl
    match cs, h1 with
    | [c], _ => exact hc c (by simp)

theorem cls_c (o : Bool) (T : Ty) (x : Den T) : ∀ c ∈ cls o T x, c.cells = [c] := fun c hc => (cls_cell1 o T x c hc).2

/-- A part of a row is written. -/
theorem st_rows {o : Bool} {T : Ty} {L : List (Den T)} {row off m : Nat} {y : TV} (hr : row < L.length) (hle : off + m ≤ T.sz) (hf : y.fits t.hp m = true) :
    ((mkRow ((L.map (enc o T)).getD row .any) (((L.map (enc o T)).getD row .any).cells.take off ++ ((av t.hp y).cells ++ ((L.map (enc o T)).getD row .any).cells.drop (off + m)))).cells
      = (cls o T (L.getD row (dft T))).take off ++ ((av t.hp y).cells ++ (cls o T (L.getD row (dft T))).drop (off + m))) ∧
    ((cls o T (L.getD row (dft T))).take off ++ ((av t.hp y).cells ++ (cls o T (L.getD row (dft T))).drop (off + m))).length = T.sz := by
  have hlen : ((cls o T (L.getD row (dft T))).take off ++ ((av t.hp y).cells ++ (cls o T (L.getD row (dft T))).drop (off + m))).length = T.sz := by
    have h1 := fits_len hf
    have h2 := congrArg List.length (fits_spec hf).2
    rw [List.length_map] at h2
    simp only [List.length_append, List.length_take, List.length_drop, cls_len]
    omega
  rw [getD_map (d := dft T) hr, enc_cells]
  refine ⟨mkRow_enc _ _ hlen fun c hc => ?_, hlen⟩
  rcases List.mem_append.1 hc with h | h
  · exact cls_c o T _ c (List.mem_of_mem_take h)
  · rcases List.mem_append.1 h with h | h
    · rw [cs_cav hf] at h
      obtain ⟨z, _, rfl⟩ := List.mem_map.1 h
      exact (cav_cell _ z).2
    · exact cls_c o T _ c (List.mem_of_mem_drop h)

theorem set_split {α : Type} {l : List α} {i : Nat} {x d : α} (h : i < l.length) : l.set i x = l.take i ++ x :: l.drop (i + 1) ∧ l = l.take i ++ l.getD i d :: l.drop (i + 1) := by
  constructor
  · rw [List.set_eq_take_append_cons_drop, if_pos h]
  · rw [List.getD_eq_getElem?_getD, List.getElem?_eq_getElem h]
    simp

theorem nodupB_iff : ∀ {l : List Nat}, nodupB l = true → l.Nodup
  | [], _ => List.nodup_nil
  | x :: l, h => by
    simp only [nodupB, Bool.and_eq_true, Bool.not_eq_true'] at h
    refine List.nodup_cons.2 ⟨fun hx => ?_, nodupB_iff h.2⟩
    have : l.any (Nat.beq x) = true := List.any_eq_true.2 ⟨x, hx, by simp⟩
    rw [h.1] at this; cases this

theorem Get.absorb {s : AS} {j : Nat} {b : Blk} (hj : s.hp[j]? = some (some b)) {rows' : List AV} {l : List Nat} (hn : (j :: l).Nodup) (hlen : rows'.length = b.rows.length)
    (hcl : (∀ y ∈ b.rows, y.cells.length = b.sz) → ∀ y ∈ rows', y.cells.length = b.sz) (hab : Ab s.hp (b.rows.flatMap AV.cells) (rows'.flatMap AV.cells) l) :
    Get s { s with hp := setAllH (s.hp.set j (some { b with rows := rows' })) l } := fun _ _ _ hc => by
  obtain ⟨N, M, ℓ, hc⟩ := hc.fn
  exact hc.absorb hj hn hlen hcl hab

theorem Get.absorbP {s : AS} {d : Option Nat} {x : AV} {j : Nat} {b : Blk} (hj : j < s.hp.length) {rows' : List AV} {l : List Nat} (hn : (j :: l).Nodup) (hlen : rows'.length = b.rows.length)
    (hcl : (∀ y ∈ b.rows, y.cells.length = b.sz) → ∀ y ∈ rows', y.cells.length = b.sz) (hab : Ab (s.hp.set j (some b)) (b.rows.flatMap AV.cells) (rows'.flatMap AV.cells) l) :
    Get (AS.put { s with hp := s.hp.set j (some b) } d x) (AS.put { s with hp := setAllH (s.hp.set j (some { b with rows := rows' })) l } d x) := by
  have h0 : (s.hp.set j (some b))[j]? = some (some b) := by rw [List.getElem?_set, if_pos rfl, if_pos hj]
  have e : (s.hp.set j (some b)).set j (some { b with rows := rows' }) = s.hp.set j (some { b with rows := rows' }) := List.set_set ..
  cases d with
  | none =>
    have := Get.absorb (s := { s with hp := s.hp.set j (some b) }) h0 hn hlen hcl hab
    rw [show ({ s with hp := s.hp.set j (some b) } : AS).hp = s.hp.set j (some b) from rfl, e] at this
    exact this
  | some d =>
    have := Get.absorb (s := { sl := s.sl.set d x, hp := s.hp.set j (some b) }) h0 hn hlen hcl hab
    rw [show ({ sl := s.sl.set d x, hp := s.hp.set j (some b) } : AS).hp = s.hp.set j (some b) from rfl, e] at this
    exact this

theorem Ab.mono {hp hp' : HP} {xs ys : List AV} {l : List Nat} (h : Ab hp xs ys l) : (∀ i ∈ l, hp'[i]? = hp[i]?) → Ab hp' xs ys l := by
  induction h with
  | nil => intro _; exact .nil
  | im h1 h2 _ ih => intro hh; exact .im h1 h2 (ih hh)
  | same _ ih => intro hh; exact .same (ih hh)
  | ref h1 h2 _ ih => intro hh; exact .ref (by rw [hh _ (by simp)]; exact h1) h2 (ih fun i hi => hh i (by simp [hi]))

theorem toAS_setB {j : Nat} {b : TB} (hj : j < t.hp.length) (hr : hpk t.hp j = some b.rlen) : toAS n { t with hp := t.hp.set j (some b) } = { toAS n t with hp := (toHP t.hp).set j (some (tb t.hp b)) } := by
  have hh : ∀ i, hpk (t.hp.set j (some b)) i = hpk t.hp i := fun i => by
    by_cases hi : j = i
    · subst hi
      rw [hr]
      unfold hpk
      rw [List.getElem?_set, if_pos rfl, if_pos hj]
    · unfold hpk
      rw [List.getElem?_set, if_neg hi]
  unfold toAS E
  simp only [AS.mk.injEq]
  constructor
  · congr 1
    refine List.map_congr_left fun p _ => ?_
    show (p.1, av (t.hp.set j (some b)) p.2) = _
    rw [av_congr hh]
  · unfold toHP
    rw [List.map_set]
    congr 1
    · refine List.map_congr_left fun c _ => ?_
      cases c with
      | none => rfl
      | some c => show some (tb _ c) = some (tb _ c); rw [tb_congr hh]
    · show some (tb _ b) = _
      rw [tb_congr hh]

theorem encs_Ab (hp : HP) {o : Bool} {T : Ty} (L : List (Den T)) : Ab hp ((L.map (enc o T)).flatMap AV.cells) ((L.map (enc o T)).flatMap AV.cells) [] := Ab.refl _ _

theorem eff_st {m : Nat} {x y : Operand} (hrow : ∀ j row off, t.ev n x = .ptr j row off → ∀ (T : Ty) (o : Bool) (L : List (Den T)), t.hp[j]? = some (some (.arr T o L)) → row < L.length)
    (h : xeff n Θ t d k (.st m x y) = some r) : ae (toAS n t) d (Kt k r n) (.st m x y) := by
  simp only [xeff] at h
  split at h
  · rename_i j row off hx
    split at h
    · rename_i cs e
      have hj : j < t.hp.length := (List.getElem?_eq_some_iff.1 e).1
      cases hb : (Nat.beq row 0 && (Nat.ble (off + m) cs.length && (t.ev n y).fits t.hp m)) with
      | false => rw [hb] at h; cases h
      | true =>
        rw [hb, cond_true] at h
        simp only [Bool.and_eq_true, Nat.beq_eq] at hb
        obtain ⟨rfl, hle, hf⟩ := hb
        have hle := Nat.le_of_ble_eq_true hle
        have ha : av t.hp (.ptr j 0 off) = .ptr j 1 0 off := by simp only [av, hpk_box e]
        simp only [ae, toAS_ev, hx, ha, toAS_hp]
        rw [at_box e]
        show 0 ≤ 0 ∧ _
        refine ⟨Nat.le_refl _, (fits_spec hf).1, ?_, ?_⟩
        · show off + m ≤ (cs.map (cav t.hp)).length
          rw [List.length_map]; exact hle
        · refine Kt.of h ?_
          rw [toAS_put]
          refine StLe.put ?_ d (Im.any _)
          refine StLe.setB hj (by simp [hpk_box e, TB.rlen]) ?_
          have : RowLe ⟨cs.length, 0, [AV.agg ((cs.map (cav t.hp)).take off ++ ((av t.hp (t.ev n y)).cells ++ (cs.map (cav t.hp)).drop (off + m)))], 0⟩ (tb t.hp (.box (cs.take off ++ ((t.ev n y).cs ++ cs.drop (off + m))))) := by
            have hl : (cs.take off ++ ((t.ev n y).cs ++ cs.drop (off + m))).length = cs.length := by
              have := fits_len hf
              simp only [List.length_append, List.length_take, List.length_drop]; omega
            have e2 : tb t.hp (.box (cs.take off ++ ((t.ev n y).cs ++ cs.drop (off + m)))) = ⟨cs.length, 0, [AV.agg ((cs.map (cav t.hp)).take off ++ ((av t.hp (t.ev n y)).cells ++ (cs.map (cav t.hp)).drop (off + m)))], 0⟩ := by
              simp only [tb, hl, cs_cav hf, List.map_append, List.map_take, List.map_drop]
            rw [e2]; exact .refl _
          exact this
    · rename_i T o L e
      have hj : j < t.hp.length := (List.getElem?_eq_some_iff.1 e).1
      have hr := hrow j row off hx T o L e
      cases hb : (Nat.ble (off + m) T.sz && (t.ev n y).fits t.hp m) with
      | false => rw [hb] at h; cases h
      | true =>
        rw [hb, cond_true] at h
        simp only [Bool.and_eq_true] at hb
        have hle := Nat.le_of_ble_eq_true hb.1
        have hf := hb.2
        have ha : av t.hp (.ptr j row off) = .ptr j L.length row off := by simp only [av, hpk_arr e]
        simp only [ae, toAS_ev, hx, ha, toAS_hp]
        rw [at_arr e]
        obtain ⟨g1, g2⟩ := st_rows (o := o) (t := t) hr hle hf
        refine ⟨Nat.zero_le _, (fits_spec hf).1, ?_, ?_⟩
        · show off + m ≤ (((L.map (enc o T)).getD row .any).cells).length
          rw [getD_map (d := dft T) hr, enc_cells, cls_len]; exact hle
        show Kt k r n (AS.put { toAS n t with hp := (toHP t.hp).set j (some ⟨T.sz, 0, (L.map (enc o T)).set row (mkRow ((L.map (enc o T)).getD row .any) (((L.map (enc o T)).getD row .any).cells.take off ++ ((av t.hp (t.ev n y)).cells ++ ((L.map (enc o T)).getD row .any).cells.drop (off + m)))), 0⟩) } d .any)
        generalize hnr : mkRow ((L.map (enc o T)).getD row .any) (((L.map (enc o T)).getD row .any).cells.take off ++ ((av t.hp (t.ev n y)).cells ++ ((L.map (enc o T)).getD row .any).cells.drop (off + m))) = nr at g1
        have hcyl : (av t.hp (t.ev n y)).cells.length = m := by rw [cs_cav hf, List.length_map]; exact fits_len hf
        cases ho : (!o || T.flat) with
        | true =>
          rw [ho, cond_true] at h
          split at h
          · rename_i z l hz
            refine Kt.of h ?_
            rw [toAS_put]
            refine StLe.put ?_ d (Im.any _)
            refine StLe.setB hj (by simp [hpk_arr e, TB.rlen]) ?_
            refine rowsLe ((encs_RR ho L).set (x := nr) (y := z) ?_ row)
            show RI o T nr.cells z
            rw [g1, cls_o ho]
            have s1 := setG_spec (R := fun a b _ => All2 Im a b) (fun xs => All2.imrefl xs) (fun h k => All2.append h k) (o := false) hcyl (fun T' z' l' hz' _ => (fV_spec t.hp hz').2.1) T _ off z l hz hle
            refine RI.o ⟨s1, fun c hc => ?_⟩ ho
            rcases List.mem_append.1 hc with h | h
            · exact cls_bare T _ c (List.mem_of_mem_take h)
            · rcases List.mem_append.1 h with h | h
              · rw [cs_cav hf] at h
                obtain ⟨q, _, rfl⟩ := List.mem_map.1 h
                exact (cav_cell _ q).1
              · exact cls_bare T _ c (List.mem_of_mem_drop h)
          · cases h
        | false =>
          rw [ho, cond_false] at h
          simp only [Bool.or_eq_false_iff, Bool.not_eq_false'] at ho
          obtain ⟨rfl, _⟩ := ho
          split at h
          · rename_i z l hz
            cases hn : nodupB (j :: l) with
            | false => rw [hn] at h; cases h
            | true =>
              rw [hn, cond_true] at h
              have hnd := nodupB_iff hn
              have s1 := setG_spec (R := Ab (toHP t.hp)) (fun xs => Ab.refl _ xs) (fun h k => Ab.append h k) (o := true) hcyl (fun T' z' l' hz' _ => by
                have := fO_spec hz' (fits_c1 hf)
                rw [(fits_spec hf).2] at this
                exact this) T _ off z l hz hle
              rw [← g1] at s1
              -- the rows about it
              obtain ⟨q1, q2⟩ := set_split (l := L.map (enc true T)) (i := row) (x := nr) (d := .any) (by simpa using hr)
              obtain ⟨q3, _⟩ := set_split (l := L) (i := row) (x := z) (d := dft T) hr
              have hnrl : nr.cells.length = T.sz := by rw [g1]; exact g2
              have hab : Ab (toHP t.hp) (((L.map (enc true T)).set row nr).flatMap AV.cells) (((L.set row z).map (enc true T)).flatMap AV.cells) l := by
                rw [q1, q3]
                simp only [List.map_append, List.map_cons, List.map_take, List.map_drop, List.flatMap_append, List.flatMap_cons, enc_cells]
                have := (Ab.refl (toHP t.hp) (((L.map (enc true T)).take row).flatMap AV.cells)).append (s1.append (Ab.refl (toHP t.hp) (((L.map (enc true T)).drop (row + 1)).flatMap AV.cells)))
                simpa using this
              -- the same about the new heap
              have hlive : ∀ i ∈ l, i ≠ j := fun i hi e => (List.nodup_cons.1 hnd).1 (e ▸ hi)
              refine ⟨_, h, ?_⟩
              have hab' : Ab ((toHP t.hp).set j (some ⟨T.sz, 0, (L.map (enc true T)).set row nr, 0⟩)) (((L.map (enc true T)).set row nr).flatMap AV.cells) (((L.set row z).map (enc true T)).flatMap AV.cells) l := hab.mono fun i hi => by
                rw [List.getElem?_set, if_neg (fun e => hlive i hi e.symm)]
              rw [toAS_put]
              refine Get.trans (Get.absorbP (s := toAS n t) (d := d) (b := ⟨T.sz, 0, (L.map (enc true T)).set row nr, 0⟩) (rows' := (L.set row z).map (enc true T)) (l := l)
                (by rw [toAS_hp, toHP_len]; exact hj) hnd (by simp) (fun _ y hy => by
                  obtain ⟨q, _, rfl⟩ := List.mem_map.1 hy
                  rw [enc_cells, cls_len]) hab') (StLe.get ?_)
              refine StLe.put ?_ d (Im.refl _)
              have e1 : toAS n { t with hp := t.hp.set j (some (.arr T true (L.set row z))) } = { toAS n t with hp := (toHP t.hp).set j (some ⟨T.sz, 0, (L.set row z).map (enc true T), 0⟩) } := toAS_setB hj (by simp [hpk_arr e, TB.rlen])
              have := StLe.kill (n := n) (t := { t with hp := t.hp.set j (some (.arr T true (L.set row z))) }) l
              rw [e1] at this
              have e2 : toHP (t.hp.set j (some (.arr T true (L.set row z)))) = (toHP t.hp).set j (some ⟨T.sz, 0, (L.set row z).map (enc true T), 0⟩) := congrArg AS.hp e1
              rw [e2] at this
              exact this
          · cases h
    · cases h
  · cases h
end
end Go.Proofs.Ytdjaokdklbidaaa.Nx
