/- The data that the two functions compute are alike, for all arguments that memory can hold. -/
import Derived.Test.YtdjaokdklbidaaaHFnExactShelfOf
set_option linter.unusedVariables false
set_option linter.unusedSimpArgs false
namespace Go.Proofs.Ytdjaokdklbidaaa.C
open Go Go.Proofs.Ytdjaokdklbidaaa.Nx Go.RowKit
theorem sz_IntS {N : Nat} (hN : Big N) (x : Den (.sl I)) (g : good (.sl I) x) : SzOk (x_laws_szIntS N x) (okz (.sl I) x) :=
  (SzOk.len g.1).mono fun h => ⟨h, fun _ _ => trivial⟩
theorem sz_Item {N : Nat} (hN : Big N) (x : Den tItem) (g : good tItem x) : SzOk (x_laws_szItem N x) (okz tItem x) :=
  (SzOk.len g.1).mono fun h => by
    repeat' (first | exact trivial | assumption | refine And.intro ?_ ?_)
theorem sz_ItemS {N : Nat} (hN : Big N) (x : Den (.sl tItem)) (g : good (.sl tItem) x) : SzOk (x_laws_szItemS N x) (okz (.sl tItem) x) :=
  sz_rows g (f := x_laws_szItem N) (fun y gy => sz_Item hN y gy) hN (fun _ _ _ _ => rfl)
theorem sz_Shelf {N : Nat} (hN : Big N) (x : Den tShelf) (g : good tShelf x) : SzOk (x_laws_szShelf N x) (okz tShelf x) :=
  (SzOk.last (sz_ItemS hN _ g.2)).mono fun h => by
    repeat' (first | exact trivial | assumption | refine And.intro ?_ ?_)
theorem sz_ShelfS {N : Nat} (hN : Big N) (x : Den (.sl tShelf)) (g : good (.sl tShelf) x) : SzOk (x_laws_szShelfS N x) (okz (.sl tShelf) x) :=
  sz_rows g (f := x_laws_szShelf N) (fun y gy => sz_Shelf hN y gy) hN (fun _ _ _ _ => rfl)
theorem sz_Peer {N : Nat} (hN : Big N) (x : Den tPeer) (g : good tPeer x) : SzOk (x_laws_szPeer N x) (okz tPeer x) :=
  (SzOk.bind (sz_IntS hN _ g.2.2.2.1) (SzOk.bind (sz_IntS hN _ g.2.2.2.2.1) (SzOk.last (sz_ShelfS hN _ g.2.2.2.2.2)))).mono fun h => by
    obtain ⟨h0, h1, h2⟩ := h; repeat' (first | exact trivial | assumption | refine And.intro ?_ ?_)
theorem to_IntS {N : Nat} (hN : Big N) (x : Den (.sl I)) (h : okz (.sl I) x) : x_laws_toIntS N x = some x :=
  to_rows h (f := fun y => some y) (fun y hy => rfl) hN (by decide) (fun _ _ _ _ => rfl)
theorem to_Item {N : Nat} (hN : Big N) (x : Den tItem) (h : okz tItem x) : x_laws_toItem N x = some x := rfl
theorem to_ItemS {N : Nat} (hN : Big N) (x : Den (.sl tItem)) (h : okz (.sl tItem) x) : x_laws_toItemS N x = some x :=
  to_rows h (f := x_laws_toItem N) (fun y hy => to_Item hN y hy) hN (by decide) (fun _ _ _ _ => rfl)
theorem to_Shelf {N : Nat} (hN : Big N) (x : Den tShelf) (h : okz tShelf x) : x_laws_toShelf N x = some x := by
  unfold x_laws_toShelf
  simp only [to_ItemS hN _ h.2, Option.bind_some] <;> rfl
theorem to_ShelfS {N : Nat} (hN : Big N) (x : Den (.sl tShelf)) (h : okz (.sl tShelf) x) : x_laws_toShelfS N x = some x :=
  to_rows h (f := x_laws_toShelf N) (fun y hy => to_Shelf hN y hy) hN (by decide) (fun _ _ _ _ => rfl)
theorem to_Peer {N : Nat} (hN : Big N) (x : Den tPeer) (h : okz tPeer x) : x_laws_toPeer N x = some x := by
  unfold x_laws_toPeer
  simp only [to_IntS hN _ h.2.2.2.1, to_IntS hN _ h.2.2.2.2.1, to_ShelfS hN _ h.2.2.2.2.2, Option.bind_some] <;> rfl
theorem eq_Item {N : Nat} (hN : Big N) (x : Den tItem) (h : okz tItem x) : x_laws_eqItem N x x = some true := by
  unfold x_laws_eqItem
  simp
theorem eq_ItemS {N : Nat} (hN : Big N) (x : Den (.sl tItem)) (h : okz (.sl tItem) x) : x_laws_eqItemS N x x = some true :=
  eq_rows h (f := x_laws_eqItem N) (fun y hy => eq_Item hN y hy) hN (fun _ _ _ _ => rfl)
theorem eq_IntS {N : Nat} (hN : Big N) (x : Den (.sl I)) (h : okz (.sl I) x) : x_laws_eqIntS N x x = some true :=
  eq_rows h (f := fun y z => some (decide (y = z))) (fun y hy => by simp) hN (fun _ _ _ _ => rfl)
theorem eq_Shelf {N : Nat} (hN : Big N) (x : Den tShelf) (h : okz tShelf x) : x_laws_eqShelf N x x = some true := by
  unfold x_laws_eqShelf
  simp [eq_ItemS hN _ h.2]
theorem eq_ShelfS {N : Nat} (hN : Big N) (x : Den (.sl tShelf)) (h : okz (.sl tShelf) x) : x_laws_eqShelfS N x x = some true :=
  eq_rows h (f := x_laws_eqShelf N) (fun y hy => eq_Shelf hN y hy) hN (fun _ _ _ _ => rfl)
theorem eq_Peer {N : Nat} (hN : Big N) (x : Den tPeer) (h : okz tPeer x) : x_laws_eqPeer N x x = some true := by
  unfold x_laws_eqPeer
  simp [eq_IntS hN _ h.2.2.2.1, eq_IntS hN _ h.2.2.2.2.1, eq_ShelfS hN _ h.2.2.2.2.2]
end Go.Proofs.Ytdjaokdklbidaaa.C

namespace Go.Proofs.Ytdjaokdklbidaaa.C
open Go Go.Proofs.Ytdjaokdklbidaaa.Nx Go.RowKit
set_option linter.unusedVariables false
set_option linter.unusedSimpArgs false

/-- A number marked. -/
def mkInt (x : Int) (k : Int) : Int × Int := (k, k + 1)
theorem grow_Int : Grow (fun _ : Int => True) mkInt 1 := fun x k _ => ⟨by unfold mkInt; simp; omega, by unfold mkInt; simp⟩

theorem mk_IntS {N : Nat} (hN : Big N) (L : List Int) (hL : L.length ≤ 1048576) (k : Int) (h0 : 0 ≤ k) (hk : k + ((1 * L.length : Nat) : Int) ≤ 9223372036854775806) : x_laws_markIntS N L k = some ((mkL mkInt L k).2, (mkL mkInt L k).1, ()) := by
  have hN' : 1099511627776 ≤ N := hN
  have e := mark_rows (B := B_laws_markIntS_L0 N (fun (x1, x2) => some (x2, x1, ())) (fun ρ3 => some (ρ3))) (kx := fun s => some (s.2, s.1, ())) grow_Int
    (fun rec_ pre x post k _ h0 hk hl => by
      show (bif _ then _ else _) = _
      simp only [at_lt, at_le, Int.toNat_natCast, st0, Bool.and_self, cond_true, mkInt]
      rw [w64_up (Nat.le_refl _) (by omega), w64 (x := k + 1) (by omega) (by omega)])
    (fun rec_ L k => by
      show (bif _ then _ else _) = _
      simp only [at_end, cond_false])
    L [] k N (by omega) (fun _ _ => trivial) h0 hk (by simp; omega)
  unfold x_laws_markIntS
  refine (congrArg (fun o => Option.bind o _) e).trans ?_
  rw [Option.bind_some]
  dsimp only
  rw [List.nil_append, beq_len (mkL_len _ _ _)]; rfl

/-- A mark's text. -/
def mtx (N : Nat) (k : Int) : ByteArray := (x_laws_markText N k).getD ByteArray.empty
theorem mtx_some {N : Nat} (hN : Big N) (k : Int) (hk : k ≤ 9223372036854775807) : x_laws_markText N k = some (mtx N k) := by
  have hN' : 1099511627776 ≤ N := hN
  have : ∃ r, x_laws_markText N k = some r := by
    unfold x_laws_markText
    by_cases h : k ≤ 0
    · rw [dT h]; exact ⟨_, rfl⟩
    · rw [dF h]
      refine digits (kx := fun x1 => (bif (decide ((⟨#[109]⟩ : ByteArray).size + x1.size ≤ 4611686018427387904)) then some ((⟨#[109]⟩ : ByteArray) ++ x1) else none)) (fun rec_ s0 s3 => rfl) (fun s hs => ?_) 19 k ByteArray.empty N (by omega) (by omega) (by omega) hk (by decide)
      have : (⟨#[109]⟩ : ByteArray).size = 1 := rfl
      rw [dT (by omega)]; exact ⟨_, rfl⟩
  obtain ⟨r, h⟩ := this
  unfold mtx
  rw [h]; rfl

/-- An item marked. -/
def mkItem (N : Nat) (x : Den tItem) (k : Int) : Den tItem × Int := ((mtx N k, decide ((k + 1).tmod 3 = 0)), k + 2)
theorem grow_Item (N : Nat) : Grow (fun _ : Den tItem => True) (mkItem N) 2 := fun x k _ => ⟨by unfold mkItem; simp; omega, by unfold mkItem; simp⟩

theorem mk_ItemS {N : Nat} (hN : Big N) (L : List (Den tItem)) (hL : L.length ≤ 1048576) (k : Int) (h0 : 0 ≤ k) (hk : k + ((2 * L.length : Nat) : Int) ≤ 9223372036854775806) : x_laws_markItemS N L k = some ((mkL (mkItem N) L k).2, (mkL (mkItem N) L k).1, ()) := by
  have hN' : 1099511627776 ≤ N := hN
  have e := mark_rows (B := B_laws_markItemS_L0 N (fun (x2, x3) => some (x3, x2, ())) (fun ρ3 => some (ρ3))) (kx := fun s => some (s.2, s.1, ())) (grow_Item N)
    (fun rec_ pre x post k _ h0 hk hl => by
      show (bif _ then _ else _) = _
      rw [mtx_some hN k (by omega), Option.bind_some, w64 (x := k + 1) (by omega) (by omega), w64 (x := k + 1 + 1) (by omega) (by omega), w64_up (Nat.le_refl _) (by omega)]
      simp only [at_lt, at_le, Int.toNat_natCast, st0, gD0, Bool.and_self, cond_true, mkItem]
      rw [Int.add_assoc]; rfl)
    (fun rec_ L k => by
      show (bif _ then _ else _) = _
      simp only [at_end, cond_false])
    L [] k N (by omega) (fun _ _ => trivial) h0 hk (by simp; omega)
  unfold x_laws_markItemS
  refine (congrArg (fun o => Option.bind o _) e).trans ?_
  rw [Option.bind_some]
  dsimp only
  rw [List.nil_append, beq_len (mkL_len _ _ _)]; rfl

theorem hd_ItemS {N : Nat} (hN : Big N) (L : List (Den tItem)) (hL : L.length ≤ 1048576) (k : Int) (h0 : 0 ≤ k) (hk : k + ((2 * L.length : Nat) : Int) ≤ 9223372036854775806) : x_laws_heldItemS N (mkL (mkItem N) L k).1 k = some (mkL (mkItem N) L k).2 := by
  have hN' : 1099511627776 ≤ N := hN
  exact held_rows (B := B_laws_heldItemS_L0 N (fun x2 => some x2) (fun ρ3 => some (ρ3))) (kx := fun s => some s) (grow_Item N)
    (fun rec_ pre x post k _ h0 hk hl => by
      show (bif _ then _ else _) = _
      rw [mtx_some hN k (by omega), w64 (x := k + 1) (by omega) (by omega), w64 (x := k + 1 + 1) (by omega) (by omega), w64_up (Nat.le_refl _) (by omega)]
      have e1 : (mkItem N x k).1.1 = mtx N k := rfl
      have e2 : (mkItem N x k).1.2 = decide ((k + 1).tmod 3 = 0) := rfl
      have e3 : (mkItem N x k).2 = k + 1 + 1 := by rw [Int.add_assoc]; rfl
      simp only [at_lt, at_le, Int.toNat_natCast, gD0, Bool.and_self, cond_true, e1, e2, e3, Option.bind_some, decide_true, Bool.not_true, cond_false, beq_self_eq_true])
    (fun rec_ L k => by
      show (bif _ then _ else _) = _
      simp only [at_end, cond_false])
    L [] k N (by omega) (fun _ _ => trivial) h0 hk (by simp; omega)

/-- A shelf marked. -/
def mkShelf (N : Nat) (x : Den tShelf) (k : Int) : Den tShelf × Int := ((k, (mkL (mkItem N) x.2 (k + 1)).1), (mkL (mkItem N) x.2 (k + 1)).2)
theorem grow_Shelf (N : Nat) : Grow (okz tShelf) (mkShelf N) 2097153 := fun x k h => by
  have := mkL_grow (grow_Item N) x.2 (k + 1) (fun _ _ => trivial)
  have h2 : x.2.length ≤ 1048576 := h.2.1
  unfold mkShelf
  dsimp only
  omega

theorem mk_ShelfS {N : Nat} (hN : Big N) (L : List (Den tShelf)) (hL : okz (.sl tShelf) L) (k : Int) (h0 : 0 ≤ k) (hk : k + ((2097153 * L.length : Nat) : Int) ≤ 9223372036854775806) : x_laws_markShelfS N L k = some ((mkL (mkShelf N) L k).2, (mkL (mkShelf N) L k).1, ()) := by
  have hN' : 1099511627776 ≤ N := hN
  have hl := hL.1
  have e := mark_rows (B := B_laws_markShelfS_L0 N (fun (x2, x3) => some (x3, x2, ())) (fun ρ3 => some (ρ3))) (kx := fun s => some (s.2, s.1, ())) (grow_Shelf N)
    (fun rec_ pre x post k hx h0 hk hl => by
      have hx2 : x.2.length ≤ 1048576 := hx.2.1
      show (bif _ then _ else _) = _
      rw [w64 (x := k + 1) (by omega) (by omega), w64_up (Nat.le_refl _) (by omega)]
      simp only [at_lt, at_le, Int.toNat_natCast, st0, gD0, Bool.and_self, cond_true, Nat.beq_refl, mk_ItemS hN x.2 hx2 (k + 1) (by omega) (by omega), Option.bind_some, mkShelf])
    (fun rec_ L k => by
      show (bif _ then _ else _) = _
      simp only [at_end, cond_false])
    L [] k N (by omega) hL.2 h0 hk (by simp; omega)
  unfold x_laws_markShelfS
  refine (congrArg (fun o => Option.bind o _) e).trans ?_
  rw [Option.bind_some]
  dsimp only
  rw [List.nil_append, beq_len (mkL_len _ _ _)]; rfl

theorem mk_Peer {N : Nat} (hN : Big N) (p : Den tPeer) (hp : okz tPeer p) (k : Int) (h0 : 0 ≤ k) (hk : k ≤ 1048576) : ∃ r, x_laws_markPeer N p k = some r ∧ 0 ≤ r.1 := by
  obtain ⟨_, _, _, h1, h2, h3⟩ := hp
  have hl1 := h1.1
  have hl2 := h2.1
  have g1 := mkL_grow grow_Int p.2.2.2.1 k fun _ _ => trivial
  have g2 := mkL_grow grow_Int p.2.2.2.2.1 (mkL mkInt p.2.2.2.1 k).2 fun _ _ => trivial
  have g3 := mkL_grow (grow_Shelf N) p.2.2.2.2.2 (mkL mkInt p.2.2.2.2.1 (mkL mkInt p.2.2.2.1 k).2).2 h3.2
  unfold x_laws_markPeer
  rw [mk_IntS hN _ hl1 k h0 (by omega), Option.bind_some, mk_IntS hN _ hl2 _ (by dsimp only; omega) (by dsimp only; omega), Option.bind_some, mk_ShelfS hN _ h3 _ (by dsimp only; omega) (by dsimp only; omega), Option.bind_some, Option.bind_some]
  dsimp only
  rw [beq_len (mkL_len _ _ _), beq_len (mkL_len _ _ _), beq_len (mkL_len _ _ _)]
  exact ⟨_, rfl, by dsimp only; omega⟩
end Go.Proofs.Ytdjaokdklbidaaa.C

namespace Go.Proofs.Ytdjaokdklbidaaa.C
open Go Go.Proofs.Ytdjaokdklbidaaa.Nx Go.RowKit
set_option linter.unusedVariables false
set_option linter.unusedSimpArgs false

/-- What is kept under a key. -/
def fShelf (key : Int) : List (Den tShelf) → List (Den tItem)
  | [] => []
  | s :: ss => bif decide (s.1 = key) then s.2 else fShelf key ss

theorem spec_ShelfOf {N : Nat} (hN : Big N) (p : Den tPeer) (hp : okz tPeer p) (key : Int) : x_spec_ShelfOf N p key = some (fShelf key p.2.2.2.2.2) := by
  have hN' : 1099511627776 ≤ N := hN
  have h3 : okz (.sl tShelf) p.2.2.2.2.2 := hp.2.2.2.2.2
  have hl := h3.1
  unfold x_spec_ShelfOf
  refine iter_row p.2.2.2.2.2 (fun i => (key, p, (i : Int))) (fun i l => some (fShelf key l)) (fun i hi rec_ h => ?_) (fun rec_ => ?_) (by omega)
  · have h4 : (p.2.2.2.2.2[i]).2.length ≤ 1048576 := (h3.2 _ (List.getElem_mem hi)).2.1
    show (bif _ then _ else _) = _
    rw [lt_rows _ hi, le_rows i, getD_at _ hi, w64_up (Nat.le_refl i) (by omega), h]
    simp only [fShelf, List.length_nil, List.nil_append]
    rw [dT (p := (0 + (p.2.2.2.2.2[i]).2.length) * 24 ≤ 140737488355328) (by omega)]
    cases decide (p.2.2.2.2.2[i].1 = key) <;> rfl
  · show (bif _ then _ else _) = _
    rw [dF (Int.lt_irrefl _)]; rfl

theorem clone_Item (N : Nat) (L : List (Den tItem)) (hL : L.length ≤ 1048576) : x_slices_Clone_impl_Item_impl_Item N L = some L := by
  unfold x_slices_Clone_impl_Item_impl_Item
  simp only [List.length_nil, List.nil_append]
  rw [dT (p := (0 + L.length) * 24 ≤ 140737488355328) (by omega)]
  by_cases h : L.length = 0
  · obtain rfl : L = [] := List.length_eq_zero_iff.1 h
    rw [dT h]
    exact agree_self _
  · rw [dF h]; rfl

theorem fShelf_find (key : Int) : ∀ (L : List (Den tShelf)) (i : Nat), findI (fun s : Den tShelf => decide (s.1 = key)) i L < 0 ∧ fShelf key L = [] ∨ ∃ j, j < L.length ∧ findI (fun s : Den tShelf => decide (s.1 = key)) i L = ((i + j : Nat) : Int) ∧ fShelf key L = (L.getD j (dft tShelf)).2
  | [], i => .inl ⟨by unfold findI; omega, rfl⟩
  | s :: ss, i => by
    unfold fShelf findI
    cases decide (s.1 = key) with
    | true => exact .inr ⟨0, by simp, rfl, rfl⟩
    | false =>
      simp only [cond_false]
      rcases fShelf_find key ss (i + 1) with h | ⟨j, h1, h2, h3⟩
      · exact .inl h
      · exact .inr ⟨j + 1, by simp; omega, by rw [h2]; congr 1; omega, by rw [h3]; rfl⟩

theorem impl_shelfAt {N : Nat} (hN : Big N) (p : Den tPeer) (hp : okz tPeer p) (key : Int) : x_impl_shelfAt N p key = some (findI (fun s : Den tShelf => decide (s.1 = key)) 0 p.2.2.2.2.2) := by
  have h3 : okz (.sl tShelf) p.2.2.2.2.2 := hp.2.2.2.2.2
  have hl := h3.1
  have := index_func (d := dft tShelf) (L := p.2.2.2.2.2) (by omega) key (f := fun x => x_impl_shelfAt_1 N x key) (fun s : Den tShelf => decide (s.1 = key)) (fun x _ => rfl) hN (B := B_slices_IndexFunc_impl_Shelf_impl_Shelf__impl_shelfAt_1_L0 N (fun _ => some (-1 : Int)) (fun ρ2 => some (ρ2))) (fun _ _ _ _ => rfl)
  unfold x_impl_shelfAt x_slices_IndexFunc_impl_Shelf_impl_Shelf__impl_shelfAt_1
  rw [this, Option.bind_some]

theorem impl_ShelfOf {N : Nat} (hN : Big N) (p : Den tPeer) (hp : okz tPeer p) (key : Int) : x_impl_ShelfOf N p key = some (fShelf key p.2.2.2.2.2) := by
  have h3 : okz (.sl tShelf) p.2.2.2.2.2 := hp.2.2.2.2.2
  have hl := h3.1
  unfold x_impl_ShelfOf
  rw [impl_shelfAt hN p hp key, Option.bind_some]
  rcases fShelf_find key p.2.2.2.2.2 0 with ⟨h1, h2⟩ | ⟨j, h1, h2, h4⟩
  · rw [dT h1, h2]; rfl
  · rw [h2, h4, Nat.zero_add, dF (by omega), lt_rows _ h1, le_rows j, Int.toNat_natCast]
    have hg : p.2.2.2.2.2.getD j (dft tShelf) = p.2.2.2.2.2[j] := by simp [List.getD, h1]
    have h5 : (p.2.2.2.2.2[j]).2.length ≤ 1048576 := (h3.2 _ (List.getElem_mem h1)).2.1
    simp only [cond_false, cond_true, Bool.and_self]
    rw [clone_Item N _ (by rw [hg]; exact h5)]; rfl

theorem fShelf_ok {key : Int} : ∀ {L : List (Den tShelf)}, (∀ s ∈ L, okz tShelf s) → okz (.sl tItem) (fShelf key L)
  | [], _ => ⟨Nat.zero_le _, fun _ h => by cases h⟩
  | s :: ss, h => by
    unfold fShelf
    cases decide (s.1 = key)
    · exact fShelf_ok fun x hx => h x (by simp [hx])
    · exact (h s (by simp)).2
end Go.Proofs.Ytdjaokdklbidaaa.C

namespace Go.Proofs.Ytdjaokdklbidaaa.C
open Go Go.Proofs.Ytdjaokdklbidaaa.Nx Go.RowKit
set_option linter.unusedVariables false
set_option linter.unusedSimpArgs false

theorem pure_FnExactShelfOf (a0 : Den tPeer) (a1 : Den I) (g0 : good tPeer a0) (g1 : good I a1) : ∃ N, x_laws_FnExactShelfOf N a0 a1 = some true := by
  refine ⟨1099511627776, ?_⟩
  have hN : Big 1099511627776 := Nat.le_refl _
  generalize 1099511627776 = N at hN
  unfold x_laws_FnExactShelfOf
  obtain ⟨k, e, hk⟩ := sz_Peer hN a0 g0 1048576 (by omega) (by omega)
  rw [e, Option.bind_some]
  rcases hk with hk | ⟨h1, h2, h⟩
  · rw [dT hk]; rfl
  · rw [dF (by omega)]
    obtain ⟨r, hr, hr0⟩ := mk_Peer hN a0 h 1 (by omega) (by omega)
    have hs : okz (.sl tItem) (fShelf a1 a0.2.2.2.2.2) := fShelf_ok h.2.2.2.2.2.2
    have hg := mkL_grow (grow_Item N) (fShelf a1 a0.2.2.2.2.2) 1 (fun _ _ => trivial)
    simp only [cond_false, to_Peer hN a0 h, Option.bind_some, spec_ShelfOf hN a0 h, impl_ShelfOf hN a0 h, eq_Peer hN a0 h, eq_ItemS hN _ hs, hr, mk_ItemS hN _ hs.1 1 (by omega) (by omega), hd_ItemS hN _ hs.1 1 (by omega) (by omega), Bool.not_true]
    rw [dF (by omega), dF (by omega), dT trivial]
    rfl
end Go.Proofs.Ytdjaokdklbidaaa.C
