/- The data that the two functions compute are alike, for all arguments that memory can hold. -/
import Derived.Test.YtcmlapepofgkpaaHFnExactHereOf
set_option linter.unusedVariables false
set_option linter.unusedSimpArgs false
namespace Go.Proofs.Ytcmlapepofgkpaa.C
open Go Go.Proofs.Ytcmlapepofgkpaa.Nx Go.RowKit
theorem sz_IntS {N : Nat} (hN : Big N) (x : Den (.sl I)) (g : good (.sl I) x) : SzOk (x_laws_szIntS N x) (okz (.sl I) x) :=
  (SzOk.len g.1).mono fun h => ⟨h, fun _ _ => trivial⟩
theorem sz_Item {N : Nat} (hN : Big N) (x : Den tItem) (g : good tItem x) : SzOk (x_laws_szItem N x) (okz tItem x) :=
  (SzOk.len g.1).mono fun h => by
    repeat' (first | exact trivial | assumption | refine And.intro ?_ ?_)
theorem sz_ItemS {N : Nat} (hN : Big N) (x : Den (.sl tItem)) (g : good (.sl tItem) x) : SzOk (x_laws_szItemS N x) (okz (.sl tItem) x) :=
  sz_rows g (f := x_laws_szItem N) (fun y gy => sz_Item hN y gy) hN (fun _ _ _ _ => rfl)
theorem sz_Shelf {N : Nat} (hN : Big N) (x : Den tShelf) (g : good tShelf x) : SzOk (x_laws_szShelf N x) (okz tShelf x) :=
  (SzOk.last (sz_ItemS hN _ g.2)).mono fun h => by
    repeat' (first | exact trivial | assumption | refine And.intro ?_ ?_)
theorem sz_ShelfS {N : Nat} (hN : Big N) (x : Den (.sl tShelf)) (g : good (.sl tShelf) x) : SzOk (x_laws_szShelfS N x) (okz (.sl tShelf) x) :=
  sz_rows g (f := x_laws_szShelf N) (fun y gy => sz_Shelf hN y gy) hN (fun _ _ _ _ => rfl)
theorem sz_Peer {N : Nat} (hN : Big N) (x : Den tPeer) (g : good tPeer x) : SzOk (x_laws_szPeer N x) (okz tPeer x) :=
  (SzOk.bind (sz_IntS hN _ g.2.2.2.1) (SzOk.bind (sz_IntS hN _ g.2.2.2.2.1) (SzOk.last (sz_ShelfS hN _ g.2.2.2.2.2)))).mono fun h => by
    obtain ⟨h0, h1, h2⟩ := h; repeat' (first | exact trivial | assumption | refine And.intro ?_ ?_)
theorem sz_PeerS {N : Nat} (hN : Big N) (x : Den (.sl tPeer)) (g : good (.sl tPeer) x) : SzOk (x_laws_szPeerS N x) (okz (.sl tPeer) x) :=
  sz_rows g (f := x_laws_szPeer N) (fun y gy => sz_Peer hN y gy) hN (fun _ _ _ _ => rfl)
theorem sz_Ring {N : Nat} (hN : Big N) (x : Den tRing) (g : good tRing x) : SzOk (x_laws_szRing N x) (okz tRing x) :=
  (SzOk.last (sz_PeerS hN _ g)).mono fun h => by
    repeat' (first | exact trivial | assumption | refine And.intro ?_ ?_)
theorem to_IntS {N : Nat} (hN : Big N) (x : Den (.sl I)) (h : okz (.sl I) x) : x_laws_toIntS N x = some x :=
  to_rows h (f := fun y => some y) (fun y hy => rfl) hN (by decide) (fun _ _ _ _ => rfl)
theorem to_Item {N : Nat} (hN : Big N) (x : Den tItem) (h : okz tItem x) : x_laws_toItem N x = some x := rfl
theorem to_ItemS {N : Nat} (hN : Big N) (x : Den (.sl tItem)) (h : okz (.sl tItem) x) : x_laws_toItemS N x = some x :=
  to_rows h (f := x_laws_toItem N) (fun y hy => to_Item hN y hy) hN (by decide) (fun _ _ _ _ => rfl)
theorem to_Shelf {N : Nat} (hN : Big N) (x : Den tShelf) (h : okz tShelf x) : x_laws_toShelf N x = some x := by
  unfold x_laws_toShelf
  simp only [to_ItemS hN _ h.2, Option.bind_some] <;> rfl
theorem to_ShelfS {N : Nat} (hN : Big N) (x : Den (.sl tShelf)) (h : okz (.sl tShelf) x) : x_laws_toShelfS N x = some x :=
  to_rows h (f := x_laws_toShelf N) (fun y hy => to_Shelf hN y hy) hN (by decide) (fun _ _ _ _ => rfl)
theorem to_Peer {N : Nat} (hN : Big N) (x : Den tPeer) (h : okz tPeer x) : x_laws_toPeer N x = some x := by
  unfold x_laws_toPeer
  simp only [to_IntS hN _ h.2.2.2.1, to_IntS hN _ h.2.2.2.2.1, to_ShelfS hN _ h.2.2.2.2.2, Option.bind_some] <;> rfl
theorem to_PeerS {N : Nat} (hN : Big N) (x : Den (.sl tPeer)) (h : okz (.sl tPeer) x) : x_laws_toPeerS N x = some x :=
  to_rows h (f := x_laws_toPeer N) (fun y hy => to_Peer hN y hy) hN (by decide) (fun _ _ _ _ => rfl)
theorem to_Ring {N : Nat} (hN : Big N) (x : Den tRing) (h : okz tRing x) : x_laws_toRing N x = some x := by
  unfold x_laws_toRing
  simp only [to_PeerS hN _ h, Option.bind_some] <;> rfl
theorem eq_IntS {N : Nat} (hN : Big N) (x : Den (.sl I)) (h : okz (.sl I) x) : x_laws_eqIntS N x x = some true :=
  eq_rows h (f := fun y z => some (decide (y = z))) (fun y hy => by simp) hN (fun _ _ _ _ => rfl)
theorem eq_Item {N : Nat} (hN : Big N) (x : Den tItem) (h : okz tItem x) : x_laws_eqItem N x x = some true := by
  unfold x_laws_eqItem
  simp
theorem eq_ItemS {N : Nat} (hN : Big N) (x : Den (.sl tItem)) (h : okz (.sl tItem) x) : x_laws_eqItemS N x x = some true :=
  eq_rows h (f := x_laws_eqItem N) (fun y hy => eq_Item hN y hy) hN (fun _ _ _ _ => rfl)
theorem eq_Shelf {N : Nat} (hN : Big N) (x : Den tShelf) (h : okz tShelf x) : x_laws_eqShelf N x x = some true := by
  unfold x_laws_eqShelf
  simp [eq_ItemS hN _ h.2]
theorem eq_ShelfS {N : Nat} (hN : Big N) (x : Den (.sl tShelf)) (h : okz (.sl tShelf) x) : x_laws_eqShelfS N x x = some true :=
  eq_rows h (f := x_laws_eqShelf N) (fun y hy => eq_Shelf hN y hy) hN (fun _ _ _ _ => rfl)
theorem eq_Peer {N : Nat} (hN : Big N) (x : Den tPeer) (h : okz tPeer x) : x_laws_eqPeer N x x = some true := by
  unfold x_laws_eqPeer
  simp [eq_IntS hN _ h.2.2.2.1, eq_IntS hN _ h.2.2.2.2.1, eq_ShelfS hN _ h.2.2.2.2.2]
theorem eq_PeerS {N : Nat} (hN : Big N) (x : Den (.sl tPeer)) (h : okz (.sl tPeer) x) : x_laws_eqPeerS N x x = some true :=
  eq_rows h (f := x_laws_eqPeer N) (fun y hy => eq_Peer hN y hy) hN (fun _ _ _ _ => rfl)
theorem eq_Ring {N : Nat} (hN : Big N) (x : Den tRing) (h : okz tRing x) : x_laws_eqRing N x x = some true := by
  unfold x_laws_eqRing
  simp [eq_PeerS hN _ h]
end Go.Proofs.Ytcmlapepofgkpaa.C

namespace Go.Proofs.Ytcmlapepofgkpaa.C
open Go Go.Proofs.Ytcmlapepofgkpaa.Nx Go.RowKit
set_option linter.unusedVariables false
set_option linter.unusedSimpArgs false

/-- Where somebody stands that is there. -/
def fPeerAt (n : Int) : Nat → List (Den tPeer) → Int
  | _, [] => -1
  | i, p :: ps => bif p.2.1 && decide (p.1 = n) then i else fPeerAt n (i + 1) ps

end Go.Proofs.Ytcmlapepofgkpaa.C

namespace Go.Proofs.Ytcmlapepofgkpaa.C
open Go Go.Proofs.Ytcmlapepofgkpaa.Nx Go.RowKit
set_option linter.unusedVariables false
set_option linter.unusedSimpArgs false

theorem fPeerAt_or (n : Int) : ∀ (l : List (Den tPeer)) (i : Nat), fPeerAt n i l = -1 ∨ ∃ j, i ≤ j ∧ j < i + l.length ∧ fPeerAt n i l = (j : Int)
  | [], i => .inl rfl
  | p :: ps, i => by
    unfold fPeerAt
    cases (p.2.1 && decide (p.1 = n))
    · rcases fPeerAt_or n ps (i + 1) with h | ⟨j, h1, h2, h3⟩
      · exact .inl h
      · exact .inr ⟨j, by omega, by simp only [List.length_cons]; omega, h3⟩
    · exact .inr ⟨i, Nat.le_refl _, by simp only [List.length_cons]; omega, rfl⟩

/-- The first of a row who is there. -/
def fNext (L : List (Den tPeer)) : List Int → Int
  | [] => -1
  | x :: xs => bif decide (0 ≤ fPeerAt x 0 L) then x else fNext L xs

/-- Who follows. -/
def fNextOf (L : List (Den tPeer)) (n : Int) : Int :=
  bif decide (fPeerAt n 0 L < 0) then -1 else fNext L (L.getD (fPeerAt n 0 L).toNat (dft tPeer)).2.2.2.1

theorem iter_one {σ R : Type} {B : (σ → Option R) → σ → Option R} {N : Nat} (hN : Big N) (s : σ) : ∃ M, iter B N s = B (iter B M) s := by
  have hN' : 1099511627776 ≤ N := hN
  obtain ⟨M, rfl⟩ : ∃ M, N = M + 1 := ⟨N - 1, by omega⟩
  exact ⟨M, rfl⟩

end Go.Proofs.Ytcmlapepofgkpaa.C

namespace Go.Proofs.Ytcmlapepofgkpaa.C
open Go Go.Proofs.Ytcmlapepofgkpaa.Nx Go.RowKit
set_option linter.unusedVariables false
set_option linter.unusedSimpArgs false

/-- A number marked. -/
def mkInt (x : Int) (k : Int) : Int × Int := (k, k + 1)
theorem grow_Int : Grow (fun _ : Int => True) mkInt 1 := fun x k _ => ⟨by unfold mkInt; simp; omega, by unfold mkInt; simp⟩

theorem mk_IntS {N : Nat} (hN : Big N) (L : List Int) (hL : L.length ≤ 1048576) (k : Int) (h0 : 0 ≤ k) (hk : k + ((1 * L.length : Nat) : Int) ≤ 9223372036854775806) : x_laws_markIntS N L k = some ((mkL mkInt L k).2, (mkL mkInt L k).1, ()) := by
  have hN' : 1099511627776 ≤ N := hN
  have e := mark_rows (B := B_laws_markIntS_L0 N (fun (x1, x2) => some (x2, x1, ())) (fun ρ3 => some (ρ3))) (kx := fun s => some (s.2, s.1, ())) grow_Int
    (fun rec_ pre x post k _ h0 hk hl => by
      show (bif _ then _ else _) = _
      simp only [at_lt, at_le, Int.toNat_natCast, st0, Bool.and_self, cond_true, mkInt]
      rw [w64_up (Nat.le_refl _) (by omega), w64 (x := k + 1) (by omega) (by omega)])
    (fun rec_ L k => by
      show (bif _ then _ else _) = _
      simp only [at_end, cond_false])
    L [] k N (by omega) (fun _ _ => trivial) h0 hk (by simp; omega)
  unfold x_laws_markIntS
  refine (congrArg (fun o => Option.bind o _) e).trans ?_
  rw [Option.bind_some]
  dsimp only
  rw [List.nil_append, beq_len (mkL_len _ _ _)]; rfl

theorem hd_IntS {N : Nat} (hN : Big N) (L : List Int) (hL : L.length ≤ 1048576) (k : Int) (h0 : 0 ≤ k) (hk : k + ((1 * L.length : Nat) : Int) ≤ 9223372036854775806) : x_laws_heldIntS N (mkL mkInt L k).1 k = some (mkL mkInt L k).2 := by
  have hN' : 1099511627776 ≤ N := hN
  exact held_rows (B := B_laws_heldIntS_L0 N (fun x1 => some x1) (fun ρ2 => some (ρ2))) (kx := fun s => some s) grow_Int
    (fun rec_ pre x post k _ h0 hk hl => by
      show (bif _ then _ else _) = _
      have e1 : (mkInt x k).1 = k := rfl
      have e2 : (mkInt x k).2 = k + 1 := rfl
      rw [w64_up (Nat.le_refl _) (by omega), w64 (x := k + 1) (by omega) (by omega)]
      simp only [at_lt, at_le, Int.toNat_natCast, gD0, Bool.and_self, cond_true, e1, e2, decide_true, Bool.not_true, cond_false])
    (fun rec_ L k => by
      show (bif _ then _ else _) = _
      simp only [at_end, cond_false])
    L [] k N (by omega) (fun _ _ => trivial) h0 hk (by simp; omega)
end Go.Proofs.Ytcmlapepofgkpaa.C

namespace Go.Proofs.Ytcmlapepofgkpaa.C
open Go Go.Proofs.Ytcmlapepofgkpaa.Nx Go.RowKit
set_option linter.unusedVariables false
set_option linter.unusedSimpArgs false

/-- A mark's text. -/
def mtx (N : Nat) (k : Int) : ByteArray := (x_laws_markText N k).getD ByteArray.empty
theorem mtx_some {N : Nat} (hN : Big N) (k : Int) (hk : k ≤ 9223372036854775807) : x_laws_markText N k = some (mtx N k) := by
  have hN' : 1099511627776 ≤ N := hN
  have : ∃ r, x_laws_markText N k = some r := by
    unfold x_laws_markText
    by_cases h : k ≤ 0
    · rw [dT h]; exact ⟨_, rfl⟩
    · rw [dF h]
      refine digits (kx := fun x1 => (bif (decide ((⟨#[109]⟩ : ByteArray).size + x1.size ≤ 4611686018427387904)) then some ((⟨#[109]⟩ : ByteArray) ++ x1) else none)) (fun rec_ s0 s3 => rfl) (fun s hs => ?_) 19 k ByteArray.empty N (by omega) (by omega) (by omega) hk (by decide)
      have : (⟨#[109]⟩ : ByteArray).size = 1 := rfl
      rw [dT (by omega)]; exact ⟨_, rfl⟩
  obtain ⟨r, h⟩ := this
  unfold mtx
  rw [h]; rfl

/-- An item marked. -/
def mkItem (N : Nat) (x : Den tItem) (k : Int) : Den tItem × Int := ((mtx N k, decide ((k + 1).tmod 3 = 0)), k + 2)
theorem grow_Item (N : Nat) : Grow (fun _ : Den tItem => True) (mkItem N) 2 := fun x k _ => ⟨by unfold mkItem; simp; omega, by unfold mkItem; simp⟩

theorem mkI_big {N : Nat} (hN : Big N) (L : List (Den tItem)) (hL : L.length ≤ 2097152) (k : Int) (h0 : 0 ≤ k) (hk : k + ((2 * L.length : Nat) : Int) ≤ 9223372036854775806) : x_laws_markItemS N L k = some ((mkL (mkItem N) L k).2, (mkL (mkItem N) L k).1, ()) := by
  have hN' : 1099511627776 ≤ N := hN
  have e := mark_rows (B := B_laws_markItemS_L0 N (fun (x2, x3) => some (x3, x2, ())) (fun ρ3 => some (ρ3))) (kx := fun s => some (s.2, s.1, ())) (grow_Item N)
    (fun rec_ pre x post k _ h0 hk hl => by
      show (bif _ then _ else _) = _
      rw [mtx_some hN k (by omega), Option.bind_some, w64 (x := k + 1) (by omega) (by omega), w64 (x := k + 1 + 1) (by omega) (by omega), w64_up (Nat.le_refl _) (by omega)]
      simp only [at_lt, at_le, Int.toNat_natCast, st0, gD0, Bool.and_self, cond_true, mkItem]
      rw [Int.add_assoc]; rfl)
    (fun rec_ L k => by
      show (bif _ then _ else _) = _
      simp only [at_end, cond_false])
    L [] k N (by omega) (fun _ _ => trivial) h0 hk (by simp; omega)
  unfold x_laws_markItemS
  refine (congrArg (fun o => Option.bind o _) e).trans ?_
  rw [Option.bind_some]
  dsimp only
  rw [List.nil_append, beq_len (mkL_len _ _ _)]; rfl

theorem mk_ItemS {N : Nat} (hN : Big N) (L : List (Den tItem)) (hL : L.length ≤ 1048576) (k : Int) (h0 : 0 ≤ k) (hk : k + ((2 * L.length : Nat) : Int) ≤ 9223372036854775806) : x_laws_markItemS N L k = some ((mkL (mkItem N) L k).2, (mkL (mkItem N) L k).1, ()) := mkI_big hN L (by omega) k h0 hk
theorem eqI_big {N : Nat} (hN : Big N) (L : List (Den tItem)) (hl : L.length ≤ 2097152) : x_laws_eqItemS N L L = some true := by
  have hN' : 1099511627776 ≤ N := hN
  unfold x_laws_eqItemS
  rw [dT rfl]
  exact iter_to (B := B_laws_eqItemS_L0 N (fun _ => some true) (fun ρ2 => some (ρ2))) (A := Unit) (fun i _ => (L, L, (i : Int))) (fun i _ r => r = some true) L.length
    (fun i a rec_ hi h => by
      show (bif _ then _ else _) = _
      simp only [lt_rows L hi, le_rows i, Bool.and_self, cond_true]
      rw [getD_at L hi, show x_laws_eqItem N L[i] L[i] = some true by unfold x_laws_eqItem; rw [dT rfl]; simp, Option.bind_some, w64_up (Nat.le_refl i) (by omega)]
      exact h ())
    (fun a rec_ => by show (bif _ then _ else _) = _; rw [dF (Int.lt_irrefl _)]; rfl) N (by omega) ()

/-- A shelf marked. -/
def mkShelf (N : Nat) (x : Den tShelf) (k : Int) : Den tShelf × Int := ((k, (mkL (mkItem N) x.2 (k + 1)).1), (mkL (mkItem N) x.2 (k + 1)).2)
theorem grow_Shelf (N : Nat) : Grow (okz tShelf) (mkShelf N) 2097153 := fun x k h => by
  have := mkL_grow (grow_Item N) x.2 (k + 1) (fun _ _ => trivial)
  have h2 : x.2.length ≤ 1048576 := h.2.1
  unfold mkShelf
  dsimp only
  omega

theorem mk_ShelfS {N : Nat} (hN : Big N) (L : List (Den tShelf)) (hL : okz (.sl tShelf) L) (k : Int) (h0 : 0 ≤ k) (hk : k + ((2097153 * L.length : Nat) : Int) ≤ 9223372036854775806) : x_laws_markShelfS N L k = some ((mkL (mkShelf N) L k).2, (mkL (mkShelf N) L k).1, ()) := by
  have hN' : 1099511627776 ≤ N := hN
  have hl := hL.1
  have e := mark_rows (B := B_laws_markShelfS_L0 N (fun (x2, x3) => some (x3, x2, ())) (fun ρ3 => some (ρ3))) (kx := fun s => some (s.2, s.1, ())) (grow_Shelf N)
    (fun rec_ pre x post k hx h0 hk hl => by
      have hx2 : x.2.length ≤ 1048576 := hx.2.1
      show (bif _ then _ else _) = _
      rw [w64 (x := k + 1) (by omega) (by omega), w64_up (Nat.le_refl _) (by omega)]
      simp only [at_lt, at_le, Int.toNat_natCast, st0, gD0, Bool.and_self, cond_true, Nat.beq_refl, mk_ItemS hN x.2 hx2 (k + 1) (by omega) (by omega), Option.bind_some, mkShelf])
    (fun rec_ L k => by
      show (bif _ then _ else _) = _
      simp only [at_end, cond_false])
    L [] k N (by omega) hL.2 h0 hk (by simp; omega)
  unfold x_laws_markShelfS
  refine (congrArg (fun o => Option.bind o _) e).trans ?_
  rw [Option.bind_some]
  dsimp only
  rw [List.nil_append, beq_len (mkL_len _ _ _)]; rfl

end Go.Proofs.Ytcmlapepofgkpaa.C

namespace Go.Proofs.Ytcmlapepofgkpaa.C
open Go Go.Proofs.Ytcmlapepofgkpaa.Nx Go.RowKit
set_option linter.unusedVariables false
set_option linter.unusedSimpArgs false

end Go.Proofs.Ytcmlapepofgkpaa.C

namespace Go.Proofs.Ytcmlapepofgkpaa.C
open Go Go.Proofs.Ytcmlapepofgkpaa.Nx Go.RowKit
set_option linter.unusedVariables false
set_option linter.unusedSimpArgs false

/-- A peer marked. -/
def mkPeer (N : Nat) (x : Den tPeer) (k : Int) : Den tPeer × Int :=
  ((k, decide ((k + 1).tmod 3 = 0), k + 1 + 1, (mkL mkInt x.2.2.2.1 (k + 1 + 1 + 1)).1, (mkL mkInt x.2.2.2.2.1 (mkL mkInt x.2.2.2.1 (k + 1 + 1 + 1)).2).1, (mkL (mkShelf N) x.2.2.2.2.2 (mkL mkInt x.2.2.2.2.1 (mkL mkInt x.2.2.2.1 (k + 1 + 1 + 1)).2).2).1),
    (mkL (mkShelf N) x.2.2.2.2.2 (mkL mkInt x.2.2.2.2.1 (mkL mkInt x.2.2.2.1 (k + 1 + 1 + 1)).2).2).2)
theorem grow_Peer (N : Nat) : Grow (okz tPeer) (mkPeer N) 2199026401283 := fun x k h => by
  obtain ⟨_, _, _, h1, h2, h3⟩ := h
  have hl1 := h1.1
  have hl2 := h2.1
  have hl3 := h3.1
  have g1 := mkL_grow grow_Int x.2.2.2.1 (k + 1 + 1 + 1) fun _ _ => trivial
  have g2 := mkL_grow grow_Int x.2.2.2.2.1 (mkL mkInt x.2.2.2.1 (k + 1 + 1 + 1)).2 fun _ _ => trivial
  have g3 := mkL_grow (grow_Shelf N) x.2.2.2.2.2 (mkL mkInt x.2.2.2.2.1 (mkL mkInt x.2.2.2.1 (k + 1 + 1 + 1)).2).2 h3.2
  unfold mkPeer
  dsimp only
  omega

theorem mk_PeerS {N : Nat} (hN : Big N) (L : List (Den tPeer)) (hL : okz (.sl tPeer) L) (k : Int) (h0 : 0 ≤ k) (hk : k + ((2199026401283 * L.length : Nat) : Int) ≤ 9223372036854775806) : x_laws_markPeerS N L k = some ((mkL (mkPeer N) L k).2, (mkL (mkPeer N) L k).1, ()) := by
  have hN' : 1099511627776 ≤ N := hN
  have hl := hL.1
  have e := mark_rows (B := B_laws_markPeerS_L0 N (fun (x6, x7) => some (x7, x6, ())) (fun ρ8 => some (ρ8))) (kx := fun s => some (s.2, s.1, ())) (grow_Peer N)
    (fun rec_ pre x post k hx h0 hk hl => by
      obtain ⟨_, _, _, h1, h2, h3⟩ := hx
      have hl1 := h1.1
      have hl2 := h2.1
      have hl3 := h3.1
      have g1 := mkL_grow grow_Int x.2.2.2.1 (k + 1 + 1 + 1) fun _ _ => trivial
      have g2 := mkL_grow grow_Int x.2.2.2.2.1 (mkL mkInt x.2.2.2.1 (k + 1 + 1 + 1)).2 fun _ _ => trivial
      have w1 := w64 (x := k + 1) (by omega) (by omega)
      have w2 := w64 (x := k + 1 + 1) (by omega) (by omega)
      have w3 := w64 (x := k + 1 + 1 + 1) (by omega) (by omega)
      have wp := w64_up (i := pre.length) (Nat.le_refl _) (by omega)
      have m1 := mk_IntS hN x.2.2.2.1 hl1 (k + 1 + 1 + 1) (by omega) (by omega)
      have m2 := mk_IntS hN x.2.2.2.2.1 hl2 (mkL mkInt x.2.2.2.1 (k + 1 + 1 + 1)).2 (by omega) (by omega)
      have m3 := mk_ShelfS hN x.2.2.2.2.2 h3 (mkL mkInt x.2.2.2.2.1 (mkL mkInt x.2.2.2.1 (k + 1 + 1 + 1)).2).2 (by omega) (by omega)
      show (bif _ then _ else _) = _
      simp only [at_lt, at_le, Int.toNat_natCast, st0, gD0, Bool.and_self, cond_true, Nat.beq_refl, w1, w2, w3, wp, m1, m2, m3, Option.bind_some]
      rfl)
    (fun rec_ L k => by
      show (bif _ then _ else _) = _
      simp only [at_end, cond_false])
    L [] k N (by omega) hL.2 h0 hk (by simp; omega)
  unfold x_laws_markPeerS
  refine (congrArg (fun o => Option.bind o _) e).trans ?_
  rw [Option.bind_some]
  dsimp only
  rw [List.nil_append, beq_len (mkL_len _ _ _)]; rfl

theorem mk_Ring {N : Nat} (hN : Big N) (r : Den tRing) (hr : okz tRing r) : ∃ q, x_laws_markRing N r 1 = some q ∧ 0 ≤ q.1 := by
  have hl := hr.1
  have g := mkL_grow (grow_Peer N) r 1 hr.2
  unfold x_laws_markRing
  rw [mk_PeerS hN r hr 1 (by omega) (by omega), Option.bind_some, Option.bind_some]
  dsimp only
  rw [beq_len (mkL_len _ _ _)]
  exact ⟨_, rfl, by dsimp only; omega⟩

/-- Who holds. -/
def fHold (L : List (Den tPeer)) : List Int → List Int → List Int
  | out, [] => out
  | out, x :: xs => bif decide (0 ≤ fPeerAt x 0 L) && (!(out.any fun y => decide (y = x)) && decide ((out.length : Int) < 3)) then fHold L (out ++ [x]) xs else fHold L out xs

theorem fHold_full (L : List (Den tPeer)) : ∀ (xs out : List Int), ¬ (out.length : Int) < 3 → fHold L out xs = out
  | [], _, _ => rfl
  | x :: xs, out, h => by
    unfold fHold
    rw [dF h, Bool.and_false, Bool.and_false]
    exact fHold_full L xs out h

theorem fHold_len (L : List (Den tPeer)) : ∀ (xs out : List Int), (fHold L out xs).length ≤ out.length + xs.length
  | [], _ => Nat.le_refl _
  | x :: xs, out => by
    unfold fHold
    have h1 := fHold_len L xs out
    have h2 := fHold_len L xs (out ++ [x])
    simp only [List.length_append, List.length_cons, List.length_nil] at h1 h2 ⊢
    cases (decide (0 ≤ fPeerAt x 0 L) && (!(out.any fun y => decide (y = x)) && decide ((out.length : Int) < 3)))
    · simp only [cond_false]; omega
    · simp only [cond_true]; omega

/-- Those that hold what somebody has. -/
def fHolders (L : List (Den tPeer)) (n : Int) : List Int :=
  bif decide (fPeerAt n 0 L < 0) then [] else fHold L [n] (L.getD (fPeerAt n 0 L).toNat (dft tPeer)).2.2.2.1

theorem fHolders_len (L : List (Den tPeer)) (hL : okz tRing L) (n : Int) : (fHolders L n).length ≤ 1048576 := by
  have h3 : ∀ (xs out : List Int), out.length ≤ 3 → (fHold L out xs).length ≤ 3 := by
    intro xs
    induction xs with
    | nil => intro out h; exact h
    | cons x xs ih =>
      intro out h
      unfold fHold
      by_cases h4 : (out.length : Int) < 3
      · cases (decide (0 ≤ fPeerAt x 0 L) && (!(out.any fun y => decide (y = x)) && decide ((out.length : Int) < 3)))
        · exact ih out h
        · exact ih (out ++ [x]) (by simp; omega)
      · rw [dF h4, Bool.and_false, Bool.and_false]
        exact ih out h
  unfold fHolders
  cases decide (fPeerAt n 0 L < 0)
  · have := h3 (L.getD (fPeerAt n 0 L).toNat (dft tPeer)).2.2.2.1 [n] (by simp)
    simp only [cond_false]; omega
  · exact Nat.zero_le _

end Go.Proofs.Ytcmlapepofgkpaa.C

namespace Go.Proofs.Ytcmlapepofgkpaa.C
open Go Go.Proofs.Ytcmlapepofgkpaa.Nx Go.RowKit
set_option linter.unusedVariables false
set_option linter.unusedSimpArgs false

end Go.Proofs.Ytcmlapepofgkpaa.C

namespace Go.Proofs.Ytcmlapepofgkpaa.C
open Go Go.Proofs.Ytcmlapepofgkpaa.Nx Go.RowKit
set_option linter.unusedVariables false
set_option linter.unusedSimpArgs false

/-- Put in its place. -/
def insB (x : Int) : List Int → List Int
  | [] => [x]
  | y :: ys => bif decide (x < y) then x :: y :: ys else y :: insB x ys
theorem insB_perm (x : Int) : ∀ l : List Int, (insB x l).Perm (x :: l)
  | [] => List.Perm.refl _
  | y :: ys => by
    unfold insB
    cases decide (x < y)
    · exact ((insB_perm x ys).cons y).trans (List.Perm.swap x y ys)
    · exact List.Perm.refl _
theorem insB_srt (x : Int) : ∀ l : List Int, l.Pairwise (· ≤ ·) → (insB x l).Pairwise (· ≤ ·)
  | [], _ => by simp [insB]
  | y :: ys, h => by
    unfold insB
    obtain ⟨h1, h2⟩ := List.pairwise_cons.1 h
    by_cases hc : x < y
    · rw [dT hc, cond_true]
      refine List.pairwise_cons.2 ⟨fun z hz => ?_, h⟩
      rcases List.mem_cons.1 hz with rfl | hz
      · omega
      · have := h1 z hz; omega
    · rw [dF hc, cond_false]
      refine List.pairwise_cons.2 ⟨fun z hz => ?_, insB_srt x ys h2⟩
      rcases List.mem_cons.1 ((insB_perm x ys).mem_iff.1 hz) with rfl | hz
      · omega
      · exact h1 z hz
theorem insB_len (x : Int) (l : List Int) : (insB x l).length = l.length + 1 := by
  rw [(insB_perm x l).length_eq, List.length_cons]
theorem insB_last (x : Int) : ∀ l : List Int, (l.any fun y => decide (x < y)) = false → insB x l = l ++ [x]
  | [], _ => rfl
  | y :: ys, h => by
    rw [List.any_cons, Bool.or_eq_false_iff] at h
    unfold insB
    rw [h.1, cond_false, insB_last x ys h.2]; rfl

theorem srt_unique : ∀ {a b : List Int}, a.Pairwise (· ≤ ·) → b.Pairwise (· ≤ ·) → a.Perm b → a = b
  | [], b, _, _, h => (List.nil_perm.1 h).symm
  | x :: xs, [], _, _, h => by have := h.length_eq; simp at this
  | x :: xs, y :: ys, h1, h2, h => by
    obtain ⟨p1, p2⟩ := List.pairwise_cons.1 h1
    obtain ⟨q1, q2⟩ := List.pairwise_cons.1 h2
    have e1 : y ≤ x := by
      rcases List.mem_cons.1 (h.mem_iff.1 (List.mem_cons_self)) with e | e
      · omega
      · exact q1 x e
    have e2 : x ≤ y := by
      rcases List.mem_cons.1 (h.mem_iff.2 (List.mem_cons_self)) with e | e
      · omega
      · exact p1 y e
    have : x = y := by omega
    subst this
    rw [srt_unique p2 q2 (List.perm_cons _ |>.1 h)]

theorem sortI_srt (l : List Int) : (sortI l).Pairwise (· ≤ ·) := by
  have := List.pairwise_mergeSort (le := fun x y : Int => decide (x ≤ y)) (fun a b c h1 h2 => by simp only [decide_eq_true_eq] at *; omega) (fun a b => by simp only [Bool.or_eq_true, decide_eq_true_eq]; omega) l
  unfold sortI
  exact this.imp fun h => by simpa using h
theorem sortI_perm (l : List Int) : (sortI l).Perm l := List.mergeSort_perm _ _

def insAll : List Int → List Int → List Int
  | out, [] => out
  | out, x :: xs => insAll (insB x out) xs
theorem insAll_srt : ∀ (l out : List Int), out.Pairwise (· ≤ ·) → (insAll out l).Pairwise (· ≤ ·)
  | [], out, h => h
  | x :: xs, out, h => insAll_srt xs _ (insB_srt x out h)
theorem insAll_perm : ∀ (l out : List Int), (insAll out l).Perm (out ++ l)
  | [], out => by rw [List.append_nil]; exact List.Perm.refl _
  | x :: xs, out => by
    refine (insAll_perm xs _).trans ?_
    refine ((insB_perm x out).append_right xs).trans ?_
    exact List.perm_middle.symm
theorem insAll_sort (l : List Int) : insAll [] l = sortI l :=
  srt_unique (insAll_srt l [] List.Pairwise.nil) (sortI_srt l) ((insAll_perm l []).trans (sortI_perm l).symm)

/-- Who is there. -/
def fHereL : List (Den tPeer) → List Int
  | [] => []
  | p :: ps => bif p.2.1 then p.1 :: fHereL ps else fHereL ps
theorem fHereL_len : ∀ l, (fHereL l).length ≤ l.length
  | [] => Nat.le_refl _
  | p :: ps => by
    have := fHereL_len ps
    unfold fHereL
    cases p.2.1
    · simp only [cond_false, List.length_cons]; omega
    · simp only [cond_true, List.length_cons]; omega

theorem spec_ins {N : Nat} (hN : Big N) {kx kr} (L : Den tRing) {i : Nat} (hi : i < List.length (α := Den tPeer) L) (out : List Int) (ho : out.length ≤ 1048576) :
    iter (B_spec_HereOf_L2 (Ω := List Int) N kx kr) N (L, out, (i : Int), [], false, (0 : Int)) =
      kx (L, (i : Int), (bif (out.any fun y => decide ((List.getD (α := Den tPeer) L i (dft tPeer)).1 < y)) then insB (List.getD (α := Den tPeer) L i (dft tPeer)).1 out else out), (out.any fun y => decide ((List.getD (α := Den tPeer) L i (dft tPeer)).1 < y))) := by
  have hN' : 1099511627776 ≤ N := hN
  have hi' := lt_rows (α := Den tPeer) L hi
  have hg : (List.getD (α := Den tPeer) L ((i : Int)).toNat (dft tPeer)) = List.getD (α := Den tPeer) L i (dft tPeer) := by rw [Int.toNat_natCast]
  have key := iter_to (B := B_spec_HereOf_L2 (Ω := List Int) N kx kr) (A := List Int × Bool) (fun k a => (L, out, (i : Int), a.1, a.2, (k : Int)))
    (fun k a r => a.1.length ≤ 2 * k → r = kx (L, (i : Int), a.1 ++ (bif a.2 then out.drop k else bif ((out.drop k).any fun y => decide ((List.getD (α := Den tPeer) L i (dft tPeer)).1 < y)) then insB (List.getD (α := Den tPeer) L i (dft tPeer)).1 (out.drop k) else out.drop k), a.2 || ((out.drop k).any fun y => decide ((List.getD (α := Den tPeer) L i (dft tPeer)).1 < y)))) out.length
    (fun k a rec_ hk h ha => by
      obtain ⟨next, put⟩ := a
      simp only at ha
      show (bif _ then _ else _) = _
      rw [lt_rows _ hk, le_rows k, le_rows i, hi', hg, getD_at _ hk, w64_up (Nat.le_refl k) (by omega), drop_cons hk]
      generalize (List.getD (α := Den tPeer) L i (dft tPeer)).1 = x at h ⊢
      simp only [Bool.and_self, cond_true, List.length_append, List.length_cons, List.length_nil]
      rw [dT (p := (next.length + (0 + 1)) * 8 ≤ 140737488355328) (by omega), dT (p := (next.length + (0 + 1) + (0 + 1)) * 8 ≤ 140737488355328) (by omega)]
      simp only [cond_true]
      cases put with
      | true =>
        have := h (next ++ [out[k]], true) (by simp only [List.length_append, List.length_cons, List.length_nil]; omega)
        simp only [Bool.not_true, cond_false, cond_true, Bool.true_or] at this ⊢
        rw [this, List.append_assoc]; rfl
      | false =>
        simp only [Bool.not_false, cond_true, Bool.false_or, cond_false, List.any_cons]
        unfold insB
        cases hx : decide (x < out[k]) with
        | true =>
          have := h ((next ++ [x]) ++ [out[k]], true) (by simp only [List.length_append, List.length_cons, List.length_nil]; omega)
          simp only [cond_true, Bool.true_or] at this ⊢
          rw [this, List.append_assoc, List.append_assoc]; rfl
        | false =>
          have := h (next ++ [out[k]], false) (by simp only [List.length_append, List.length_cons, List.length_nil]; omega)
          simp only [cond_false, Bool.false_or] at this ⊢
          rw [this, List.append_assoc]
          cases ((out.drop (k + 1)).any fun y => decide (x < y)) <;> rfl)
    (fun a rec_ ha => by
      obtain ⟨next, put⟩ := a
      show (bif _ then _ else _) = _
      rw [at_end, List.drop_length]
      cases put <;> simp)
    N (by omega) ([], false)
  have := key (by simp)
  simpa using this

theorem spec_HereOf {N : Nat} (hN : Big N) (L : Den tRing) (hL : okz tRing L) : x_spec_HereOf N L = some (insAll [] (fHereL L)) := by
  have hN' : 1099511627776 ≤ N := hN
  have hl : List.length (α := Den tPeer) L ≤ 1048576 := hL.1
  unfold x_spec_HereOf
  have key := iter_to (B := B_spec_HereOf_L0 N (fun x6 => some x6) (fun ρ7 => some (ρ7))) (A := List Int) (fun i a => (L, a, (i : Int))) (fun i a r => a.length ≤ i → r = some (insAll a (fHereL (List.drop (α := Den tPeer) i L)))) (List.length (α := Den tPeer) L)
    (fun i out rec_ hi h ho => by
      show (bif _ then _ else _) = _
      have hi' := lt_rows (α := Den tPeer) L hi
      have hg : (List.getD (α := Den tPeer) L ((i : Int)).toNat (dft tPeer)) = L[i] := getD_at (α := Den tPeer) L hi (dft tPeer)
      rw [hi', le_rows i, hg, w64_up (Nat.le_refl i) (by omega), drop_cons (α := Den tPeer) hi]
      simp only [Bool.and_self, cond_true]
      unfold fHereL
      cases hp : (L[i]).2.1 with
      | false =>
        simp only [Bool.not_false, cond_true, cond_false]
        exact h out (by omega)
      | true =>
        simp only [Bool.not_true, cond_true, cond_false]
        have e := spec_ins hN (kx := fun (x1, x2, x3, x4) => (bif (!x4) then (bif (decide (0 ≤ x2) && decide (x2 < (List.length (α := Den tPeer) x1 : Int))) then (bif (decide ((x3.length + [((List.getD (α := Den tPeer) x1 x2.toNat (dft tPeer)).1 : Int)].length) * 8 ≤ 140737488355328)) then rec_ (x1, (x3 ++ [((List.getD (α := Den tPeer) x1 x2.toNat (dft tPeer)).1 : Int)]), (wrap64 (x2 + (1 : Int)))) else none) else none) else rec_ (x1, x3, (wrap64 (x2 + (1 : Int)))))) (kr := fun ρ5 => some ρ5) L hi out (by omega)
        refine Eq.trans e ?_
        simp only
        have hg' : (List.getD (α := Den tPeer) L i (dft tPeer)) = L[i] := by rw [← hg, Int.toNat_natCast]
        rw [hi', le_rows i, hg, hg', w64_up (Nat.le_refl i) (by omega)]
        unfold insAll
        cases ha : (out.any fun y => decide ((L[i]).1 < y)) with
        | true =>
          simp only [Bool.not_true, cond_false, cond_true]
          exact h _ (by rw [insB_len]; omega)
        | false =>
          simp only [Bool.not_false, cond_true, cond_false, Bool.and_self]
          rw [dT (p := (out.length + [(L[i]).1].length) * 8 ≤ 140737488355328) (by simp only [List.length_cons, List.length_nil]; omega), insB_last _ _ ha]
          exact h _ (by simp only [List.length_append, List.length_cons, List.length_nil]; omega))
    (fun out rec_ ho => by
      show (bif _ then _ else _) = _
      rw [at_end (α := Den tPeer) L, List.drop_length]; rfl)
    N (by omega) []
  exact key (by simp)

theorem impl_HereOf {N : Nat} (hN : Big N) (L : Den tRing) (hL : okz tRing L) : x_impl_HereOf N L = some (sortI (fHereL L)) := by
  have hN' : 1099511627776 ≤ N := hN
  have hl : List.length (α := Den tPeer) L ≤ 1048576 := hL.1
  unfold x_impl_HereOf
  have key := iter_to (B := B_impl_HereOf_L0 N (fun x1 => (x_slices_Sort_int_int N x1).bind fun r2 => some r2.2) (fun ρ3 => some (ρ3))) (A := List Int) (fun i a => (a, L, (List.length (α := Den tPeer) L : Int), (i : Int))) (fun i a r => a.length ≤ i → r = some (sortI (a ++ fHereL (List.drop (α := Den tPeer) i L)))) (List.length (α := Den tPeer) L)
    (fun i out rec_ hi h ho => by
      show (bif _ then _ else _) = _
      have hi' := lt_rows (α := Den tPeer) L hi
      have hg : (List.getD (α := Den tPeer) L ((i : Int)).toNat (dft tPeer)) = L[i] := getD_at (α := Den tPeer) L hi (dft tPeer)
      rw [hi', le_rows i, hg, w64_up (Nat.le_refl i) (by omega), drop_cons (α := Den tPeer) hi]
      simp only [Bool.and_self, cond_true]
      unfold fHereL
      cases hp : (L[i]).2.1 with
      | false =>
        simp only [cond_false]
        exact h out (by omega)
      | true =>
        simp only [cond_true]
        rw [dT (p := (out.length + [(L[i]).1].length) * 8 ≤ 140737488355328) (by simp only [List.length_cons, List.length_nil]; omega)]
        have := h (out ++ [(L[i]).1]) (by simp only [List.length_append, List.length_cons, List.length_nil]; omega)
        rw [List.append_assoc] at this
        exact this)
    (fun out rec_ ho => by
      show (bif _ then _ else _) = _
      rw [at_end (α := Den tPeer) L, List.drop_length]
      unfold x_slices_Sort_int_int
      simp only [cond_false, fHereL, List.append_nil]
      rw [dT (p := List.length (α := Int) out ≤ 140737488355328) (by omega)]; rfl)
    N (by omega) []
  exact key (by simp)

theorem pure_FnExactHereOf (a0 : Den tRing) (g0 : good tRing a0) : ∃ N, x_laws_FnExactHereOf N a0 = some true := by
  refine ⟨1099511627776, ?_⟩
  have hN : Big 1099511627776 := Nat.le_refl _
  generalize 1099511627776 = N at hN
  unfold x_laws_FnExactHereOf
  obtain ⟨k, e, hk⟩ := sz_Ring hN a0 g0 1048576 (by omega) (by omega)
  rw [e, Option.bind_some]
  rcases hk with hk | ⟨h1, h2, h⟩
  · rw [dT hk]; rfl
  · rw [dF (by omega), cond_false]
    have hl : List.length (α := Den tPeer) a0 ≤ 1048576 := h.1
    have hr : (sortI (fHereL a0)).length ≤ 1048576 := by rw [sortI_len]; have := fHereL_len a0; omega
    have ho : okz (.sl I) (sortI (fHereL a0)) := ⟨hr, fun _ _ => trivial⟩
    obtain ⟨q1, e1, p1⟩ := mk_Ring hN a0 h
    have m2 := mk_IntS hN (sortI (fHereL a0)) hr 1 (by omega) (by omega)
    have d2 := hd_IntS hN (sortI (fHereL a0)) hr 1 (by omega) (by omega)
    have g2 := mkL_grow grow_Int (sortI (fHereL a0)) 1 fun _ _ => trivial
    simp only [to_Ring hN a0 h, Option.bind_some, spec_HereOf hN a0 h, insAll_sort, impl_HereOf hN a0 h, eq_Ring hN a0 h, eq_IntS hN _ ho, e1, m2, d2, Bool.not_true, cond_false]
    rw [dF (p := q1.1 < 0) (by omega), dF (p := (mkL mkInt (sortI (fHereL a0)) 1).2 < 0) (by omega), dT trivial]
    rfl
end Go.Proofs.Ytcmlapepofgkpaa.C
