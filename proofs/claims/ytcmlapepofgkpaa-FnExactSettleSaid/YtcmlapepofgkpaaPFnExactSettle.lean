/- The data that the two functions compute are alike, for all arguments that memory can hold. -/
import Derived.Test.YtcmlapepofgkpaaHFnExactSettle
set_option linter.unusedVariables false
set_option linter.unusedSimpArgs false
namespace Go.Proofs.Ytcmlapepofgkpaa.C
open Go Go.Proofs.Ytcmlapepofgkpaa.Nx Go.RowKit
theorem sz_IntS {N : Nat} (hN : Big N) (x : Den (.sl I)) (g : good (.sl I) x) : SzOk (x_laws_szIntS N x) (okz (.sl I) x) :=
  (SzOk.len g.1).mono fun h => ⟨h, fun _ _ => trivial⟩
theorem sz_Item {N : Nat} (hN : Big N) (x : Den tItem) (g : good tItem x) : SzOk (x_laws_szItem N x) (okz tItem x) :=
  (SzOk.len g.1).mono fun h => by
    repeat' (first | exact trivial | assumption | refine And.intro ?_ ?_)
theorem sz_ItemS {N : Nat} (hN : Big N) (x : Den (.sl tItem)) (g : good (.sl tItem) x) : SzOk (x_laws_szItemS N x) (okz (.sl tItem) x) :=
  sz_rows g (f := x_laws_szItem N) (fun y gy => sz_Item hN y gy) hN (fun _ _ _ _ => rfl)
theorem sz_Shelf {N : Nat} (hN : Big N) (x : Den tShelf) (g : good tShelf x) : SzOk (x_laws_szShelf N x) (okz tShelf x) :=
  (SzOk.last (sz_ItemS hN _ g.2)).mono fun h => by
    repeat' (first | exact trivial | assumption | refine And.intro ?_ ?_)
theorem sz_ShelfS {N : Nat} (hN : Big N) (x : Den (.sl tShelf)) (g : good (.sl tShelf) x) : SzOk (x_laws_szShelfS N x) (okz (.sl tShelf) x) :=
  sz_rows g (f := x_laws_szShelf N) (fun y gy => sz_Shelf hN y gy) hN (fun _ _ _ _ => rfl)
theorem sz_Peer {N : Nat} (hN : Big N) (x : Den tPeer) (g : good tPeer x) : SzOk (x_laws_szPeer N x) (okz tPeer x) :=
  (SzOk.bind (sz_IntS hN _ g.2.2.2.1) (SzOk.bind (sz_IntS hN _ g.2.2.2.2.1) (SzOk.last (sz_ShelfS hN _ g.2.2.2.2.2)))).mono fun h => by
    obtain ⟨h0, h1, h2⟩ := h; repeat' (first | exact trivial | assumption | refine And.intro ?_ ?_)
theorem sz_PeerS {N : Nat} (hN : Big N) (x : Den (.sl tPeer)) (g : good (.sl tPeer) x) : SzOk (x_laws_szPeerS N x) (okz (.sl tPeer) x) :=
  sz_rows g (f := x_laws_szPeer N) (fun y gy => sz_Peer hN y gy) hN (fun _ _ _ _ => rfl)
theorem sz_Ring {N : Nat} (hN : Big N) (x : Den tRing) (g : good tRing x) : SzOk (x_laws_szRing N x) (okz tRing x) :=
  (SzOk.last (sz_PeerS hN _ g)).mono fun h => by
    repeat' (first | exact trivial | assumption | refine And.intro ?_ ?_)
theorem to_IntS {N : Nat} (hN : Big N) (x : Den (.sl I)) (h : okz (.sl I) x) : x_laws_toIntS N x = some x :=
  to_rows h (f := fun y => some y) (fun y hy => rfl) hN (by decide) (fun _ _ _ _ => rfl)
theorem to_Item {N : Nat} (hN : Big N) (x : Den tItem) (h : okz tItem x) : x_laws_toItem N x = some x := rfl
theorem to_ItemS {N : Nat} (hN : Big N) (x : Den (.sl tItem)) (h : okz (.sl tItem) x) : x_laws_toItemS N x = some x :=
  to_rows h (f := x_laws_toItem N) (fun y hy => to_Item hN y hy) hN (by decide) (fun _ _ _ _ => rfl)
theorem to_Shelf {N : Nat} (hN : Big N) (x : Den tShelf) (h : okz tShelf x) : x_laws_toShelf N x = some x := by
  unfold x_laws_toShelf
  simp only [to_ItemS hN _ h.2, Option.bind_some] <;> rfl
theorem to_ShelfS {N : Nat} (hN : Big N) (x : Den (.sl tShelf)) (h : okz (.sl tShelf) x) : x_laws_toShelfS N x = some x :=
  to_rows h (f := x_laws_toShelf N) (fun y hy => to_Shelf hN y hy) hN (by decide) (fun _ _ _ _ => rfl)
theorem to_Peer {N : Nat} (hN : Big N) (x : Den tPeer) (h : okz tPeer x) : x_laws_toPeer N x = some x := by
  unfold x_laws_toPeer
  simp only [to_IntS hN _ h.2.2.2.1, to_IntS hN _ h.2.2.2.2.1, to_ShelfS hN _ h.2.2.2.2.2, Option.bind_some] <;> rfl
theorem to_PeerS {N : Nat} (hN : Big N) (x : Den (.sl tPeer)) (h : okz (.sl tPeer) x) : x_laws_toPeerS N x = some x :=
  to_rows h (f := x_laws_toPeer N) (fun y hy => to_Peer hN y hy) hN (by decide) (fun _ _ _ _ => rfl)
theorem to_Ring {N : Nat} (hN : Big N) (x : Den tRing) (h : okz tRing x) : x_laws_toRing N x = some x := by
  unfold x_laws_toRing
  simp only [to_PeerS hN _ h, Option.bind_some] <;> rfl
theorem eq_IntS {N : Nat} (hN : Big N) (x : Den (.sl I)) (h : okz (.sl I) x) : x_laws_eqIntS N x x = some true :=
  eq_rows h (f := fun y z => some (decide (y = z))) (fun y hy => by simp) hN (fun _ _ _ _ => rfl)
theorem eq_Item {N : Nat} (hN : Big N) (x : Den tItem) (h : okz tItem x) : x_laws_eqItem N x x = some true := by
  unfold x_laws_eqItem
  simp
theorem eq_ItemS {N : Nat} (hN : Big N) (x : Den (.sl tItem)) (h : okz (.sl tItem) x) : x_laws_eqItemS N x x = some true :=
  eq_rows h (f := x_laws_eqItem N) (fun y hy => eq_Item hN y hy) hN (fun _ _ _ _ => rfl)
theorem eq_Shelf {N : Nat} (hN : Big N) (x : Den tShelf) (h : okz tShelf x) : x_laws_eqShelf N x x = some true := by
  unfold x_laws_eqShelf
  simp [eq_ItemS hN _ h.2]
theorem eq_ShelfS {N : Nat} (hN : Big N) (x : Den (.sl tShelf)) (h : okz (.sl tShelf) x) : x_laws_eqShelfS N x x = some true :=
  eq_rows h (f := x_laws_eqShelf N) (fun y hy => eq_Shelf hN y hy) hN (fun _ _ _ _ => rfl)
theorem eq_Peer {N : Nat} (hN : Big N) (x : Den tPeer) (h : okz tPeer x) : x_laws_eqPeer N x x = some true := by
  unfold x_laws_eqPeer
  simp [eq_IntS hN _ h.2.2.2.1, eq_IntS hN _ h.2.2.2.2.1, eq_ShelfS hN _ h.2.2.2.2.2]
theorem eq_PeerS {N : Nat} (hN : Big N) (x : Den (.sl tPeer)) (h : okz (.sl tPeer) x) : x_laws_eqPeerS N x x = some true :=
  eq_rows h (f := x_laws_eqPeer N) (fun y hy => eq_Peer hN y hy) hN (fun _ _ _ _ => rfl)
theorem eq_Ring {N : Nat} (hN : Big N) (x : Den tRing) (h : okz tRing x) : x_laws_eqRing N x x = some true := by
  unfold x_laws_eqRing
  simp [eq_PeerS hN _ h]
end Go.Proofs.Ytcmlapepofgkpaa.C

namespace Go.Proofs.Ytcmlapepofgkpaa.C
open Go Go.Proofs.Ytcmlapepofgkpaa.Nx Go.RowKit
set_option linter.unusedVariables false
set_option linter.unusedSimpArgs false

/-- Where somebody stands that is there. -/
def fPeerAt (n : Int) : Nat → List (Den tPeer) → Int
  | _, [] => -1
  | i, p :: ps => bif p.2.1 && decide (p.1 = n) then i else fPeerAt n (i + 1) ps

theorem spec_PeerAt {N : Nat} (hN : Big N) (L : Den tRing) (hL : okz tRing L) (n : Int) : x_spec_PeerAt N L n = some (fPeerAt n 0 L) := by
  have hl := hL.1
  have hN' : 1099511627776 ≤ N := hN
  refine iter_row (L : List (Den tPeer)) (fun i => (n, L, (i : Int))) (fun i l => some (fPeerAt n i l)) (fun i hi rec_ h => ?_) (fun rec_ => ?_) (by omega)
  · show (bif _ then _ else _) = _
    simp only [lt_rows (L : List (Den tPeer)) hi, le_rows i, Bool.and_self, cond_true, getD_at (L : List (Den tPeer)) hi, w64_up (Nat.le_refl i) (by omega : i ≤ 140737488355328), h]
    simp only [fPeerAt]
    cases ((L : List (Den tPeer))[i]).2.1 <;> cases decide (((L : List (Den tPeer))[i]).1 = n) <;> rfl
  · show (bif _ then _ else _) = _
    rw [dF (Int.lt_irrefl _)]; rfl

theorem impl_peerHere {N : Nat} (hN : Big N) (L : Den tRing) (hL : okz tRing L) (n : Int) : x_impl_peerHere N L n = some (fPeerAt n 0 L) := by
  have hl := hL.1
  have hN' : 1099511627776 ≤ N := hN
  have key : x_slices_IndexFunc_impl_Peer_impl_Peer__impl_peerHere_1 N L n = some (fPeerAt n 0 L) := by
    refine iter_row (L : List (Den tPeer)) (fun i => (L, n, (List.length (α := Den tPeer) L : Int), (i : Int))) (fun i l => some (fPeerAt n i l)) (fun i hi rec_ h => ?_) (fun rec_ => ?_) (by omega)
    · show (bif _ then _ else _) = _
      simp only [lt_rows (L : List (Den tPeer)) hi, le_rows i, Bool.and_self, cond_true, getD_at (L : List (Den tPeer)) hi, w64_up (Nat.le_refl i) (by omega : i ≤ 140737488355328), h, x_impl_peerHere_1]
      simp only [fPeerAt]
      cases ((L : List (Den tPeer))[i]).2.1 <;> cases decide (((L : List (Den tPeer))[i]).1 = n) <;> rfl
    · show (bif _ then _ else _) = _
      rw [dF (Int.lt_irrefl _)]; rfl
  unfold x_impl_peerHere
  rw [key]; rfl

end Go.Proofs.Ytcmlapepofgkpaa.C

namespace Go.Proofs.Ytcmlapepofgkpaa.C
open Go Go.Proofs.Ytcmlapepofgkpaa.Nx Go.RowKit
set_option linter.unusedVariables false
set_option linter.unusedSimpArgs false

theorem fPeerAt_or (n : Int) : ∀ (l : List (Den tPeer)) (i : Nat), fPeerAt n i l = -1 ∨ ∃ j, i ≤ j ∧ j < i + l.length ∧ fPeerAt n i l = (j : Int)
  | [], i => .inl rfl
  | p :: ps, i => by
    unfold fPeerAt
    cases (p.2.1 && decide (p.1 = n))
    · rcases fPeerAt_or n ps (i + 1) with h | ⟨j, h1, h2, h3⟩
      · exact .inl h
      · exact .inr ⟨j, by omega, by simp only [List.length_cons]; omega, h3⟩
    · exact .inr ⟨i, Nat.le_refl _, by simp only [List.length_cons]; omega, rfl⟩

/-- The first of a row who is there. -/
def fNext (L : List (Den tPeer)) : List Int → Int
  | [] => -1
  | x :: xs => bif decide (0 ≤ fPeerAt x 0 L) then x else fNext L xs

/-- Who follows. -/
def fNextOf (L : List (Den tPeer)) (n : Int) : Int :=
  bif decide (fPeerAt n 0 L < 0) then -1 else fNext L (L.getD (fPeerAt n 0 L).toNat (dft tPeer)).2.2.2.1

theorem iter_one {σ R : Type} {B : (σ → Option R) → σ → Option R} {N : Nat} (hN : Big N) (s : σ) : ∃ M, iter B N s = B (iter B M) s := by
  have hN' : 1099511627776 ≤ N := hN
  obtain ⟨M, rfl⟩ : ∃ M, N = M + 1 := ⟨N - 1, by omega⟩
  exact ⟨M, rfl⟩

theorem spec_NextOf {N : Nat} (hN : Big N) (L : List (Den tPeer)) (hL : okz tRing L) (n : Int) : x_spec_NextOf N L n = some (fNextOf L n) := by
  have hl := hL.1
  have hN' : 1099511627776 ≤ N := hN
  unfold x_spec_NextOf fNextOf
  rw [spec_PeerAt hN L hL, Option.bind_some]
  rcases fPeerAt_or n L 0 with h | ⟨j, h1, h2, h3⟩
  · rw [h]
    obtain ⟨M, e⟩ := iter_one (B := B_spec_NextOf_L0 N (fun _ => some (-1 : Int)) (fun ρ3 => some (ρ3))) hN (L, (-1 : Int), (0 : Int))
    exact e
  · rw [h3]
    have hj : j < L.length := by omega
    rw [dF (by omega), getD_at L hj]
    have hp : okz tPeer L[j] := hL.2 _ (List.getElem_mem hj)
    obtain ⟨F, hF⟩ : ∃ F : List Int, F = L[j].2.2.2.1 := ⟨_, rfl⟩
    have hF2 : F.length ≤ 1048576 := by rw [hF]; exact hp.2.2.2.1.1
    rw [← hF]
    refine iter_row F (fun i => (L, (j : Int), (i : Int))) (fun i l => some (fNext L l)) (fun i hi rec_ h => ?_) (fun rec_ => ?_) (by omega)
    · show (bif _ then _ else _) = _
      simp only [lt_rows L hj, le_rows j, le_rows i, Bool.and_self, cond_true, getD_at L hj, ← hF, lt_rows F hi, getD_at F hi, w64_up (Nat.le_refl i) (by omega : i ≤ 140737488355328), h, spec_PeerAt hN L hL, Option.bind_some]
      simp only [fNext]
      cases decide (0 ≤ fPeerAt F[i] 0 L) <;> rfl
    · show (bif _ then _ else _) = _
      simp only [lt_rows L hj, le_rows j, Bool.and_self, cond_true, getD_at L hj, ← hF]
      rw [dF (Int.lt_irrefl _)]; rfl

theorem impl_NextOf {N : Nat} (hN : Big N) (L : List (Den tPeer)) (hL : okz tRing L) (n : Int) : x_impl_NextOf N L n = some (fNextOf L n) := by
  have hl := hL.1
  have hN' : 1099511627776 ≤ N := hN
  unfold x_impl_NextOf fNextOf
  rw [impl_peerHere hN L hL, Option.bind_some]
  rcases fPeerAt_or n L 0 with h | ⟨j, h1, h2, h3⟩
  · rw [h]; rfl
  · rw [h3]
    have hj : j < L.length := by omega
    simp only [lt_rows L hj, le_rows j, Bool.and_self, cond_true, getD_at L hj]
    rw [dF (by omega)]
    simp only [cond_false]
    have hp : okz tPeer L[j] := hL.2 _ (List.getElem_mem hj)
    obtain ⟨F, hF⟩ : ∃ F : List Int, F = L[j].2.2.2.1 := ⟨_, rfl⟩
    have hF2 : F.length ≤ 1048576 := by rw [hF]; exact hp.2.2.2.1.1
    rw [← hF]
    refine iter_row F (fun i => (L, F, (F.length : Int), (i : Int))) (fun i l => some (fNext L l)) (fun i hi rec_ h => ?_) (fun rec_ => ?_) (by omega)
    · show (bif _ then _ else _) = _
      simp only [le_rows i, Bool.and_self, cond_true, lt_rows F hi, getD_at F hi, w64_up (Nat.le_refl i) (by omega : i ≤ 140737488355328), h, impl_peerHere hN L hL, Option.bind_some]
      simp only [fNext]
      cases decide (0 ≤ fPeerAt F[i] 0 L) <;> rfl
    · show (bif _ then _ else _) = _
      rw [dF (Int.lt_irrefl _)]; rfl
end Go.Proofs.Ytcmlapepofgkpaa.C

namespace Go.Proofs.Ytcmlapepofgkpaa.C
open Go Go.Proofs.Ytcmlapepofgkpaa.Nx Go.RowKit
set_option linter.unusedVariables false
set_option linter.unusedSimpArgs false

theorem n40 {N : Nat} (hN : Big N) : 1099511627776 ≤ N := hN

/-- How far ahead. -/
def aheadI (a x : Int) : Int := (x % 256 - a % 256) % 256

theorem spec_mod_ord (N : Nat) (x : Int) : x_spec_l08Mod N x = some (x % 256) := by
  unfold x_spec_l08Mod
  rw [Int.tmod_eq_emod]
  by_cases h : 0 ≤ x ∨ (256 : Int) ∣ x
  · rw [if_pos h, dF (by omega)]; simp
  · rw [if_neg h, dT (by simp; omega), cond_true, w64 (by simp; omega) (by simp; omega)]
    simp
theorem impl_place_ord (N : Nat) (x : Int) : x_impl_place N x = some (x % 256) := by
  unfold x_impl_place
  have h0 : x.tmod 256 = x % 256 - (if 0 ≤ x ∨ (256 : Int) ∣ x then (0 : Int) else 256) := by rw [Int.tmod_eq_emod]; split <;> rfl
  rw [h0]
  by_cases h : 0 ≤ x ∨ (256 : Int) ∣ x
  · rw [if_pos h, w64 (by omega) (by omega), Int.tmod_eq_emod, if_pos (.inl (by omega))]
    congr 1; omega
  · rw [if_neg h, w64 (by omega) (by omega), Int.tmod_eq_emod, if_pos (.inl (by omega))]
    congr 1; omega
theorem spec_Ahead_ord (N : Nat) (a x : Int) : x_spec_Ahead N a x = some (aheadI a x) := by
  unfold x_spec_Ahead aheadI
  rw [spec_mod_ord, Option.bind_some, spec_mod_ord, Option.bind_some, spec_mod_ord, w64 (by omega) (by omega)]; rfl
theorem impl_Ahead_ord (N : Nat) (a x : Int) : x_impl_Ahead N a x = some (aheadI a x) := by
  unfold x_impl_Ahead aheadI
  rw [impl_place_ord, Option.bind_some, impl_place_ord, Option.bind_some, impl_place_ord, w64 (by omega) (by omega)]; rfl

end Go.Proofs.Ytcmlapepofgkpaa.C

namespace Go.Proofs.Ytcmlapepofgkpaa.C
open Go Go.Proofs.Ytcmlapepofgkpaa.Nx Go.RowKit
set_option linter.unusedVariables false
set_option linter.unusedSimpArgs false

/-- Between two others. -/
def betw (a x b : Int) : Bool := decide (0 < aheadI a x) && (decide (aheadI a x ≤ aheadI a b) || decide (aheadI a b = 0))

theorem spec_Betw (N : Nat) (a x b : Int) : x_spec_Between N a x b = some (betw a x b) := by
  unfold x_spec_Between betw
  rw [spec_mod_ord, Option.bind_some, spec_mod_ord, Option.bind_some, spec_Ahead_ord, Option.bind_some, Option.bind_some, Option.bind_some, spec_Ahead_ord, Option.bind_some]
  by_cases h : a % 256 = b % 256
  · have h0 : aheadI a b = 0 := by unfold aheadI; omega
    have h1 : 0 ≤ aheadI a x := by unfold aheadI; omega
    rw [dT h, cond_true, dT h0, Bool.or_true, Bool.and_true]
    congr 1
    by_cases h2 : aheadI a x = 0
    · rw [dT h2, dF (by omega)]; rfl
    · rw [dF h2, dT (by omega)]; rfl
  · have h0 : ¬ aheadI a b = 0 := by unfold aheadI; omega
    rw [dF h, cond_false, dF h0, Bool.or_false]
    by_cases h2 : 0 < aheadI a x
    · rw [dT h2]; rfl
    · rw [dF h2]; rfl

theorem impl_Betw (N : Nat) (a x b : Int) : x_impl_Between N a x b = some (betw a x b) := by
  unfold x_impl_Between betw
  rw [impl_Ahead_ord, Option.bind_some, impl_Ahead_ord, Option.bind_some]
  by_cases h2 : 0 < aheadI a x
  · rw [dT h2, cond_true, Bool.true_and]
    by_cases h3 : aheadI a x ≤ aheadI a b
    · rw [dT h3]; rfl
    · rw [dF h3]; rfl
  · rw [dF h2]; rfl
end Go.Proofs.Ytcmlapepofgkpaa.C

namespace Go.Proofs.Ytcmlapepofgkpaa.C
open Go Go.Proofs.Ytcmlapepofgkpaa.Nx Go.RowKit
set_option linter.unusedVariables false
set_option linter.unusedSimpArgs false

/-- A number marked. -/
def mkInt (x : Int) (k : Int) : Int × Int := (k, k + 1)
theorem grow_Int : Grow (fun _ : Int => True) mkInt 1 := fun x k _ => ⟨by unfold mkInt; simp; omega, by unfold mkInt; simp⟩

theorem mk_IntS {N : Nat} (hN : Big N) (L : List Int) (hL : L.length ≤ 1048576) (k : Int) (h0 : 0 ≤ k) (hk : k + ((1 * L.length : Nat) : Int) ≤ 9223372036854775806) : x_laws_markIntS N L k = some ((mkL mkInt L k).2, (mkL mkInt L k).1, ()) := by
  have hN' : 1099511627776 ≤ N := hN
  have e := mark_rows (B := B_laws_markIntS_L0 N (fun (x1, x2) => some (x2, x1, ())) (fun ρ3 => some (ρ3))) (kx := fun s => some (s.2, s.1, ())) grow_Int
    (fun rec_ pre x post k _ h0 hk hl => by
      show (bif _ then _ else _) = _
      simp only [at_lt, at_le, Int.toNat_natCast, st0, Bool.and_self, cond_true, mkInt]
      rw [w64_up (Nat.le_refl _) (by omega), w64 (x := k + 1) (by omega) (by omega)])
    (fun rec_ L k => by
      show (bif _ then _ else _) = _
      simp only [at_end, cond_false])
    L [] k N (by omega) (fun _ _ => trivial) h0 hk (by simp; omega)
  unfold x_laws_markIntS
  refine (congrArg (fun o => Option.bind o _) e).trans ?_
  rw [Option.bind_some]
  dsimp only
  rw [List.nil_append, beq_len (mkL_len _ _ _)]; rfl

theorem hd_IntS {N : Nat} (hN : Big N) (L : List Int) (hL : L.length ≤ 1048576) (k : Int) (h0 : 0 ≤ k) (hk : k + ((1 * L.length : Nat) : Int) ≤ 9223372036854775806) : x_laws_heldIntS N (mkL mkInt L k).1 k = some (mkL mkInt L k).2 := by
  have hN' : 1099511627776 ≤ N := hN
  exact held_rows (B := B_laws_heldIntS_L0 N (fun x1 => some x1) (fun ρ2 => some (ρ2))) (kx := fun s => some s) grow_Int
    (fun rec_ pre x post k _ h0 hk hl => by
      show (bif _ then _ else _) = _
      have e1 : (mkInt x k).1 = k := rfl
      have e2 : (mkInt x k).2 = k + 1 := rfl
      rw [w64_up (Nat.le_refl _) (by omega), w64 (x := k + 1) (by omega) (by omega)]
      simp only [at_lt, at_le, Int.toNat_natCast, gD0, Bool.and_self, cond_true, e1, e2, decide_true, Bool.not_true, cond_false])
    (fun rec_ L k => by
      show (bif _ then _ else _) = _
      simp only [at_end, cond_false])
    L [] k N (by omega) (fun _ _ => trivial) h0 hk (by simp; omega)
end Go.Proofs.Ytcmlapepofgkpaa.C

namespace Go.Proofs.Ytcmlapepofgkpaa.C
open Go Go.Proofs.Ytcmlapepofgkpaa.Nx Go.RowKit
set_option linter.unusedVariables false
set_option linter.unusedSimpArgs false

/-- A mark's text. -/
def mtx (N : Nat) (k : Int) : ByteArray := (x_laws_markText N k).getD ByteArray.empty
theorem mtx_some {N : Nat} (hN : Big N) (k : Int) (hk : k ≤ 9223372036854775807) : x_laws_markText N k = some (mtx N k) := by
  have hN' : 1099511627776 ≤ N := hN
  have : ∃ r, x_laws_markText N k = some r := by
    unfold x_laws_markText
    by_cases h : k ≤ 0
    · rw [dT h]; exact ⟨_, rfl⟩
    · rw [dF h]
      refine digits (kx := fun x1 => (bif (decide ((⟨#[109]⟩ : ByteArray).size + x1.size ≤ 4611686018427387904)) then some ((⟨#[109]⟩ : ByteArray) ++ x1) else none)) (fun rec_ s0 s3 => rfl) (fun s hs => ?_) 19 k ByteArray.empty N (by omega) (by omega) (by omega) hk (by decide)
      have : (⟨#[109]⟩ : ByteArray).size = 1 := rfl
      rw [dT (by omega)]; exact ⟨_, rfl⟩
  obtain ⟨r, h⟩ := this
  unfold mtx
  rw [h]; rfl

/-- An item marked. -/
def mkItem (N : Nat) (x : Den tItem) (k : Int) : Den tItem × Int := ((mtx N k, decide ((k + 1).tmod 3 = 0)), k + 2)
theorem grow_Item (N : Nat) : Grow (fun _ : Den tItem => True) (mkItem N) 2 := fun x k _ => ⟨by unfold mkItem; simp; omega, by unfold mkItem; simp⟩

theorem mkI_big {N : Nat} (hN : Big N) (L : List (Den tItem)) (hL : L.length ≤ 2097152) (k : Int) (h0 : 0 ≤ k) (hk : k + ((2 * L.length : Nat) : Int) ≤ 9223372036854775806) : x_laws_markItemS N L k = some ((mkL (mkItem N) L k).2, (mkL (mkItem N) L k).1, ()) := by
  have hN' : 1099511627776 ≤ N := hN
  have e := mark_rows (B := B_laws_markItemS_L0 N (fun (x2, x3) => some (x3, x2, ())) (fun ρ3 => some (ρ3))) (kx := fun s => some (s.2, s.1, ())) (grow_Item N)
    (fun rec_ pre x post k _ h0 hk hl => by
      show (bif _ then _ else _) = _
      rw [mtx_some hN k (by omega), Option.bind_some, w64 (x := k + 1) (by omega) (by omega), w64 (x := k + 1 + 1) (by omega) (by omega), w64_up (Nat.le_refl _) (by omega)]
      simp only [at_lt, at_le, Int.toNat_natCast, st0, gD0, Bool.and_self, cond_true, mkItem]
      rw [Int.add_assoc]; rfl)
    (fun rec_ L k => by
      show (bif _ then _ else _) = _
      simp only [at_end, cond_false])
    L [] k N (by omega) (fun _ _ => trivial) h0 hk (by simp; omega)
  unfold x_laws_markItemS
  refine (congrArg (fun o => Option.bind o _) e).trans ?_
  rw [Option.bind_some]
  dsimp only
  rw [List.nil_append, beq_len (mkL_len _ _ _)]; rfl

theorem hdI_big {N : Nat} (hN : Big N) (L : List (Den tItem)) (hL : L.length ≤ 2097152) (k : Int) (h0 : 0 ≤ k) (hk : k + ((2 * L.length : Nat) : Int) ≤ 9223372036854775806) : x_laws_heldItemS N (mkL (mkItem N) L k).1 k = some (mkL (mkItem N) L k).2 := by
  have hN' : 1099511627776 ≤ N := hN
  exact held_rows (B := B_laws_heldItemS_L0 N (fun x2 => some x2) (fun ρ3 => some (ρ3))) (kx := fun s => some s) (grow_Item N)
    (fun rec_ pre x post k _ h0 hk hl => by
      show (bif _ then _ else _) = _
      rw [mtx_some hN k (by omega), w64 (x := k + 1) (by omega) (by omega), w64 (x := k + 1 + 1) (by omega) (by omega), w64_up (Nat.le_refl _) (by omega)]
      have e1 : (mkItem N x k).1.1 = mtx N k := rfl
      have e2 : (mkItem N x k).1.2 = decide ((k + 1).tmod 3 = 0) := rfl
      have e3 : (mkItem N x k).2 = k + 1 + 1 := by rw [Int.add_assoc]; rfl
      simp only [at_lt, at_le, Int.toNat_natCast, gD0, Bool.and_self, cond_true, e1, e2, e3, Option.bind_some, decide_true, Bool.not_true, cond_false, beq_self_eq_true])
    (fun rec_ L k => by
      show (bif _ then _ else _) = _
      simp only [at_end, cond_false])
    L [] k N (by omega) (fun _ _ => trivial) h0 hk (by simp; omega)

theorem mk_ItemS {N : Nat} (hN : Big N) (L : List (Den tItem)) (hL : L.length ≤ 1048576) (k : Int) (h0 : 0 ≤ k) (hk : k + ((2 * L.length : Nat) : Int) ≤ 9223372036854775806) : x_laws_markItemS N L k = some ((mkL (mkItem N) L k).2, (mkL (mkItem N) L k).1, ()) := mkI_big hN L (by omega) k h0 hk
theorem hd_ItemS {N : Nat} (hN : Big N) (L : List (Den tItem)) (hL : L.length ≤ 1048576) (k : Int) (h0 : 0 ≤ k) (hk : k + ((2 * L.length : Nat) : Int) ≤ 9223372036854775806) : x_laws_heldItemS N (mkL (mkItem N) L k).1 k = some (mkL (mkItem N) L k).2 := hdI_big hN L (by omega) k h0 hk

theorem eqI_big {N : Nat} (hN : Big N) (L : List (Den tItem)) (hl : L.length ≤ 2097152) : x_laws_eqItemS N L L = some true := by
  have hN' : 1099511627776 ≤ N := hN
  unfold x_laws_eqItemS
  rw [dT rfl]
  exact iter_to (B := B_laws_eqItemS_L0 N (fun _ => some true) (fun ρ2 => some (ρ2))) (A := Unit) (fun i _ => (L, L, (i : Int))) (fun i _ r => r = some true) L.length
    (fun i a rec_ hi h => by
      show (bif _ then _ else _) = _
      simp only [lt_rows L hi, le_rows i, Bool.and_self, cond_true]
      rw [getD_at L hi, show x_laws_eqItem N L[i] L[i] = some true by unfold x_laws_eqItem; rw [dT rfl]; simp, Option.bind_some, w64_up (Nat.le_refl i) (by omega)]
      exact h ())
    (fun a rec_ => by show (bif _ then _ else _) = _; rw [dF (Int.lt_irrefl _)]; rfl) N (by omega) ()

/-- A shelf marked. -/
def mkShelf (N : Nat) (x : Den tShelf) (k : Int) : Den tShelf × Int := ((k, (mkL (mkItem N) x.2 (k + 1)).1), (mkL (mkItem N) x.2 (k + 1)).2)
theorem grow_Shelf (N : Nat) : Grow (okz tShelf) (mkShelf N) 2097153 := fun x k h => by
  have := mkL_grow (grow_Item N) x.2 (k + 1) (fun _ _ => trivial)
  have h2 : x.2.length ≤ 1048576 := h.2.1
  unfold mkShelf
  dsimp only
  omega

theorem mk_ShelfS {N : Nat} (hN : Big N) (L : List (Den tShelf)) (hL : okz (.sl tShelf) L) (k : Int) (h0 : 0 ≤ k) (hk : k + ((2097153 * L.length : Nat) : Int) ≤ 9223372036854775806) : x_laws_markShelfS N L k = some ((mkL (mkShelf N) L k).2, (mkL (mkShelf N) L k).1, ()) := by
  have hN' : 1099511627776 ≤ N := hN
  have hl := hL.1
  have e := mark_rows (B := B_laws_markShelfS_L0 N (fun (x2, x3) => some (x3, x2, ())) (fun ρ3 => some (ρ3))) (kx := fun s => some (s.2, s.1, ())) (grow_Shelf N)
    (fun rec_ pre x post k hx h0 hk hl => by
      have hx2 : x.2.length ≤ 1048576 := hx.2.1
      show (bif _ then _ else _) = _
      rw [w64 (x := k + 1) (by omega) (by omega), w64_up (Nat.le_refl _) (by omega)]
      simp only [at_lt, at_le, Int.toNat_natCast, st0, gD0, Bool.and_self, cond_true, Nat.beq_refl, mk_ItemS hN x.2 hx2 (k + 1) (by omega) (by omega), Option.bind_some, mkShelf])
    (fun rec_ L k => by
      show (bif _ then _ else _) = _
      simp only [at_end, cond_false])
    L [] k N (by omega) hL.2 h0 hk (by simp; omega)
  unfold x_laws_markShelfS
  refine (congrArg (fun o => Option.bind o _) e).trans ?_
  rw [Option.bind_some]
  dsimp only
  rw [List.nil_append, beq_len (mkL_len _ _ _)]; rfl

theorem clone_Item (N : Nat) (L : List (Den tItem)) (hL : L.length ≤ 1048576) : x_slices_Clone_impl_Item_impl_Item N L = some L := by
  unfold x_slices_Clone_impl_Item_impl_Item
  simp only [List.length_nil, List.nil_append]
  rw [dT (p := (0 + L.length) * 24 ≤ 140737488355328) (by omega)]
  by_cases h : L.length = 0
  · obtain rfl : L = [] := List.length_eq_zero_iff.1 h
    rw [dT h]
    exact agree_self _
  · rw [dF h]; rfl

end Go.Proofs.Ytcmlapepofgkpaa.C

namespace Go.Proofs.Ytcmlapepofgkpaa.C
open Go Go.Proofs.Ytcmlapepofgkpaa.Nx Go.RowKit
set_option linter.unusedVariables false
set_option linter.unusedSimpArgs false

theorem clone_Int (N : Nat) (L : List Int) (hL : L.length ≤ 1048576) : x_slices_Clone_int_int N L = some L := by
  unfold x_slices_Clone_int_int
  simp only [List.length_nil, List.nil_append]
  rw [dT (p := (0 + L.length) * 8 ≤ 140737488355328) (by omega)]
  by_cases h : L.length = 0
  · obtain rfl : L = [] := List.length_eq_zero_iff.1 h
    rw [dT h]
    exact agree_self _
  · rw [dF h]; rfl

theorem impl_clonePeer {N : Nat} (hN : Big N) (p : Den tPeer) (hp : okz tPeer p) : x_impl_clonePeer N p = some p := by
  have hN' : 1099511627776 ≤ N := hN
  obtain ⟨_, _, _, h1, h2, h3⟩ := hp
  have hl := h3.1
  unfold x_impl_clonePeer
  rw [clone_Int N _ h1.1, Option.bind_some, clone_Int N _ h2.1, Option.bind_some]
  refine (iter_row p.2.2.2.2.2 (fun i => ((p.1, p.2.1, p.2.2.1, p.2.2.2.1, p.2.2.2.2.1, p.2.2.2.2.2.take i), ((0 : Int), false, (0 : Int), [], [], []), p.2.2.2.2.2, (p.2.2.2.2.2.length : Int), (i : Int))) (fun i l => some p) (fun i hi rec_ h => ?_) (fun rec_ => ?_) (by omega))
  · have h4 : (p.2.2.2.2.2[i]).2.length ≤ 1048576 := (h3.2 _ (List.getElem_mem hi)).2.1
    show (bif _ then _ else _) = _
    rw [lt_rows _ hi, le_rows i, getD_at _ hi, w64_up (Nat.le_refl i) (by omega), clone_Item N _ h4, Option.bind_some]
    show (bif decide (((p.2.2.2.2.2.take i).length + [((p.2.2.2.2.2[i]).1, (p.2.2.2.2.2[i]).2)].length) * 32 ≤ 140737488355328) then rec_ ((p.1, p.2.1, p.2.2.1, p.2.2.2.1, p.2.2.2.2.1, p.2.2.2.2.2.take i ++ [p.2.2.2.2.2[i]]), _, _, _, _) else none) = _
    rw [dT (p := ((p.2.2.2.2.2.take i).length + [((p.2.2.2.2.2[i]).1, (p.2.2.2.2.2[i]).2)].length) * 32 ≤ 140737488355328) (by simp only [List.length_take, List.length_cons, List.length_nil]; omega), cond_true, ← List.take_succ_eq_append_getElem hi]
    exact h
  · show (bif _ then _ else _) = _
    rw [dF (Int.lt_irrefl _), List.take_length]; rfl

theorem impl_cloneRing {N : Nat} (hN : Big N) (r : List (Den tPeer)) (hr : okz (.sl tPeer) r) : x_impl_cloneRing N r = some r := by
  have hN' : 1099511627776 ≤ N := hN
  have hl := hr.1
  unfold x_impl_cloneRing
  refine (iter_row r (fun i => (([] : List (Den tPeer)), r.take i, r, (r.length : Int), (i : Int))) (fun i l => some r) (fun i hi rec_ h => ?_) (fun rec_ => ?_) (by omega))
  · show (bif _ then _ else _) = _
    rw [lt_rows _ hi, le_rows i, getD_at _ hi, w64_up (Nat.le_refl i) (by omega)]
    have e : x_impl_clonePeer N ((r[i]).1, (r[i]).2.1, (r[i]).2.2.1, (r[i]).2.2.2.1, (r[i]).2.2.2.2.1, (r[i]).2.2.2.2.2) = some r[i] := impl_clonePeer hN r[i] (hr.2 _ (List.getElem_mem hi))
    rw [e, Option.bind_some, dT (p := ((r.take i).length + [r[i]].length) * 96 ≤ 140737488355328) (by simp only [List.length_take, List.length_cons, List.length_nil]; omega), cond_true, ← List.take_succ_eq_append_getElem hi]
    exact h
  · show (bif _ then _ else _) = _
    rw [dF (Int.lt_irrefl _), List.take_length]; rfl

theorem spec_CopyPeer {N : Nat} (hN : Big N) (p : Den tPeer) (hp : okz tPeer p) : x_spec_l09CopyPeer N p = some p := by
  have hN' : 1099511627776 ≤ N := hN
  obtain ⟨_, _, _, h1, h2, h3⟩ := hp
  have hl := h3.1
  have hl1 := h1.1
  have hl2 := h2.1
  unfold x_spec_l09CopyPeer
  simp only [List.length_nil, List.nil_append]
  rw [dT (p := (0 + p.2.2.2.1.length) * 8 ≤ 140737488355328) (by omega), dT (p := (0 + p.2.2.2.2.1.length) * 8 ≤ 140737488355328) (by omega), cond_true, cond_true]
  refine (iter_row p.2.2.2.2.2 (fun i => (p, ((0 : Int), false, (0 : Int), [], [], []), (p.1, p.2.1, p.2.2.1, p.2.2.2.1, p.2.2.2.2.1, p.2.2.2.2.2.take i), (i : Int))) (fun i l => some p) (fun i hi rec_ h => ?_) (fun rec_ => ?_) (by omega))
  · have h4 : (p.2.2.2.2.2[i]).2.length ≤ 1048576 := (h3.2 _ (List.getElem_mem hi)).2.1
    show (bif _ then (bif _ then _ else _) else _) = _
    simp only [List.length_nil, List.nil_append, agree_self, lt_rows _ hi, le_rows i, getD_at _ hi, w64_up (Nat.le_refl i) (by omega : i ≤ 140737488355328), Bool.and_self, cond_true]
    rw [dT (p := (0 + (p.2.2.2.2.2[i]).2.length) * 24 ≤ 140737488355328) (by omega), cond_true]
    show (bif decide (((p.2.2.2.2.2.take i).length + [((p.2.2.2.2.2[i]).1, (p.2.2.2.2.2[i]).2)].length) * 32 ≤ 140737488355328) then rec_ (_, _, (p.1, p.2.1, p.2.2.1, p.2.2.2.1, p.2.2.2.2.1, p.2.2.2.2.2.take i ++ [p.2.2.2.2.2[i]]), _) else none) = _
    rw [dT (p := ((p.2.2.2.2.2.take i).length + [((p.2.2.2.2.2[i]).1, (p.2.2.2.2.2[i]).2)].length) * 32 ≤ 140737488355328) (by simp only [List.length_take, List.length_cons, List.length_nil]; omega), cond_true, ← List.take_succ_eq_append_getElem hi]
    exact h
  · show (bif _ then _ else _) = _
    rw [dF (Int.lt_irrefl _), List.take_length]; rfl

theorem spec_Copy {N : Nat} (hN : Big N) (r : List (Den tPeer)) (hr : okz (.sl tPeer) r) : x_spec_l09Copy N r = some r := by
  have hN' : 1099511627776 ≤ N := hN
  have hl := hr.1
  unfold x_spec_l09Copy
  refine (iter_row r (fun i => (r, ([] : List (Den tPeer)), r.take i, (i : Int))) (fun i l => some r) (fun i hi rec_ h => ?_) (fun rec_ => ?_) (by omega))
  · show (bif _ then _ else _) = _
    rw [lt_rows _ hi, le_rows i, getD_at _ hi, w64_up (Nat.le_refl i) (by omega)]
    rw [spec_CopyPeer hN r[i] (hr.2 _ (List.getElem_mem hi)), Option.bind_some, dT (p := ((r.take i).length + [r[i]].length) * 96 ≤ 140737488355328) (by simp only [List.length_take, List.length_cons, List.length_nil]; omega), ← List.take_succ_eq_append_getElem hi]
    exact h
  · show (bif _ then _ else _) = _
    rw [dF (Int.lt_irrefl _), List.take_length]; rfl
end Go.Proofs.Ytcmlapepofgkpaa.C

namespace Go.Proofs.Ytcmlapepofgkpaa.C
open Go Go.Proofs.Ytcmlapepofgkpaa.Nx Go.RowKit
set_option linter.unusedVariables false
set_option linter.unusedSimpArgs false

/-- A peer marked. -/
def mkPeer (N : Nat) (x : Den tPeer) (k : Int) : Den tPeer × Int :=
  ((k, decide ((k + 1).tmod 3 = 0), k + 1 + 1, (mkL mkInt x.2.2.2.1 (k + 1 + 1 + 1)).1, (mkL mkInt x.2.2.2.2.1 (mkL mkInt x.2.2.2.1 (k + 1 + 1 + 1)).2).1, (mkL (mkShelf N) x.2.2.2.2.2 (mkL mkInt x.2.2.2.2.1 (mkL mkInt x.2.2.2.1 (k + 1 + 1 + 1)).2).2).1),
    (mkL (mkShelf N) x.2.2.2.2.2 (mkL mkInt x.2.2.2.2.1 (mkL mkInt x.2.2.2.1 (k + 1 + 1 + 1)).2).2).2)
theorem grow_Peer (N : Nat) : Grow (okz tPeer) (mkPeer N) 2199026401283 := fun x k h => by
  obtain ⟨_, _, _, h1, h2, h3⟩ := h
  have hl1 := h1.1
  have hl2 := h2.1
  have hl3 := h3.1
  have g1 := mkL_grow grow_Int x.2.2.2.1 (k + 1 + 1 + 1) fun _ _ => trivial
  have g2 := mkL_grow grow_Int x.2.2.2.2.1 (mkL mkInt x.2.2.2.1 (k + 1 + 1 + 1)).2 fun _ _ => trivial
  have g3 := mkL_grow (grow_Shelf N) x.2.2.2.2.2 (mkL mkInt x.2.2.2.2.1 (mkL mkInt x.2.2.2.1 (k + 1 + 1 + 1)).2).2 h3.2
  unfold mkPeer
  dsimp only
  omega

theorem mk_PeerS {N : Nat} (hN : Big N) (L : List (Den tPeer)) (hL : okz (.sl tPeer) L) (k : Int) (h0 : 0 ≤ k) (hk : k + ((2199026401283 * L.length : Nat) : Int) ≤ 9223372036854775806) : x_laws_markPeerS N L k = some ((mkL (mkPeer N) L k).2, (mkL (mkPeer N) L k).1, ()) := by
  have hN' : 1099511627776 ≤ N := hN
  have hl := hL.1
  have e := mark_rows (B := B_laws_markPeerS_L0 N (fun (x6, x7) => some (x7, x6, ())) (fun ρ8 => some (ρ8))) (kx := fun s => some (s.2, s.1, ())) (grow_Peer N)
    (fun rec_ pre x post k hx h0 hk hl => by
      obtain ⟨_, _, _, h1, h2, h3⟩ := hx
      have hl1 := h1.1
      have hl2 := h2.1
      have hl3 := h3.1
      have g1 := mkL_grow grow_Int x.2.2.2.1 (k + 1 + 1 + 1) fun _ _ => trivial
      have g2 := mkL_grow grow_Int x.2.2.2.2.1 (mkL mkInt x.2.2.2.1 (k + 1 + 1 + 1)).2 fun _ _ => trivial
      have w1 := w64 (x := k + 1) (by omega) (by omega)
      have w2 := w64 (x := k + 1 + 1) (by omega) (by omega)
      have w3 := w64 (x := k + 1 + 1 + 1) (by omega) (by omega)
      have wp := w64_up (i := pre.length) (Nat.le_refl _) (by omega)
      have m1 := mk_IntS hN x.2.2.2.1 hl1 (k + 1 + 1 + 1) (by omega) (by omega)
      have m2 := mk_IntS hN x.2.2.2.2.1 hl2 (mkL mkInt x.2.2.2.1 (k + 1 + 1 + 1)).2 (by omega) (by omega)
      have m3 := mk_ShelfS hN x.2.2.2.2.2 h3 (mkL mkInt x.2.2.2.2.1 (mkL mkInt x.2.2.2.1 (k + 1 + 1 + 1)).2).2 (by omega) (by omega)
      show (bif _ then _ else _) = _
      simp only [at_lt, at_le, Int.toNat_natCast, st0, gD0, Bool.and_self, cond_true, Nat.beq_refl, w1, w2, w3, wp, m1, m2, m3, Option.bind_some]
      rfl)
    (fun rec_ L k => by
      show (bif _ then _ else _) = _
      simp only [at_end, cond_false])
    L [] k N (by omega) hL.2 h0 hk (by simp; omega)
  unfold x_laws_markPeerS
  refine (congrArg (fun o => Option.bind o _) e).trans ?_
  rw [Option.bind_some]
  dsimp only
  rw [List.nil_append, beq_len (mkL_len _ _ _)]; rfl

theorem mk_Ring {N : Nat} (hN : Big N) (r : Den tRing) (hr : okz tRing r) : ∃ q, x_laws_markRing N r 1 = some q ∧ 0 ≤ q.1 := by
  have hl := hr.1
  have g := mkL_grow (grow_Peer N) r 1 hr.2
  unfold x_laws_markRing
  rw [mk_PeerS hN r hr 1 (by omega) (by omega), Option.bind_some, Option.bind_some]
  dsimp only
  rw [beq_len (mkL_len _ _ _)]
  exact ⟨_, rfl, by dsimp only; omega⟩

/-- Who holds. -/
def fHold (L : List (Den tPeer)) : List Int → List Int → List Int
  | out, [] => out
  | out, x :: xs => bif decide (0 ≤ fPeerAt x 0 L) && (!(out.any fun y => decide (y = x)) && decide ((out.length : Int) < 3)) then fHold L (out ++ [x]) xs else fHold L out xs

theorem fHold_full (L : List (Den tPeer)) : ∀ (xs out : List Int), ¬ (out.length : Int) < 3 → fHold L out xs = out
  | [], _, _ => rfl
  | x :: xs, out, h => by
    unfold fHold
    rw [dF h, Bool.and_false, Bool.and_false]
    exact fHold_full L xs out h

theorem fHold_len (L : List (Den tPeer)) : ∀ (xs out : List Int), (fHold L out xs).length ≤ out.length + xs.length
  | [], _ => Nat.le_refl _
  | x :: xs, out => by
    unfold fHold
    have h1 := fHold_len L xs out
    have h2 := fHold_len L xs (out ++ [x])
    simp only [List.length_append, List.length_cons, List.length_nil] at h1 h2 ⊢
    cases (decide (0 ≤ fPeerAt x 0 L) && (!(out.any fun y => decide (y = x)) && decide ((out.length : Int) < 3)))
    · simp only [cond_false]; omega
    · simp only [cond_true]; omega

/-- Those that hold what somebody has. -/
def fHolders (L : List (Den tPeer)) (n : Int) : List Int :=
  bif decide (fPeerAt n 0 L < 0) then [] else fHold L [n] (L.getD (fPeerAt n 0 L).toNat (dft tPeer)).2.2.2.1

theorem fHolders_len (L : List (Den tPeer)) (hL : okz tRing L) (n : Int) : (fHolders L n).length ≤ 1048576 := by
  have h3 : ∀ (xs out : List Int), out.length ≤ 3 → (fHold L out xs).length ≤ 3 := by
    intro xs
    induction xs with
    | nil => intro out h; exact h
    | cons x xs ih =>
      intro out h
      unfold fHold
      by_cases h4 : (out.length : Int) < 3
      · cases (decide (0 ≤ fPeerAt x 0 L) && (!(out.any fun y => decide (y = x)) && decide ((out.length : Int) < 3)))
        · exact ih out h
        · exact ih (out ++ [x]) (by simp; omega)
      · rw [dF h4, Bool.and_false, Bool.and_false]
        exact ih out h
  unfold fHolders
  cases decide (fPeerAt n 0 L < 0)
  · have := h3 (L.getD (fPeerAt n 0 L).toNat (dft tPeer)).2.2.2.1 [n] (by simp)
    simp only [cond_false]; omega
  · exact Nat.zero_le _

end Go.Proofs.Ytcmlapepofgkpaa.C

namespace Go.Proofs.Ytcmlapepofgkpaa.C
open Go Go.Proofs.Ytcmlapepofgkpaa.Nx Go.RowKit
set_option linter.unusedVariables false
set_option linter.unusedSimpArgs false

theorem hd_ShelfS {N : Nat} (hN : Big N) (L : List (Den tShelf)) (hL : okz (.sl tShelf) L) (k : Int) (h0 : 0 ≤ k) (hk : k + ((2097153 * L.length : Nat) : Int) ≤ 9223372036854775806) : x_laws_heldShelfS N (mkL (mkShelf N) L k).1 k = some (mkL (mkShelf N) L k).2 := by
  have hN' : 1099511627776 ≤ N := hN
  have hl := hL.1
  exact held_rows (B := B_laws_heldShelfS_L0 N (fun x2 => some x2) (fun ρ3 => some (ρ3))) (kx := fun s => some s) (grow_Shelf N)
    (fun rec_ pre x post k hx h0 hk hl => by
      have hx2 : x.2.length ≤ 1048576 := hx.2.1
      have g := mkL_grow (grow_Item N) x.2 (k + 1) (fun _ _ => trivial)
      have e1 : (mkShelf N x k).1.1 = k := rfl
      have e2 : (mkShelf N x k).1.2 = (mkL (mkItem N) x.2 (k + 1)).1 := rfl
      have e3 : (mkShelf N x k).2 = (mkL (mkItem N) x.2 (k + 1)).2 := rfl
      show (bif _ then _ else _) = _
      rw [w64 (x := k + 1) (by omega) (by omega), w64_up (Nat.le_refl _) (by omega)]
      simp only [at_lt, at_le, Int.toNat_natCast, gD0, Bool.and_self, cond_true, e1, e2, e3, decide_true, Bool.not_true, cond_false, hd_ItemS hN x.2 hx2 (k + 1) (by omega) (by omega), Option.bind_some]
      rw [dF (by omega), cond_false])
    (fun rec_ L k => by
      show (bif _ then _ else _) = _
      simp only [at_end, cond_false])
    L [] k N (by omega) hL.2 h0 hk (by simp; omega)

theorem hd_PeerS {N : Nat} (hN : Big N) (L : List (Den tPeer)) (hL : okz (.sl tPeer) L) (k : Int) (h0 : 0 ≤ k) (hk : k + ((2199026401283 * L.length : Nat) : Int) ≤ 9223372036854775806) : x_laws_heldPeerS N (mkL (mkPeer N) L k).1 k = some (mkL (mkPeer N) L k).2 := by
  have hN' : 1099511627776 ≤ N := hN
  have hl := hL.1
  exact held_rows (B := B_laws_heldPeerS_L0 N (fun x4 => some x4) (fun ρ5 => some (ρ5))) (kx := fun s => some s) (grow_Peer N)
    (fun rec_ pre x post k hx h0 hk hl => by
      obtain ⟨_, _, _, h1, h2, h3⟩ := hx
      have hl1 := h1.1
      have hl2 := h2.1
      have hl3 := h3.1
      have g1 := mkL_grow grow_Int x.2.2.2.1 (k + 1 + 1 + 1) fun _ _ => trivial
      have g2 := mkL_grow grow_Int x.2.2.2.2.1 (mkL mkInt x.2.2.2.1 (k + 1 + 1 + 1)).2 fun _ _ => trivial
      have g3 := mkL_grow (grow_Shelf N) x.2.2.2.2.2 (mkL mkInt x.2.2.2.2.1 (mkL mkInt x.2.2.2.1 (k + 1 + 1 + 1)).2).2 h3.2
      have w1 := w64 (x := k + 1) (by omega) (by omega)
      have w2 := w64 (x := k + 1 + 1) (by omega) (by omega)
      have w3 := w64 (x := k + 1 + 1 + 1) (by omega) (by omega)
      have wp := w64_up (i := pre.length) (Nat.le_refl _) (by omega)
      have m1 := hd_IntS hN x.2.2.2.1 hl1 (k + 1 + 1 + 1) (by omega) (by omega)
      have m2 := hd_IntS hN x.2.2.2.2.1 hl2 (mkL mkInt x.2.2.2.1 (k + 1 + 1 + 1)).2 (by omega) (by omega)
      have m3 := hd_ShelfS hN x.2.2.2.2.2 h3 (mkL mkInt x.2.2.2.2.1 (mkL mkInt x.2.2.2.1 (k + 1 + 1 + 1)).2).2 (by omega) (by omega)
      have e1 : (mkPeer N x k).1.1 = k := rfl
      have e2 : (mkPeer N x k).1.2.1 = decide ((k + 1).tmod 3 = 0) := rfl
      have e3 : (mkPeer N x k).1.2.2.1 = k + 1 + 1 := rfl
      have e4 : (mkPeer N x k).1.2.2.2.1 = (mkL mkInt x.2.2.2.1 (k + 1 + 1 + 1)).1 := rfl
      have e5 : (mkPeer N x k).1.2.2.2.2.1 = (mkL mkInt x.2.2.2.2.1 (mkL mkInt x.2.2.2.1 (k + 1 + 1 + 1)).2).1 := rfl
      have e6 : (mkPeer N x k).1.2.2.2.2.2 = (mkL (mkShelf N) x.2.2.2.2.2 (mkL mkInt x.2.2.2.2.1 (mkL mkInt x.2.2.2.1 (k + 1 + 1 + 1)).2).2).1 := rfl
      have e7 : (mkPeer N x k).2 = (mkL (mkShelf N) x.2.2.2.2.2 (mkL mkInt x.2.2.2.2.1 (mkL mkInt x.2.2.2.1 (k + 1 + 1 + 1)).2).2).2 := rfl
      show (bif _ then _ else _) = _
      simp only [at_lt, at_le, Int.toNat_natCast, gD0, Bool.and_self, cond_true, w1, w2, w3, wp, e1, e2, e3, e4, e5, e6, e7, m1, m2, m3, Option.bind_some, decide_true, beq_self_eq_true, Bool.not_true, cond_false]
      rw [dF (by omega), cond_false, dF (by omega), cond_false, dF (by omega), cond_false])
    (fun rec_ L k => by
      show (bif _ then _ else _) = _
      simp only [at_end, cond_false])
    L [] k N (by omega) hL.2 h0 hk (by simp; omega)

/-- A ring is marked, and stays so. -/
theorem mark_Ring {N : Nat} (hN : Big N) (r : Den tRing) (hr : okz tRing r) (k : Int) (h0 : 0 ≤ k) (hk : k + ((2199026401283 * 1048576 : Nat) : Int) ≤ 9223372036854775806) :
    ∃ L m, x_laws_markRing N r k = some (m, L, ()) ∧ x_laws_heldRing N L k = some m ∧ k ≤ m ∧ m ≤ k + ((2199026401283 * 1048576 : Nat) : Int) := by
  have hl : List.length (α := Den tPeer) r ≤ 1048576 := hr.1
  have g := mkL_grow (grow_Peer N) r k hr.2
  refine ⟨(mkL (mkPeer N) r k).1, (mkL (mkPeer N) r k).2, ?_, ?_, g.1, by omega⟩
  · unfold x_laws_markRing
    rw [mk_PeerS hN r hr k h0 (by omega), Option.bind_some, Option.bind_some]
    dsimp only
    rw [beq_len (mkL_len _ _ _)]; rfl
  · unfold x_laws_heldRing
    rw [hd_PeerS hN r hr k h0 (by omega), Option.bind_some, dF (by omega)]; rfl
end Go.Proofs.Ytcmlapepofgkpaa.C

namespace Go.Proofs.Ytcmlapepofgkpaa.C
open Go Go.Proofs.Ytcmlapepofgkpaa.Nx Go.RowKit
set_option linter.unusedVariables false
set_option linter.unusedSimpArgs false

theorem cc_or {α : Type} (c d : Bool) (x y : α) : (bif c then x else bif d then x else y) = bif c || d then x else y := by cases c <;> cases d <;> rfl
theorem cc_same {α : Type} (c : Bool) (x : α) : (bif c then x else x) = x := by cases c <;> rfl
theorem cc_pair {α β : Type} (c : Bool) (x y : α) (z : β) : (bif c then some (x, z) else some (y, z)) = some (bif c then x else y, z) := by cases c <;> rfl

/-- One and who is behind it, but for another one: three of them. -/
def fBehind (L : List (Den tPeer)) (n but : Int) : List Int :=
  ((n :: (L.getD (fPeerAt n 0 L).toNat (dft tPeer)).2.2.2.1).filter fun x => !decide (x = but)).take 3

theorem fBehind_ok (L : List (Den tPeer)) (n but : Int) : okz (.sl I) (fBehind L n but) := by
  have : (fBehind L n but).length ≤ 3 := by unfold fBehind; rw [List.length_take]; omega
  exact ⟨by omega, fun _ _ => trivial⟩

theorem spec_Not {N : Nat} (hN : Big N) (L : List Int) (hL : L.length ≤ 2097152) (n : Int) : x_spec_l11Not N L n = some (L.filter fun x => !decide (x = n)) := by
  have hN' : 1099511627776 ≤ N := hN
  unfold x_spec_l11Not
  have key := iter_to (B := B_spec_l11Not_L0 N (fun x1 => some x1) (fun ρ2 => some (ρ2))) (A := {l : List Int // l.length ≤ 2097152}) (fun i a => (L, n, a.1, (i : Int))) (fun i a r => a.1.length ≤ i → r = some (a.1 ++ (L.drop i).filter fun x => !decide (x = n))) L.length
    (fun i a rec_ hi h ha => by
      show (bif _ then _ else _) = _
      rw [lt_rows _ hi, le_rows i, getD_at _ hi, w64_up (Nat.le_refl i) (by omega), drop_cons hi, List.filter_cons]
      simp only [Bool.and_self, cond_true]
      cases hd : decide (L[i] = n) with
      | true =>
        have := h a (by omega)
        simpa using this
      | false =>
        have := h ⟨a.1 ++ [L[i]], by simp only [List.length_append, List.length_cons, List.length_nil]; omega⟩ (by simp only [List.length_append, List.length_cons, List.length_nil]; omega)
        rw [dT (p := (a.1.length + [L[i]].length) * 8 ≤ 140737488355328) (by simp only [List.length_cons, List.length_nil]; omega)]
        simpa using this)
    (fun a rec_ ha => by
      show (bif _ then _ else _) = _
      rw [dF (Int.lt_irrefl _), List.drop_length]; simp)
    N (by omega) ⟨[], by simp⟩ (by simp)
  simpa using key

theorem spec_Few (N : Nat) (L : List Int) (hL : L.length ≤ 2097152) : x_spec_l09Few N L = some (L.take 3) := by
  unfold x_spec_l09Few
  simp only [List.length_nil, List.nil_append]
  by_cases h : 3 < L.length
  · have e : inB (0 : Int) (3 : Int) (L.length : Int) = true := by unfold inB; simp; omega
    rw [dT (by omega), e]
    simp only [cond_true]
    have e2 : ((L.drop (0 : Int).toNat).take ((3 : Int).toNat - (0 : Int).toNat)) = L.take 3 := rfl
    have h3 : (L.take 3).length ≤ 3 := by rw [List.length_take]; omega
    rw [e2, dT (p := (0 + (L.take 3).length) * 8 ≤ 140737488355328) (by omega)]; rfl
  · have e : L.take 3 = L := List.take_of_length_le (by omega)
    rw [dF (by omega), dT (p := (0 + L.length) * 8 ≤ 140737488355328) (by omega), e]; rfl

theorem spec_Behind {N : Nat} (hN : Big N) (L : List (Den tPeer)) (hL : okz tRing L) (n but : Int) (hn : 0 ≤ fPeerAt n 0 L) : x_spec_l11Behind N L n but = some (fBehind L n but) := by
  have hl := hL.1
  unfold x_spec_l11Behind
  rw [agree_self, spec_PeerAt hN L hL, Option.bind_some]
  rcases fPeerAt_or n L 0 with h | ⟨j, h1, h2, h3⟩
  · omega
  · have hj : j < L.length := by omega
    have hp : okz tPeer L[j] := hL.2 _ (List.getElem_mem hj)
    have hb : (L[j]).2.2.2.1.length ≤ 1048576 := hp.2.2.2.1.1
    rw [h3, lt_rows _ hj, le_rows j, getD_at _ hj, dT (p := ([n].length + (L[j]).2.2.2.1.length) * 8 ≤ 140737488355328) (by simp only [List.length_cons, List.length_nil]; omega)]
    simp only [Bool.and_self, cond_true]
    rw [spec_Not hN _ (by simp only [List.length_append, List.length_cons, List.length_nil]; omega), Option.bind_some, spec_Few N _ (by have := List.length_filter_le (fun x => !decide (x = but)) ([n] ++ (L[j]).2.2.2.1); simp only [List.length_append, List.length_cons, List.length_nil] at this; omega)]
    unfold fBehind
    rw [h3, getD_at _ hj]; rfl

theorem impl_Behind {N : Nat} (hN : Big N) (L : List (Den tPeer)) (hL : okz tRing L) (n but : Int) (hn : 0 ≤ fPeerAt n 0 L) : x_impl_behind N L n but = some (fBehind L n but) := by
  have hl := hL.1
  have hN' : 1099511627776 ≤ N := hN
  have loop : ∀ (F : List Int), F.length ≤ 1048576 → ∀ out : List Int, out.length ≤ 3 → iter (B_impl_behind_L0 N (fun x2 => some x2) (fun ρ3 => some (ρ3))) N (but, out, F, (F.length : Int), (0 : Int)) = some ((out ++ F.filter fun x => !decide (x = but)).take 3) := by
    intro F hF out ho
    have key := iter_to (B := B_impl_behind_L0 N (fun x2 => some x2) (fun ρ3 => some (ρ3))) (A := {l : List Int // l.length ≤ 3}) (fun i a => (but, a.1, F, (F.length : Int), (i : Int))) (fun i a r => r = some ((a.1 ++ (F.drop i).filter fun x => !decide (x = but)).take 3)) F.length
      (fun i a rec_ hi h => by
        show (bif _ then _ else _) = _
        rw [lt_rows _ hi, le_rows i, getD_at _ hi, w64_up (Nat.le_refl i) (by omega), drop_cons hi, List.filter_cons]
        simp only [Bool.and_self, cond_true]
        cases hd : decide (F[i] = but) with
        | true =>
          have := h a
          simpa using this
        | false =>
          simp only [Bool.not_false, cond_true, if_true]
          by_cases h3 : a.1.length < 3
          · rw [dT (p := (a.1.length : Int) < 3) (by omega), dT (p := (a.1.length + [F[i]].length) * 8 ≤ 140737488355328) (by simp only [List.length_cons, List.length_nil]; omega)]
            have := h ⟨a.1 ++ [F[i]], by simp only [List.length_append, List.length_cons, List.length_nil]; omega⟩
            simpa using this
          · have h4 : a.1.length = 3 := by have := a.2; omega
            rw [dF (p := (a.1.length : Int) < 3) (by omega), cond_false, h a, List.take_append_of_le_length (by omega), List.take_append_of_le_length (by omega)])
      (fun a rec_ => by
        show (bif _ then _ else _) = _
        rw [dF (Int.lt_irrefl _), List.drop_length]
        simp only [List.filter_nil, List.append_nil, cond_false]
        rw [List.take_of_length_le (by have := a.2; omega)])
      N (by omega) ⟨out, ho⟩
    simpa using key
  unfold x_impl_behind
  simp only [impl_peerHere hN L hL, Option.bind_some]
  rcases fPeerAt_or n L 0 with h | ⟨j, h1, h2, h3⟩
  · omega
  · have hj : j < L.length := by omega
    have hp : okz tPeer L[j] := hL.2 _ (List.getElem_mem hj)
    have hb : (L[j]).2.2.2.1.length ≤ 1048576 := hp.2.2.2.1.1
    rw [h3, lt_rows _ hj, le_rows j, getD_at _ hj]
    unfold fBehind
    rw [h3, getD_at _ hj, List.filter_cons]
    simp only [Bool.and_self, cond_true]
    cases hd : decide (n = but) with
    | true =>
      simp only [Bool.not_true, cond_false]
      rw [loop _ hb [] (by simp)]; simp
    | false =>
      simp only [Bool.not_false, cond_true, List.length_nil, List.length_cons, List.nil_append]
      rw [dT (p := (0 + (0 + 1)) * 8 ≤ 140737488355328) (by omega), cond_true, loop _ hb [n] (by simp)]; simp

def setB (p : Den tPeer) (l : List Int) : Den tPeer := (p.1, p.2.1, p.2.2.1, l, p.2.2.2.2)
def setA (p : Den tPeer) (a : Int) : Den tPeer := (p.1, p.2.1, a, p.2.2.2)

theorem fNext_at (L : List (Den tPeer)) : ∀ l : List Int, fNext L l = -1 ∨ 0 ≤ fPeerAt (fNext L l) 0 L
  | [] => .inl rfl
  | x :: xs => by
    unfold fNext
    cases h : decide (0 ≤ fPeerAt x 0 L) with
    | true => exact .inr (of_decide_eq_true h)
    | false => exact fNext_at L xs

/-- One settles. -/
def fSettle (L : List (Den tPeer)) (id : Int) : List (Den tPeer) × Bool :=
  bif decide (fPeerAt id 0 L < 0) then (L, false) else bif decide (fNextOf L id < 0) then (L, false) else
    let i := (fPeerAt id 0 L).toNat
    let n := fNextOf L id
    let p := (L.getD (fPeerAt n 0 L).toNat (dft tPeer)).2.2.1
    let n' := bif decide (0 ≤ fPeerAt p 0 L) && (!decide (p = n) && (!decide (p = id) && betw id p n)) then p else n
    let k := (fPeerAt n' 0 L).toNat
    let a := (L.getD k (dft tPeer)).2.2.1
    let L1 := L.set i (setB (L.getD i (dft tPeer)) (fBehind L n' id))
    (bif decide (fPeerAt a 0 L < 0) || betw a id n' then L1.set k (setA (L1.getD k (dft tPeer)) id) else L1, true)

theorem fPeerAt_id (n : Int) : ∀ (l : List (Den tPeer)) (i j : Nat), fPeerAt n i l = ((i + j : Nat) : Int) → ∃ h : j < l.length, (l[j]).1 = n
  | [], i, j, h => by unfold fPeerAt at h; omega
  | p :: ps, i, j, h => by
    unfold fPeerAt at h
    cases hp : (p.2.1 && decide (p.1 = n)) with
    | true =>
      rw [hp, cond_true] at h
      have : j = 0 := by omega
      subst this
      simp only [Bool.and_eq_true, decide_eq_true_eq] at hp
      exact ⟨by simp, hp.2⟩
    | false =>
      rw [hp, cond_false] at h
      cases j with
      | zero =>
        rcases fPeerAt_or n ps (i + 1) with h' | ⟨j', h1, h2, h3⟩ <;> omega
      | succ j =>
        obtain ⟨h1, h2⟩ := fPeerAt_id n ps (i + 1) j (by rw [h]; congr 1; omega)
        exact ⟨by simpa using h1, by simpa using h2⟩

theorem spec_Settle {N : Nat} (hN : Big N) (L : List (Den tPeer)) (hL : okz tRing L) (id : Int) : x_spec_Settle N L id = some (fSettle L id) := by
  have hl := hL.1
  unfold x_spec_Settle fSettle
  simp only [spec_Copy hN L hL, spec_PeerAt hN L hL, spec_NextOf hN L hL, Option.bind_some, spec_Betw]
  rcases fPeerAt_or id L 0 with h | ⟨i, _, hi, h3⟩
  · rw [h]; rfl
  rw [h3, dF (p := (i : Int) < 0) (by omega), cond_false, cond_false, Int.toNat_natCast]
  have hi : i < L.length := by omega
  by_cases hn : fNextOf L id < 0
  · rw [dT hn]; rfl
  rw [dF hn, cond_false, cond_false]
  have hnx : 0 ≤ fPeerAt (fNextOf L id) 0 L := by
    unfold fNextOf at hn ⊢
    rw [h3, dF (p := (i : Int) < 0) (by omega)] at hn ⊢
    simp only [cond_false] at hn ⊢
    rcases fNext_at L (L.getD ((i : Int)).toNat (dft tPeer)).2.2.2.1 with h | h
    · omega
    · exact h
  obtain ⟨n, en⟩ : ∃ n, n = fNextOf L id := ⟨_, rfl⟩
  rw [← en] at hnx ⊢
  rcases fPeerAt_or n L 0 with h | ⟨j, _, hj, hj3⟩
  · omega
  have hj : j < L.length := by omega
  have dj : (decide (0 ≤ (j : Int)) && decide ((j : Int) < (L.length : Int))) = true := in_rows L hj
  have di : (decide (0 ≤ (i : Int)) && decide ((i : Int) < (L.length : Int))) = true := in_rows L hi
  have sBn := spec_Behind hN L hL n id hnx
  have lj := lt_rows L hj
  have li := lt_rows L hi
  have lst : ∀ (l : List (Den tPeer)) (x : Den tPeer) (k : Nat), (l.set k x).length = l.length := fun l x k => List.length_set ..
  have set1 : ∀ F : List Int, L.set i ((L.getD i (dft tPeer)).1, (L.getD i (dft tPeer)).2.1, (L.getD i (dft tPeer)).2.2.1, F, (L.getD i (dft tPeer)).2.2.2.2) = L.set i (setB (L.getD i (dft tPeer)) F) := fun _ => rfl
  have set2 : ∀ (l : List (Den tPeer)) (k : Nat), l.set k ((l.getD k (dft tPeer)).1, (l.getD k (dft tPeer)).2.1, id, (l.getD k (dft tPeer)).2.2.2) = l.set k (setA (l.getD k (dft tPeer)) id) := fun _ _ => rfl
  generalize hp : (L.getD j (dft tPeer)).2.2.1 = p at *
  by_cases h1 : 0 ≤ fPeerAt p 0 L
  · rcases fPeerAt_or p L 0 with h | ⟨k, _, hk, hk3⟩
    · omega
    have hk : k < L.length := by omega
    have lk := lt_rows L hk
    have sBp := spec_Behind hN L hL p id h1
    by_cases h2 : p = n
    · simp only [hj3, hp, le_rows, lj, li, lk, h2, sBn, Option.bind_some, Int.toNat_natCast, Bool.and_self, Bool.and_true, Bool.true_and, cond_true, cond_false, decide_true, Bool.not_true, Bool.false_and, Bool.and_false, lst, set1, set2, cc_or, cc_same, cc_pair]
    · by_cases h4 : p = id
      · have h4' : ¬ id = n := fun e => h2 (h4.trans e)
        simp only [hj3, hk3, hp, le_rows, lj, li, lk, dF h2, dF h4', h4, sBn, Option.bind_some, Int.toNat_natCast, Bool.and_self, Bool.and_true, Bool.true_and, cond_true, cond_false, decide_true, Bool.not_true, Bool.not_false, Bool.false_and, Bool.and_false, lst, set1, set2, cc_or, cc_same, cc_pair]
      · cases h5 : betw id p n with
        | true => simp only [hj3, hk3, hp, le_rows, lj, li, lk, dF h2, dF h4, sBn, sBp, h5, Option.bind_some, Int.toNat_natCast, Bool.and_self, Bool.and_true, Bool.true_and, cond_true, cond_false, decide_true, Bool.not_true, Bool.not_false, Bool.false_and, Bool.and_false, lst, set1, set2, cc_or, cc_same, cc_pair]
        | false => simp only [hj3, hk3, hp, le_rows, lj, li, lk, dF h2, dF h4, sBn, sBp, h5, Option.bind_some, Int.toNat_natCast, Bool.and_self, Bool.and_true, Bool.true_and, cond_true, cond_false, decide_true, Bool.not_true, Bool.not_false, Bool.false_and, Bool.and_false, lst, set1, set2, cc_or, cc_same, cc_pair]
  · simp only [hj3, hp, le_rows, lj, li, dF h1, sBn, Option.bind_some, Int.toNat_natCast, Bool.and_self, Bool.and_true, Bool.true_and, cond_true, cond_false, decide_true, Bool.not_true, Bool.not_false, Bool.false_and, Bool.and_false, lst, set1, set2, cc_or, cc_same, cc_pair]

theorem getD_setB (L : List (Den tPeer)) (i k : Nat) (hi : i < L.length) (F : List Int) : ((L.set i (setB (L.getD i (dft tPeer)) F)).getD k (dft tPeer)).2.2.1 = (L.getD k (dft tPeer)).2.2.1 ∧ ((L.set i (setB (L.getD i (dft tPeer)) F)).getD k (dft tPeer)).1 = (L.getD k (dft tPeer)).1 := by
  by_cases h : i = k
  · subst h
    simp only [List.getD_eq_getElem?_getD, List.getElem?_set, if_pos hi, if_true, Option.getD_some, setB]
    exact ⟨trivial, trivial⟩
  · simp only [List.getD_eq_getElem?_getD, List.getElem?_set, if_neg h]
    exact ⟨trivial, trivial⟩

theorem impl_Settle {N : Nat} (hN : Big N) (L : List (Den tPeer)) (hL : okz tRing L) (id : Int) : x_impl_Settle N L id = some (fSettle L id) := by
  have hl := hL.1
  unfold x_impl_Settle fSettle
  simp only [impl_cloneRing hN L hL, impl_peerHere hN L hL, impl_NextOf hN L hL, Option.bind_some, impl_Betw]
  rcases fPeerAt_or id L 0 with h | ⟨i, _, hi, h3⟩
  · have : fNextOf L id = -1 := by unfold fNextOf; rw [h]; rfl
    rw [this, h]; rfl
  rw [h3, dF (p := (i : Int) < 0) (by omega), cond_false, Int.toNat_natCast]
  have hi : i < L.length := by omega
  by_cases hn : fNextOf L id < 0
  · rw [dT hn]; rfl
  rw [dF hn, cond_false, cond_false]
  have hnx : 0 ≤ fPeerAt (fNextOf L id) 0 L := by
    unfold fNextOf at hn ⊢
    rw [h3, dF (p := (i : Int) < 0) (by omega)] at hn ⊢
    simp only [cond_false] at hn ⊢
    rcases fNext_at L (L.getD ((i : Int)).toNat (dft tPeer)).2.2.2.1 with h | h
    · omega
    · exact h
  obtain ⟨n, en⟩ : ∃ n, n = fNextOf L id := ⟨_, rfl⟩
  rw [← en] at hnx ⊢
  rcases fPeerAt_or n L 0 with h | ⟨j, _, hj, hj3⟩
  · omega
  have hj : j < L.length := by omega
  have dj : (decide (0 ≤ (j : Int)) && decide ((j : Int) < (L.length : Int))) = true := in_rows L hj
  have di : (decide (0 ≤ (i : Int)) && decide ((i : Int) < (L.length : Int))) = true := in_rows L hi
  have sBn := impl_Behind hN L hL n id hnx
  have lj := lt_rows L hj
  have li := lt_rows L hi
  have lst : ∀ (l : List (Den tPeer)) (x : Den tPeer) (k : Nat), (l.set k x).length = l.length := fun l x k => List.length_set ..
  have set1 : ∀ F : List Int, L.set i ((L.getD i (dft tPeer)).1, (L.getD i (dft tPeer)).2.1, (L.getD i (dft tPeer)).2.2.1, F, (L.getD i (dft tPeer)).2.2.2.2) = L.set i (setB (L.getD i (dft tPeer)) F) := fun _ => rfl
  have set2 : ∀ (l : List (Den tPeer)) (k : Nat), l.set k ((l.getD k (dft tPeer)).1, (l.getD k (dft tPeer)).2.1, id, (l.getD k (dft tPeer)).2.2.2) = l.set k (setA (l.getD k (dft tPeer)) id) := fun _ _ => rfl
  have gA : ∀ (F : List Int) (k : Nat), ((L.set i (setB (L.getD i (dft tPeer)) F)).getD k (dft tPeer)).2.2.1 = (L.getD k (dft tPeer)).2.2.1 := fun F k => (getD_setB L i k hi F).1
  have gI : ∀ (F : List Int) (k : Nat), ((L.set i (setB (L.getD i (dft tPeer)) F)).getD k (dft tPeer)).1 = (L.getD k (dft tPeer)).1 := fun F k => (getD_setB L i k hi F).2
  have gid : ∀ (m : Int) (k : Nat), fPeerAt m 0 L = (k : Int) → (L.getD k (dft tPeer)).1 = m := fun m k e => by
    obtain ⟨hk, hid⟩ := fPeerAt_id m L 0 k (by rw [Nat.zero_add]; exact e)
    rw [← hid]; congr 1; rw [← getD_at L hk, Int.toNat_natCast]
  have gN := gid n j hj3
  generalize hp : (L.getD j (dft tPeer)).2.2.1 = p at *
  by_cases h1 : 0 ≤ fPeerAt p 0 L
  · rcases fPeerAt_or p L 0 with h | ⟨k, _, hk, hk3⟩
    · omega
    have hk : k < L.length := by omega
    have lk := lt_rows L hk
    have gP := gid p k hk3
    have sBp := impl_Behind hN L hL p id h1
    by_cases h2 : p = n
    · simp only [hj3, hp, le_rows, lj, li, lk, h2, sBn,  Option.bind_some, Int.toNat_natCast, Bool.and_self, Bool.and_true, Bool.true_and, cond_true, cond_false, decide_true, Bool.not_true, Bool.not_false, Bool.false_and, Bool.and_false, lst, set1, setA, gA, gI, gN, cc_or, cc_same, cc_pair]
    · by_cases h4 : p = id
      · have h4' : ¬ id = n := fun e => h2 (h4.trans e)
        simp only [hj3, hk3, hp, le_rows, lj, li, lk, dF h2, dF h4', h4, sBn,  Option.bind_some, Int.toNat_natCast, Bool.and_self, Bool.and_true, Bool.true_and, cond_true, cond_false, decide_true, Bool.not_true, Bool.not_false, Bool.false_and, Bool.and_false, lst, set1, setA, gA, gI, gN, cc_or, cc_same, cc_pair]
      · cases h5 : betw id p n with
        | true => simp only [hj3, hk3, hp, le_rows, lj, li, lk, dF h2, dF h4, h5, gP, sBn, sBp, Option.bind_some, Int.toNat_natCast, Bool.and_self, Bool.and_true, Bool.true_and, cond_true, cond_false, decide_true, Bool.not_true, Bool.not_false, Bool.false_and, Bool.and_false, lst, set1, setA, gA, gI, gN, cc_or, cc_same, cc_pair]
        | false => simp only [hj3, hk3, hp, le_rows, lj, li, lk, dF h2, dF h4, h5, sBn, sBp, Option.bind_some, Int.toNat_natCast, Bool.and_self, Bool.and_true, Bool.true_and, cond_true, cond_false, decide_true, Bool.not_true, Bool.not_false, Bool.false_and, Bool.and_false, lst, set1, setA, gA, gI, gN, cc_or, cc_same, cc_pair]
  · simp only [hj3, hp, le_rows, lj, li, dF h1, sBn,  Option.bind_some, Int.toNat_natCast, Bool.and_self, Bool.and_true, Bool.true_and, cond_true, cond_false, decide_true, Bool.not_true, Bool.not_false, Bool.false_and, Bool.and_false, lst, set1, setA, gA, gI, gN, cc_or, cc_same, cc_pair]

theorem okz_set {t : Ty} {L : List (Den t)} (h : okz (.sl t) L) {x : Den t} (hx : okz t x) (i : Nat) : okz (.sl t) (L.set i x) :=
  ⟨by rw [List.length_set]; exact h.1, fun y hy => by
    rcases List.mem_or_eq_of_mem_set hy with hy | rfl
    · exact h.2 y hy
    · exact hx⟩

theorem okz_at {L : List (Den tPeer)} (h : okz (.sl tPeer) L) (i : Nat) : okz tPeer (L.getD i (dft tPeer)) := by
  rw [List.getD_eq_getElem?_getD]
  cases hi : L[i]? with
  | some x => exact h.2 x (List.mem_of_getElem? hi)
  | none => simp [okz, dft]

theorem fSettle_ok (L : List (Den tPeer)) (hL : okz (.sl tPeer) L) (id : Int) : okz (.sl tPeer) (fSettle L id).1 := by
  unfold fSettle
  cases decide (fPeerAt id 0 L < 0) with
  | true => exact hL
  | false =>
    cases decide (fNextOf L id < 0) with
    | true => exact hL
    | false =>
      have hB : ∀ (p : Den tPeer) (n : Int), okz tPeer p → okz tPeer (setB p (fBehind L n id)) := fun p n ⟨a, b, c, d, e⟩ => ⟨a, b, c, fBehind_ok L n id, e⟩
      have hA : ∀ (p : Den tPeer), okz tPeer p → okz tPeer (setA p id) := fun p ⟨a, b, c, d, e⟩ => ⟨a, b, trivial, d, e⟩
      simp only [cond_false]
      generalize (bif decide (0 ≤ fPeerAt (List.getD L (fPeerAt (fNextOf L id) 0 L).toNat (dft tPeer)).2.2.1 0 L) && (!decide ((List.getD L (fPeerAt (fNextOf L id) 0 L).toNat (dft tPeer)).2.2.1 = fNextOf L id) && (!decide ((List.getD L (fPeerAt (fNextOf L id) 0 L).toNat (dft tPeer)).2.2.1 = id) && betw id (List.getD L (fPeerAt (fNextOf L id) 0 L).toNat (dft tPeer)).2.2.1 (fNextOf L id))) then (List.getD L (fPeerAt (fNextOf L id) 0 L).toNat (dft tPeer)).2.2.1 else fNextOf L id) = n'
      have h1 : okz (.sl tPeer) (L.set (fPeerAt id 0 L).toNat (setB (L.getD (fPeerAt id 0 L).toNat (dft tPeer)) (fBehind L n' id))) := okz_set hL (hB _ _ (okz_at hL _)) _
      cases (decide (fPeerAt (List.getD L (fPeerAt n' 0 L).toNat (dft tPeer)).2.2.1 0 L < 0) || betw (List.getD L (fPeerAt n' 0 L).toNat (dft tPeer)).2.2.1 id n') with
      | true => exact okz_set h1 (hA _ (okz_at h1 _)) _
      | false => exact h1

theorem pure_FnExactSettle (a0 : Den tRing) (a1 : Den I) (g0 : good tRing a0) (g1 : good I a1) : ∃ N, x_laws_FnExactSettle N a0 a1 = some true := by
  refine ⟨1099511627776, ?_⟩
  have hN : Big 1099511627776 := Nat.le_refl _
  generalize 1099511627776 = N at hN
  unfold x_laws_FnExactSettle
  obtain ⟨k, e, hk⟩ := sz_Ring hN a0 g0 1048576 (by omega) (by omega)
  rw [e, Option.bind_some]
  rcases hk with hk | ⟨h1, h2, h⟩
  · rw [dT hk]; rfl
  · rw [dF (by omega), cond_false]
    have hr := fSettle_ok a0 h a1
    obtain ⟨L1, m1, e1, _, p1, p2⟩ := mark_Ring hN a0 h 1 (by omega) (by omega)
    obtain ⟨L2, m2, e2, e3, p3, p4⟩ := mark_Ring hN (fSettle a0 a1).1 hr 1 (by omega) (by omega)
    simp only [to_Ring hN a0 h, Option.bind_some, spec_Settle hN a0 h, impl_Settle hN a0 h, eq_Ring hN a0 h, eq_Ring hN _ hr, e1, e2, e3, Bool.not_true, cond_false, beq_self_eq_true]
    rw [dF (by omega), dF (by omega), dT trivial]
    rfl
end Go.Proofs.Ytcmlapepofgkpaa.C
