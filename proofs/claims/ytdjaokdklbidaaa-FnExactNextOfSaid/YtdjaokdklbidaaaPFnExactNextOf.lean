/- The data that the two functions compute are alike, for all arguments that memory can hold. -/
import Derived.Test.YtdjaokdklbidaaaHFnExactNextOf
set_option linter.unusedVariables false
set_option linter.unusedSimpArgs false
namespace Go.Proofs.Ytdjaokdklbidaaa.C
open Go Go.Proofs.Ytdjaokdklbidaaa.Nx Go.RowKit
theorem sz_IntS {N : Nat} (hN : Big N) (x : Den (.sl I)) (g : good (.sl I) x) : SzOk (x_laws_szIntS N x) (okz (.sl I) x) :=
  (SzOk.len g.1).mono fun h => ⟨h, fun _ _ => trivial⟩
theorem sz_Item {N : Nat} (hN : Big N) (x : Den tItem) (g : good tItem x) : SzOk (x_laws_szItem N x) (okz tItem x) :=
  (SzOk.len g.1).mono fun h => by
    repeat' (first | exact trivial | assumption | refine And.intro ?_ ?_)
theorem sz_ItemS {N : Nat} (hN : Big N) (x : Den (.sl tItem)) (g : good (.sl tItem) x) : SzOk (x_laws_szItemS N x) (okz (.sl tItem) x) :=
  sz_rows g (f := x_laws_szItem N) (fun y gy => sz_Item hN y gy) hN (fun _ _ _ _ => rfl)
theorem sz_Shelf {N : Nat} (hN : Big N) (x : Den tShelf) (g : good tShelf x) : SzOk (x_laws_szShelf N x) (okz tShelf x) :=
  (SzOk.last (sz_ItemS hN _ g.2)).mono fun h => by
    repeat' (first | exact trivial | assumption | refine And.intro ?_ ?_)
theorem sz_ShelfS {N : Nat} (hN : Big N) (x : Den (.sl tShelf)) (g : good (.sl tShelf) x) : SzOk (x_laws_szShelfS N x) (okz (.sl tShelf) x) :=
  sz_rows g (f := x_laws_szShelf N) (fun y gy => sz_Shelf hN y gy) hN (fun _ _ _ _ => rfl)
theorem sz_Peer {N : Nat} (hN : Big N) (x : Den tPeer) (g : good tPeer x) : SzOk (x_laws_szPeer N x) (okz tPeer x) :=
  (SzOk.bind (sz_IntS hN _ g.2.2.2.1) (SzOk.bind (sz_IntS hN _ g.2.2.2.2.1) (SzOk.last (sz_ShelfS hN _ g.2.2.2.2.2)))).mono fun h => by
    obtain ⟨h0, h1, h2⟩ := h; repeat' (first | exact trivial | assumption | refine And.intro ?_ ?_)
theorem sz_PeerS {N : Nat} (hN : Big N) (x : Den (.sl tPeer)) (g : good (.sl tPeer) x) : SzOk (x_laws_szPeerS N x) (okz (.sl tPeer) x) :=
  sz_rows g (f := x_laws_szPeer N) (fun y gy => sz_Peer hN y gy) hN (fun _ _ _ _ => rfl)
theorem sz_Ring {N : Nat} (hN : Big N) (x : Den tRing) (g : good tRing x) : SzOk (x_laws_szRing N x) (okz tRing x) :=
  (SzOk.last (sz_PeerS hN _ g)).mono fun h => by
    repeat' (first | exact trivial | assumption | refine And.intro ?_ ?_)
theorem to_IntS {N : Nat} (hN : Big N) (x : Den (.sl I)) (h : okz (.sl I) x) : x_laws_toIntS N x = some x :=
  to_rows h (f := fun y => some y) (fun y hy => rfl) hN (by decide) (fun _ _ _ _ => rfl)
theorem to_Item {N : Nat} (hN : Big N) (x : Den tItem) (h : okz tItem x) : x_laws_toItem N x = some x := rfl
theorem to_ItemS {N : Nat} (hN : Big N) (x : Den (.sl tItem)) (h : okz (.sl tItem) x) : x_laws_toItemS N x = some x :=
  to_rows h (f := x_laws_toItem N) (fun y hy => to_Item hN y hy) hN (by decide) (fun _ _ _ _ => rfl)
theorem to_Shelf {N : Nat} (hN : Big N) (x : Den tShelf) (h : okz tShelf x) : x_laws_toShelf N x = some x := by
  unfold x_laws_toShelf
  simp only [to_ItemS hN _ h.2, Option.bind_some] <;> rfl
theorem to_ShelfS {N : Nat} (hN : Big N) (x : Den (.sl tShelf)) (h : okz (.sl tShelf) x) : x_laws_toShelfS N x = some x :=
  to_rows h (f := x_laws_toShelf N) (fun y hy => to_Shelf hN y hy) hN (by decide) (fun _ _ _ _ => rfl)
theorem to_Peer {N : Nat} (hN : Big N) (x : Den tPeer) (h : okz tPeer x) : x_laws_toPeer N x = some x := by
  unfold x_laws_toPeer
  simp only [to_IntS hN _ h.2.2.2.1, to_IntS hN _ h.2.2.2.2.1, to_ShelfS hN _ h.2.2.2.2.2, Option.bind_some] <;> rfl
theorem to_PeerS {N : Nat} (hN : Big N) (x : Den (.sl tPeer)) (h : okz (.sl tPeer) x) : x_laws_toPeerS N x = some x :=
  to_rows h (f := x_laws_toPeer N) (fun y hy => to_Peer hN y hy) hN (by decide) (fun _ _ _ _ => rfl)
theorem to_Ring {N : Nat} (hN : Big N) (x : Den tRing) (h : okz tRing x) : x_laws_toRing N x = some x := by
  unfold x_laws_toRing
  simp only [to_PeerS hN _ h, Option.bind_some] <;> rfl
theorem eq_IntS {N : Nat} (hN : Big N) (x : Den (.sl I)) (h : okz (.sl I) x) : x_laws_eqIntS N x x = some true :=
  eq_rows h (f := fun y z => some (decide (y = z))) (fun y hy => by simp) hN (fun _ _ _ _ => rfl)
theorem eq_Item {N : Nat} (hN : Big N) (x : Den tItem) (h : okz tItem x) : x_laws_eqItem N x x = some true := by
  unfold x_laws_eqItem
  simp
theorem eq_ItemS {N : Nat} (hN : Big N) (x : Den (.sl tItem)) (h : okz (.sl tItem) x) : x_laws_eqItemS N x x = some true :=
  eq_rows h (f := x_laws_eqItem N) (fun y hy => eq_Item hN y hy) hN (fun _ _ _ _ => rfl)
theorem eq_Shelf {N : Nat} (hN : Big N) (x : Den tShelf) (h : okz tShelf x) : x_laws_eqShelf N x x = some true := by
  unfold x_laws_eqShelf
  simp [eq_ItemS hN _ h.2]
theorem eq_ShelfS {N : Nat} (hN : Big N) (x : Den (.sl tShelf)) (h : okz (.sl tShelf) x) : x_laws_eqShelfS N x x = some true :=
  eq_rows h (f := x_laws_eqShelf N) (fun y hy => eq_Shelf hN y hy) hN (fun _ _ _ _ => rfl)
theorem eq_Peer {N : Nat} (hN : Big N) (x : Den tPeer) (h : okz tPeer x) : x_laws_eqPeer N x x = some true := by
  unfold x_laws_eqPeer
  simp [eq_IntS hN _ h.2.2.2.1, eq_IntS hN _ h.2.2.2.2.1, eq_ShelfS hN _ h.2.2.2.2.2]
theorem eq_PeerS {N : Nat} (hN : Big N) (x : Den (.sl tPeer)) (h : okz (.sl tPeer) x) : x_laws_eqPeerS N x x = some true :=
  eq_rows h (f := x_laws_eqPeer N) (fun y hy => eq_Peer hN y hy) hN (fun _ _ _ _ => rfl)
theorem eq_Ring {N : Nat} (hN : Big N) (x : Den tRing) (h : okz tRing x) : x_laws_eqRing N x x = some true := by
  unfold x_laws_eqRing
  simp [eq_PeerS hN _ h]
end Go.Proofs.Ytdjaokdklbidaaa.C

namespace Go.Proofs.Ytdjaokdklbidaaa.C
open Go Go.Proofs.Ytdjaokdklbidaaa.Nx Go.RowKit
set_option linter.unusedVariables false
set_option linter.unusedSimpArgs false

/-- Where somebody stands that is there. -/
def fPeerAt (n : Int) : Nat → List (Den tPeer) → Int
  | _, [] => -1
  | i, p :: ps => bif p.2.1 && decide (p.1 = n) then i else fPeerAt n (i + 1) ps

theorem spec_PeerAt {N : Nat} (hN : Big N) (L : Den tRing) (hL : okz tRing L) (n : Int) : x_spec_PeerAt N L n = some (fPeerAt n 0 L) := by
  have hl := hL.1
  have hN' : 1099511627776 ≤ N := hN
  refine iter_row (L : List (Den tPeer)) (fun i => (n, L, (i : Int))) (fun i l => some (fPeerAt n i l)) (fun i hi rec_ h => ?_) (fun rec_ => ?_) (by omega)
  · show (bif _ then _ else _) = _
    simp only [lt_rows (L : List (Den tPeer)) hi, le_rows i, Bool.and_self, cond_true, getD_at (L : List (Den tPeer)) hi, w64_up (Nat.le_refl i) (by omega : i ≤ 140737488355328), h]
    simp only [fPeerAt]
    cases ((L : List (Den tPeer))[i]).2.1 <;> cases decide (((L : List (Den tPeer))[i]).1 = n) <;> rfl
  · show (bif _ then _ else _) = _
    rw [dF (Int.lt_irrefl _)]; rfl

theorem impl_peerHere {N : Nat} (hN : Big N) (L : Den tRing) (hL : okz tRing L) (n : Int) : x_impl_peerHere N L n = some (fPeerAt n 0 L) := by
  have hl := hL.1
  have hN' : 1099511627776 ≤ N := hN
  have key : x_slices_IndexFunc_impl_Peer_impl_Peer__impl_peerHere_1 N L n = some (fPeerAt n 0 L) := by
    refine iter_row (L : List (Den tPeer)) (fun i => (L, n, (List.length (α := Den tPeer) L : Int), (i : Int))) (fun i l => some (fPeerAt n i l)) (fun i hi rec_ h => ?_) (fun rec_ => ?_) (by omega)
    · show (bif _ then _ else _) = _
      simp only [lt_rows (L : List (Den tPeer)) hi, le_rows i, Bool.and_self, cond_true, getD_at (L : List (Den tPeer)) hi, w64_up (Nat.le_refl i) (by omega : i ≤ 140737488355328), h, x_impl_peerHere_1]
      simp only [fPeerAt]
      cases ((L : List (Den tPeer))[i]).2.1 <;> cases decide (((L : List (Den tPeer))[i]).1 = n) <;> rfl
    · show (bif _ then _ else _) = _
      rw [dF (Int.lt_irrefl _)]; rfl
  unfold x_impl_peerHere
  rw [key]; rfl

end Go.Proofs.Ytdjaokdklbidaaa.C

namespace Go.Proofs.Ytdjaokdklbidaaa.C
open Go Go.Proofs.Ytdjaokdklbidaaa.Nx Go.RowKit
set_option linter.unusedVariables false
set_option linter.unusedSimpArgs false

theorem fPeerAt_or (n : Int) : ∀ (l : List (Den tPeer)) (i : Nat), fPeerAt n i l = -1 ∨ ∃ j, i ≤ j ∧ j < i + l.length ∧ fPeerAt n i l = (j : Int)
  | [], i => .inl rfl
  | p :: ps, i => by
    unfold fPeerAt
    cases (p.2.1 && decide (p.1 = n))
    · rcases fPeerAt_or n ps (i + 1) with h | ⟨j, h1, h2, h3⟩
      · exact .inl h
      · exact .inr ⟨j, by omega, by simp only [List.length_cons]; omega, h3⟩
    · exact .inr ⟨i, Nat.le_refl _, by simp only [List.length_cons]; omega, rfl⟩

/-- The first of a row who is there. -/
def fNext (L : List (Den tPeer)) : List Int → Int
  | [] => -1
  | x :: xs => bif decide (0 ≤ fPeerAt x 0 L) then x else fNext L xs

/-- Who follows. -/
def fNextOf (L : List (Den tPeer)) (n : Int) : Int :=
  bif decide (fPeerAt n 0 L < 0) then -1 else fNext L (L.getD (fPeerAt n 0 L).toNat (dft tPeer)).2.2.2.1

theorem iter_one {σ R : Type} {B : (σ → Option R) → σ → Option R} {N : Nat} (hN : Big N) (s : σ) : ∃ M, iter B N s = B (iter B M) s := by
  have hN' : 1099511627776 ≤ N := hN
  obtain ⟨M, rfl⟩ : ∃ M, N = M + 1 := ⟨N - 1, by omega⟩
  exact ⟨M, rfl⟩

theorem spec_NextOf {N : Nat} (hN : Big N) (L : List (Den tPeer)) (hL : okz tRing L) (n : Int) : x_spec_NextOf N L n = some (fNextOf L n) := by
  have hl := hL.1
  have hN' : 1099511627776 ≤ N := hN
  unfold x_spec_NextOf fNextOf
  rw [spec_PeerAt hN L hL, Option.bind_some]
  rcases fPeerAt_or n L 0 with h | ⟨j, h1, h2, h3⟩
  · rw [h]
    obtain ⟨M, e⟩ := iter_one (B := B_spec_NextOf_L0 N (fun _ => some (-1 : Int)) (fun ρ3 => some (ρ3))) hN (L, (-1 : Int), (0 : Int))
    exact e
  · rw [h3]
    have hj : j < L.length := by omega
    rw [dF (by omega), getD_at L hj]
    have hp : okz tPeer L[j] := hL.2 _ (List.getElem_mem hj)
    obtain ⟨F, hF⟩ : ∃ F : List Int, F = L[j].2.2.2.1 := ⟨_, rfl⟩
    have hF2 : F.length ≤ 1048576 := by rw [hF]; exact hp.2.2.2.1.1
    rw [← hF]
    refine iter_row F (fun i => (L, (j : Int), (i : Int))) (fun i l => some (fNext L l)) (fun i hi rec_ h => ?_) (fun rec_ => ?_) (by omega)
    · show (bif _ then _ else _) = _
      simp only [lt_rows L hj, le_rows j, le_rows i, Bool.and_self, cond_true, getD_at L hj, ← hF, lt_rows F hi, getD_at F hi, w64_up (Nat.le_refl i) (by omega : i ≤ 140737488355328), h, spec_PeerAt hN L hL, Option.bind_some]
      simp only [fNext]
      cases decide (0 ≤ fPeerAt F[i] 0 L) <;> rfl
    · show (bif _ then _ else _) = _
      simp only [lt_rows L hj, le_rows j, Bool.and_self, cond_true, getD_at L hj, ← hF]
      rw [dF (Int.lt_irrefl _)]; rfl

theorem impl_NextOf {N : Nat} (hN : Big N) (L : List (Den tPeer)) (hL : okz tRing L) (n : Int) : x_impl_NextOf N L n = some (fNextOf L n) := by
  have hl := hL.1
  have hN' : 1099511627776 ≤ N := hN
  unfold x_impl_NextOf fNextOf
  rw [impl_peerHere hN L hL, Option.bind_some]
  rcases fPeerAt_or n L 0 with h | ⟨j, h1, h2, h3⟩
  · rw [h]; rfl
  · rw [h3]
    have hj : j < L.length := by omega
    simp only [lt_rows L hj, le_rows j, Bool.and_self, cond_true, getD_at L hj]
    rw [dF (by omega)]
    simp only [cond_false]
    have hp : okz tPeer L[j] := hL.2 _ (List.getElem_mem hj)
    obtain ⟨F, hF⟩ : ∃ F : List Int, F = L[j].2.2.2.1 := ⟨_, rfl⟩
    have hF2 : F.length ≤ 1048576 := by rw [hF]; exact hp.2.2.2.1.1
    rw [← hF]
    refine iter_row F (fun i => (L, F, (F.length : Int), (i : Int))) (fun i l => some (fNext L l)) (fun i hi rec_ h => ?_) (fun rec_ => ?_) (by omega)
    · show (bif _ then _ else _) = _
      simp only [le_rows i, Bool.and_self, cond_true, lt_rows F hi, getD_at F hi, w64_up (Nat.le_refl i) (by omega : i ≤ 140737488355328), h, impl_peerHere hN L hL, Option.bind_some]
      simp only [fNext]
      cases decide (0 ≤ fPeerAt F[i] 0 L) <;> rfl
    · show (bif _ then _ else _) = _
      rw [dF (Int.lt_irrefl _)]; rfl
end Go.Proofs.Ytdjaokdklbidaaa.C

namespace Go.Proofs.Ytdjaokdklbidaaa.C
open Go Go.Proofs.Ytdjaokdklbidaaa.Nx Go.RowKit
set_option linter.unusedVariables false
set_option linter.unusedSimpArgs false

theorem pure_FnExactNextOf (a0 : Den tRing) (a1 : Den I) (g0 : good tRing a0) (g1 : good I a1) : ∃ N, x_laws_FnExactNextOf N a0 a1 = some true := by
  refine ⟨1099511627776, ?_⟩
  have hN : Big 1099511627776 := Nat.le_refl _
  generalize 1099511627776 = N at hN
  unfold x_laws_FnExactNextOf
  obtain ⟨k, e, hk⟩ := sz_Ring hN a0 g0 1048576 (by omega) (by omega)
  rw [e, Option.bind_some]
  rcases hk with hk | ⟨h1, h2, h⟩
  · rw [dT hk]; rfl
  · rw [dF (by omega)]
    simp only [cond_false, to_Ring hN a0 h, Option.bind_some, spec_NextOf hN a0 h, impl_NextOf hN a0 h, eq_Ring hN a0 h, decide_true, Bool.not_true]
end Go.Proofs.Ytdjaokdklbidaaa.C
