/- The data that the two functions compute are alike, for all arguments that memory can hold. -/
import Derived.Test.YteadknjgpmnigaaHFnExactRingOk
set_option linter.unusedVariables false
set_option linter.unusedSimpArgs false
namespace Go.Proofs.Yteadknjgpmnigaa.C
open Go Go.Proofs.Yteadknjgpmnigaa.Nx Go.RowKit
theorem sz_IntS {N : Nat} (hN : Big N) (x : Den (.sl I)) (g : good (.sl I) x) : SzOk (x_laws_szIntS N x) (okz (.sl I) x) :=
  (SzOk.len g.1).mono fun h => ⟨h, fun _ _ => trivial⟩
theorem sz_Item {N : Nat} (hN : Big N) (x : Den tItem) (g : good tItem x) : SzOk (x_laws_szItem N x) (okz tItem x) :=
  (SzOk.len g.1).mono fun h => by
    repeat' (first | exact trivial | assumption | refine And.intro ?_ ?_)
theorem sz_ItemS {N : Nat} (hN : Big N) (x : Den (.sl tItem)) (g : good (.sl tItem) x) : SzOk (x_laws_szItemS N x) (okz (.sl tItem) x) :=
  sz_rows g (f := x_laws_szItem N) (fun y gy => sz_Item hN y gy) hN (fun _ _ _ _ => rfl)
theorem sz_Shelf {N : Nat} (hN : Big N) (x : Den tShelf) (g : good tShelf x) : SzOk (x_laws_szShelf N x) (okz tShelf x) :=
  (SzOk.last (sz_ItemS hN _ g.2)).mono fun h => by
    repeat' (first | exact trivial | assumption | refine And.intro ?_ ?_)
theorem sz_ShelfS {N : Nat} (hN : Big N) (x : Den (.sl tShelf)) (g : good (.sl tShelf) x) : SzOk (x_laws_szShelfS N x) (okz (.sl tShelf) x) :=
  sz_rows g (f := x_laws_szShelf N) (fun y gy => sz_Shelf hN y gy) hN (fun _ _ _ _ => rfl)
theorem sz_Peer {N : Nat} (hN : Big N) (x : Den tPeer) (g : good tPeer x) : SzOk (x_laws_szPeer N x) (okz tPeer x) :=
  (SzOk.bind (sz_IntS hN _ g.2.2.2.1) (SzOk.bind (sz_IntS hN _ g.2.2.2.2.1) (SzOk.last (sz_ShelfS hN _ g.2.2.2.2.2)))).mono fun h => by
    obtain ⟨h0, h1, h2⟩ := h; repeat' (first | exact trivial | assumption | refine And.intro ?_ ?_)
theorem sz_PeerS {N : Nat} (hN : Big N) (x : Den (.sl tPeer)) (g : good (.sl tPeer) x) : SzOk (x_laws_szPeerS N x) (okz (.sl tPeer) x) :=
  sz_rows g (f := x_laws_szPeer N) (fun y gy => sz_Peer hN y gy) hN (fun _ _ _ _ => rfl)
theorem sz_Ring {N : Nat} (hN : Big N) (x : Den tRing) (g : good tRing x) : SzOk (x_laws_szRing N x) (okz tRing x) :=
  (SzOk.last (sz_PeerS hN _ g)).mono fun h => by
    repeat' (first | exact trivial | assumption | refine And.intro ?_ ?_)
theorem to_IntS {N : Nat} (hN : Big N) (x : Den (.sl I)) (h : okz (.sl I) x) : x_laws_toIntS N x = some x :=
  to_rows h (f := fun y => some y) (fun y hy => rfl) hN (by decide) (fun _ _ _ _ => rfl)
theorem to_Item {N : Nat} (hN : Big N) (x : Den tItem) (h : okz tItem x) : x_laws_toItem N x = some x := rfl
theorem to_ItemS {N : Nat} (hN : Big N) (x : Den (.sl tItem)) (h : okz (.sl tItem) x) : x_laws_toItemS N x = some x :=
  to_rows h (f := x_laws_toItem N) (fun y hy => to_Item hN y hy) hN (by decide) (fun _ _ _ _ => rfl)
theorem to_Shelf {N : Nat} (hN : Big N) (x : Den tShelf) (h : okz tShelf x) : x_laws_toShelf N x = some x := by
  unfold x_laws_toShelf
  simp only [to_ItemS hN _ h.2, Option.bind_some] <;> rfl
theorem to_ShelfS {N : Nat} (hN : Big N) (x : Den (.sl tShelf)) (h : okz (.sl tShelf) x) : x_laws_toShelfS N x = some x :=
  to_rows h (f := x_laws_toShelf N) (fun y hy => to_Shelf hN y hy) hN (by decide) (fun _ _ _ _ => rfl)
theorem to_Peer {N : Nat} (hN : Big N) (x : Den tPeer) (h : okz tPeer x) : x_laws_toPeer N x = some x := by
  unfold x_laws_toPeer
  simp only [to_IntS hN _ h.2.2.2.1, to_IntS hN _ h.2.2.2.2.1, to_ShelfS hN _ h.2.2.2.2.2, Option.bind_some] <;> rfl
theorem to_PeerS {N : Nat} (hN : Big N) (x : Den (.sl tPeer)) (h : okz (.sl tPeer) x) : x_laws_toPeerS N x = some x :=
  to_rows h (f := x_laws_toPeer N) (fun y hy => to_Peer hN y hy) hN (by decide) (fun _ _ _ _ => rfl)
theorem to_Ring {N : Nat} (hN : Big N) (x : Den tRing) (h : okz tRing x) : x_laws_toRing N x = some x := by
  unfold x_laws_toRing
  simp only [to_PeerS hN _ h, Option.bind_some] <;> rfl
theorem eq_IntS {N : Nat} (hN : Big N) (x : Den (.sl I)) (h : okz (.sl I) x) : x_laws_eqIntS N x x = some true :=
  eq_rows h (f := fun y z => some (decide (y = z))) (fun y hy => by simp) hN (fun _ _ _ _ => rfl)
theorem eq_Item {N : Nat} (hN : Big N) (x : Den tItem) (h : okz tItem x) : x_laws_eqItem N x x = some true := by
  unfold x_laws_eqItem
  simp
theorem eq_ItemS {N : Nat} (hN : Big N) (x : Den (.sl tItem)) (h : okz (.sl tItem) x) : x_laws_eqItemS N x x = some true :=
  eq_rows h (f := x_laws_eqItem N) (fun y hy => eq_Item hN y hy) hN (fun _ _ _ _ => rfl)
theorem eq_Shelf {N : Nat} (hN : Big N) (x : Den tShelf) (h : okz tShelf x) : x_laws_eqShelf N x x = some true := by
  unfold x_laws_eqShelf
  simp [eq_ItemS hN _ h.2]
theorem eq_ShelfS {N : Nat} (hN : Big N) (x : Den (.sl tShelf)) (h : okz (.sl tShelf) x) : x_laws_eqShelfS N x x = some true :=
  eq_rows h (f := x_laws_eqShelf N) (fun y hy => eq_Shelf hN y hy) hN (fun _ _ _ _ => rfl)
theorem eq_Peer {N : Nat} (hN : Big N) (x : Den tPeer) (h : okz tPeer x) : x_laws_eqPeer N x x = some true := by
  unfold x_laws_eqPeer
  simp [eq_IntS hN _ h.2.2.2.1, eq_IntS hN _ h.2.2.2.2.1, eq_ShelfS hN _ h.2.2.2.2.2]
theorem eq_PeerS {N : Nat} (hN : Big N) (x : Den (.sl tPeer)) (h : okz (.sl tPeer) x) : x_laws_eqPeerS N x x = some true :=
  eq_rows h (f := x_laws_eqPeer N) (fun y hy => eq_Peer hN y hy) hN (fun _ _ _ _ => rfl)
theorem eq_Ring {N : Nat} (hN : Big N) (x : Den tRing) (h : okz tRing x) : x_laws_eqRing N x x = some true := by
  unfold x_laws_eqRing
  simp [eq_PeerS hN _ h]
end Go.Proofs.Yteadknjgpmnigaa.C

namespace Go.Proofs.Yteadknjgpmnigaa.C
open Go Go.Proofs.Yteadknjgpmnigaa.Nx Go.RowKit
set_option linter.unusedVariables false
set_option linter.unusedSimpArgs false

theorem peta {α β : Type} (p : α × β) : (p.1, p.2) = p := rfl

def inR (n a b : Int) : Bool := decide (a ≤ n) && decide (n ≤ b)
theorem in_eq (N : Nat) (n a b : Int) : x_impl_in N n a b = some (inR n a b) := by
  unfold x_impl_in inR
  cases decide (a ≤ n) <;> rfl
theorem l01In_eq (N : Nat) (n a b : Int) : x_spec_l01In N n a b = some (inR n a b) := by
  unfold x_spec_l01In inR
  cases decide (a ≤ n) <;> rfl
end Go.Proofs.Yteadknjgpmnigaa.C

namespace Go.Proofs.Yteadknjgpmnigaa.C
open Go Go.Proofs.Yteadknjgpmnigaa.Nx Go.RowKit
set_option linter.unusedVariables false
set_option linter.unusedSimpArgs false

/-- Where somebody stands that is there. -/
def fPeerAt (n : Int) : Nat → List (Den tPeer) → Int
  | _, [] => -1
  | i, p :: ps => bif p.2.1 && decide (p.1 = n) then i else fPeerAt n (i + 1) ps

theorem spec_PeerAt {N : Nat} (hN : Big N) (L : Den tRing) (hL : okz tRing L) (n : Int) : x_spec_PeerAt N L n = some (fPeerAt n 0 L) := by
  have hl := hL.1
  have hN' : 1099511627776 ≤ N := hN
  refine iter_row (L : List (Den tPeer)) (fun i => (n, L, (i : Int))) (fun i l => some (fPeerAt n i l)) (fun i hi rec_ h => ?_) (fun rec_ => ?_) (by omega)
  · show (bif _ then _ else _) = _
    simp only [lt_rows (L : List (Den tPeer)) hi, le_rows i, Bool.and_self, cond_true, getD_at (L : List (Den tPeer)) hi, w64_up (Nat.le_refl i) (by omega : i ≤ 140737488355328), h]
    simp only [fPeerAt]
    cases ((L : List (Den tPeer))[i]).2.1 <;> cases decide (((L : List (Den tPeer))[i]).1 = n) <;> rfl
  · show (bif _ then _ else _) = _
    rw [dF (Int.lt_irrefl _)]; rfl

theorem impl_peerHere {N : Nat} (hN : Big N) (L : Den tRing) (hL : okz tRing L) (n : Int) : x_impl_peerHere N L n = some (fPeerAt n 0 L) := by
  have hl := hL.1
  have hN' : 1099511627776 ≤ N := hN
  have key : x_slices_IndexFunc_impl_Peer_impl_Peer__impl_peerHere_1 N L n = some (fPeerAt n 0 L) := by
    refine iter_row (L : List (Den tPeer)) (fun i => (L, n, (List.length (α := Den tPeer) L : Int), (i : Int))) (fun i l => some (fPeerAt n i l)) (fun i hi rec_ h => ?_) (fun rec_ => ?_) (by omega)
    · show (bif _ then _ else _) = _
      simp only [lt_rows (L : List (Den tPeer)) hi, le_rows i, Bool.and_self, cond_true, getD_at (L : List (Den tPeer)) hi, w64_up (Nat.le_refl i) (by omega : i ≤ 140737488355328), h, x_impl_peerHere_1]
      simp only [fPeerAt]
      cases ((L : List (Den tPeer))[i]).2.1 <;> cases decide (((L : List (Den tPeer))[i]).1 = n) <;> rfl
    · show (bif _ then _ else _) = _
      rw [dF (Int.lt_irrefl _)]; rfl
  unfold x_impl_peerHere
  rw [key]; rfl

end Go.Proofs.Yteadknjgpmnigaa.C

namespace Go.Proofs.Yteadknjgpmnigaa.C
open Go Go.Proofs.Yteadknjgpmnigaa.Nx Go.RowKit
set_option linter.unusedVariables false
set_option linter.unusedSimpArgs false

theorem fPeerAt_or (n : Int) : ∀ (l : List (Den tPeer)) (i : Nat), fPeerAt n i l = -1 ∨ ∃ j, i ≤ j ∧ j < i + l.length ∧ fPeerAt n i l = (j : Int)
  | [], i => .inl rfl
  | p :: ps, i => by
    unfold fPeerAt
    cases (p.2.1 && decide (p.1 = n))
    · rcases fPeerAt_or n ps (i + 1) with h | ⟨j, h1, h2, h3⟩
      · exact .inl h
      · exact .inr ⟨j, by omega, by simp only [List.length_cons]; omega, h3⟩
    · exact .inr ⟨i, Nat.le_refl _, by simp only [List.length_cons]; omega, rfl⟩

/-- The first of a row who is there. -/
def fNext (L : List (Den tPeer)) : List Int → Int
  | [] => -1
  | x :: xs => bif decide (0 ≤ fPeerAt x 0 L) then x else fNext L xs

/-- Who follows. -/
def fNextOf (L : List (Den tPeer)) (n : Int) : Int :=
  bif decide (fPeerAt n 0 L < 0) then -1 else fNext L (L.getD (fPeerAt n 0 L).toNat (dft tPeer)).2.2.2.1

theorem iter_one {σ R : Type} {B : (σ → Option R) → σ → Option R} {N : Nat} (hN : Big N) (s : σ) : ∃ M, iter B N s = B (iter B M) s := by
  have hN' : 1099511627776 ≤ N := hN
  obtain ⟨M, rfl⟩ : ∃ M, N = M + 1 := ⟨N - 1, by omega⟩
  exact ⟨M, rfl⟩

theorem spec_NextOf {N : Nat} (hN : Big N) (L : List (Den tPeer)) (hL : okz tRing L) (n : Int) : x_spec_NextOf N L n = some (fNextOf L n) := by
  have hl := hL.1
  have hN' : 1099511627776 ≤ N := hN
  unfold x_spec_NextOf fNextOf
  rw [spec_PeerAt hN L hL, Option.bind_some]
  rcases fPeerAt_or n L 0 with h | ⟨j, h1, h2, h3⟩
  · rw [h]
    obtain ⟨M, e⟩ := iter_one (B := B_spec_NextOf_L0 N (fun _ => some (-1 : Int)) (fun ρ3 => some (ρ3))) hN (L, (-1 : Int), (0 : Int))
    exact e
  · rw [h3]
    have hj : j < L.length := by omega
    rw [dF (by omega), getD_at L hj]
    have hp : okz tPeer L[j] := hL.2 _ (List.getElem_mem hj)
    obtain ⟨F, hF⟩ : ∃ F : List Int, F = L[j].2.2.2.1 := ⟨_, rfl⟩
    have hF2 : F.length ≤ 1048576 := by rw [hF]; exact hp.2.2.2.1.1
    rw [← hF]
    refine iter_row F (fun i => (L, (j : Int), (i : Int))) (fun i l => some (fNext L l)) (fun i hi rec_ h => ?_) (fun rec_ => ?_) (by omega)
    · show (bif _ then _ else _) = _
      simp only [lt_rows L hj, le_rows j, le_rows i, Bool.and_self, cond_true, getD_at L hj, ← hF, lt_rows F hi, getD_at F hi, w64_up (Nat.le_refl i) (by omega : i ≤ 140737488355328), h, spec_PeerAt hN L hL, Option.bind_some]
      simp only [fNext]
      cases decide (0 ≤ fPeerAt F[i] 0 L) <;> rfl
    · show (bif _ then _ else _) = _
      simp only [lt_rows L hj, le_rows j, Bool.and_self, cond_true, getD_at L hj, ← hF]
      rw [dF (Int.lt_irrefl _)]; rfl

end Go.Proofs.Yteadknjgpmnigaa.C

namespace Go.Proofs.Yteadknjgpmnigaa.C
open Go Go.Proofs.Yteadknjgpmnigaa.Nx Go.RowKit
set_option linter.unusedVariables false
set_option linter.unusedSimpArgs false

/-- An item that may stand at a place of a shelf. -/
def itemAt (l : List (Den tItem)) (i : Nat) (x : Den tItem) : Bool :=
  !decide ((600 : Int) < (x.1.size : Int)) && (bif decide ((0 : Int) < (i : Int)) then Op.bytesLess (l.getD (i - 1) (dft tItem)).1.toList x.1.toList else true)

/-- Items that are right, but for their number. -/
def itemsOk (l : List (Den tItem)) : Bool := allI (itemAt l) 0 l

/-- A shelf that may stand at a place. -/
def shelfAt (l : List (Den tShelf)) (i : Nat) (s : Den tShelf) : Bool :=
  inR s.1 0 255 && ((bif decide ((0 : Int) < (i : Int)) then !decide (s.1 ≤ (l.getD (i - 1) (dft tShelf)).1) else true) && (itemsOk s.2 && decide ((s.2.length : Int) ≤ 300)))

/-- Somebody who is right. -/
def peerOk (p : Den tPeer) : Bool :=
  inR p.1 0 255 && (bif p.2.1 then inR p.2.2.1 (-1) 255 && (!decide ((3 : Int) < (p.2.2.2.1.length : Int)) && (decide ((p.2.2.2.2.1.length : Int) = 8) && (!decide ((80 : Int) < (p.2.2.2.2.2.length : Int)) &&
    (allI (fun _ x => inR x 0 255 && !decide (x = p.1)) 0 p.2.2.2.1 && (allI (fun _ x => inR x (-1) 255) 0 p.2.2.2.2.1 && allI (shelfAt p.2.2.2.2.2) 0 p.2.2.2.2.2)))))
    else decide (p.2.2.1 = 0) && (decide ((p.2.2.2.1.length : Int) = 0) && (decide ((p.2.2.2.2.1.length : Int) = 0) && decide ((p.2.2.2.2.2.length : Int) = 0))))

theorem pred_eq {i : Nat} (h : 0 < i) : i = (i - 1) + 1 := by omega

theorem l09Items {N : Nat} (hN : Big N) (l : List (Den tItem)) (hl : l.length ≤ 1048576) : x_spec_l09Items N l = some (itemsOk l && decide ((l.length : Int) ≤ 300)) := by
  have hN' : 1099511627776 ≤ N := hN
  have := iter_all (B := B_spec_l09Items_L0 N (fun x1 => some (decide ((x1.length : Int) ≤ (300 : Int)))) (fun ρ2 => some (ρ2))) l (fun i => (l, (i : Int))) (itemAt l) (some (decide ((l.length : Int) ≤ 300))) (some false)
    (fun i hi rec_ => by
      show (bif _ then _ else _) = _
      simp only [lt_rows l hi, le_rows i, Bool.and_self, cond_true, getD_at l hi, w64_up (Nat.le_refl i) (by omega : i ≤ 140737488355328)]
      unfold itemAt
      cases decide ((600 : Int) < (l[i].1.size : Int))
      · simp only [cond_false, Bool.not_false, Bool.true_and]
        rcases i with _ | k
        · rfl
        · have hk : k < l.length := by omega
          simp only [w64_dn (by omega : k ≤ 140737488355328), lt_rows l hk, le_rows k, Bool.and_self, cond_true, getD_at l hk, Nat.add_sub_cancel]
          rw [dT (by omega)]
          simp only [cond_true]
          have e : l.getD k (dft tItem) = l[k] := by simp [List.getD, hk]
          rw [e]
          cases Op.bytesLess l[k].1.toList l[k + 1].1.toList <;> rfl
      · rfl)
    (fun rec_ => by
      show (bif _ then _ else _) = _
      rw [dF (Int.lt_irrefl _)]; rfl) (N := N) (by omega)
  unfold x_spec_l09Items itemsOk
  refine Eq.trans this ?_
  cases allI (itemAt l) 0 l <;> rfl

theorem isPlace (N : Nat) (n : Int) : x_impl_isPlace N n = some (inR n 0 255) := by
  unfold x_impl_isPlace
  rw [in_eq]; rfl

theorem spec_PeerOk {N : Nat} (hN : Big N) (p : Den tPeer) (hp : okz tPeer p) : x_spec_PeerOk N p = some (peerOk p) := by
  have hN' : 1099511627776 ≤ N := hN
  obtain ⟨-, -, -, hB, hF, hS⟩ := hp
  have b0 := hB.1
  have f0 := hF.1
  have s0 := hS.1
  unfold x_spec_PeerOk peerOk
  simp only [l01In_eq, Option.bind_some]
  cases inR p.1 0 255
  · rfl
  cases p.2.1
  · simp only [Bool.not_true, Bool.not_false, cond_true, cond_false, Bool.true_and]
    cases decide (p.2.2.1 = 0) <;> cases decide ((p.2.2.2.1.length : Int) = 0) <;> cases decide ((p.2.2.2.2.1.length : Int) = 0) <;> rfl
  cases inR p.2.2.1 (-1) 255
  · rfl
  cases decide ((3 : Int) < (p.2.2.2.1.length : Int))
  case true => rfl
  cases decide ((p.2.2.2.2.1.length : Int) = 8)
  · rfl
  cases decide ((80 : Int) < (p.2.2.2.2.2.length : Int))
  case true => rfl
  simp only [Bool.not_true, Bool.not_false, cond_true, cond_false, Bool.true_and]
  have e4 := iter_all (B := B_spec_PeerOk_L4 N (fun _ => some true) (fun ρ10 => some (ρ10))) p.2.2.2.2.2 (fun i => (p, (i : Int))) (shelfAt p.2.2.2.2.2) (some true) (some false)
    (fun i hi rec_ => by
      have hx : okz tShelf p.2.2.2.2.2[i] := hS.2 _ (List.getElem_mem hi)
      show (bif _ then _ else _) = _
      simp only [lt_rows p.2.2.2.2.2 hi, le_rows i, Bool.and_self, cond_true, getD_at p.2.2.2.2.2 hi, w64_up (Nat.le_refl i) (by omega : i ≤ 140737488355328), l01In_eq, Option.bind_some, l09Items hN _ hx.2.1]
      unfold shelfAt
      cases inR p.2.2.2.2.2[i].1 0 255
      · rfl
      simp only [cond_false, Bool.not_true, Bool.true_and]
      rcases i with _ | k
      · simp only [show decide ((0 : Int) < ((0 : Nat) : Int)) = false from rfl, cond_false, Bool.true_and]
        cases (itemsOk p.2.2.2.2.2[0].2 && decide ((p.2.2.2.2.2[0].2.length : Int) ≤ 300)) <;> rfl
      · have hk : k < p.2.2.2.2.2.length := by omega
        simp only [w64_dn (by omega : k ≤ 140737488355328), lt_rows p.2.2.2.2.2 hk, le_rows k, Bool.and_self, cond_true, getD_at p.2.2.2.2.2 hk, Nat.add_sub_cancel]
        rw [dT (by omega : (0 : Int) < ((k + 1 : Nat) : Int))]
        have e : p.2.2.2.2.2.getD k (dft tShelf) = p.2.2.2.2.2[k] := by simp [List.getD, hk]
        rw [e]
        simp only [cond_true]
        cases decide (p.2.2.2.2.2[k + 1].1 ≤ p.2.2.2.2.2[k].1)
        · cases (itemsOk p.2.2.2.2.2[k + 1].2 && decide ((p.2.2.2.2.2[k + 1].2.length : Int) ≤ 300)) <;> rfl
        · rfl)
    (fun rec_ => by
      show (bif _ then _ else _) = _
      rw [dF (Int.lt_irrefl _)]; rfl) (N := N) (by omega)
  have e2 := iter_all (B := B_spec_PeerOk_L2 N (fun x6 => iter (B_spec_PeerOk_L4 N (fun _ => some true) (fun ρ10 => some (ρ10))) N (x6, (0 : Int))) (fun ρ11 => some (ρ11))) p.2.2.2.2.1 (fun i => (p, (i : Int))) (fun _ x => inR x (-1) 255) (bif allI (shelfAt p.2.2.2.2.2) 0 p.2.2.2.2.2 then some true else some false) (some false)
    (fun i hi rec_ => by
      show (bif _ then _ else _) = _
      simp only [lt_rows p.2.2.2.2.1 hi, le_rows i, Bool.and_self, cond_true, getD_at p.2.2.2.2.1 hi, w64_up (Nat.le_refl i) (by omega : i ≤ 140737488355328), l01In_eq, Option.bind_some]
      cases inR p.2.2.2.2.1[i] (-1) 255 <;> rfl)
    (fun rec_ => by
      show (bif _ then _ else _) = _
      rw [dF (Int.lt_irrefl _)]; exact e4) (N := N) (by omega)
  have e0 := iter_all (B := B_spec_PeerOk_L0 N (fun x4 => iter (B_spec_PeerOk_L2 N (fun x6 => iter (B_spec_PeerOk_L4 N (fun _ => some true) (fun ρ10 => some (ρ10))) N (x6, (0 : Int))) (fun ρ11 => some (ρ11))) N (x4, (0 : Int))) (fun ρ12 => some (ρ12))) p.2.2.2.1 (fun i => (p, (i : Int))) (fun _ x => inR x 0 255 && !decide (x = p.1)) (bif allI (fun _ x => inR x (-1) 255) 0 p.2.2.2.2.1 then (bif allI (shelfAt p.2.2.2.2.2) 0 p.2.2.2.2.2 then some true else some false) else some false) (some false)
    (fun i hi rec_ => by
      show (bif _ then _ else _) = _
      simp only [lt_rows p.2.2.2.1 hi, le_rows i, Bool.and_self, cond_true, getD_at p.2.2.2.1 hi, w64_up (Nat.le_refl i) (by omega : i ≤ 140737488355328), l01In_eq, Option.bind_some]
      cases inR p.2.2.2.1[i] 0 255 <;> cases decide (p.2.2.2.1[i] = p.1) <;> rfl)
    (fun rec_ => by
      show (bif _ then _ else _) = _
      rw [dF (Int.lt_irrefl _)]; exact e2) (N := N) (by omega)
  refine Eq.trans e0 ?_
  cases allI (fun _ x => inR x 0 255 && !decide (x = p.1)) 0 p.2.2.2.1 <;> cases allI (fun _ x => inR x (-1) 255) 0 p.2.2.2.2.1 <;> cases allI (shelfAt p.2.2.2.2.2) 0 p.2.2.2.2.2 <;> rfl

theorem any_all {α : Type} (p q : α → Bool) (h : ∀ x, q x = !p x) (l : List α) : allI (fun _ => q) 0 l = !l.any p := by
  rw [allI_all]
  induction l with
  | nil => rfl
  | cons x xs ih => rw [List.all_cons, List.any_cons, ih, h]; cases p x <;> rfl

theorem contains1 {N : Nat} (hN : Big N) (p : Den tPeer) (l : List Int) (hl : l.length ≤ 1048576) : x_slices_ContainsFunc_int_int__impl_PeerOk_1 N l p = some (l.any fun x => !inR x 0 255 || decide (x = p.1)) := by
  unfold x_slices_ContainsFunc_int_int__impl_PeerOk_1 x_slices_IndexFunc_int_int__impl_PeerOk_1
  have := index_func (d := (0 : Int)) (L := l) (by omega) p (f := fun x => x_impl_PeerOk_1 N x p) (fun x => !inR x 0 255 || decide (x = p.1))
    (fun x _ => by
      show x_impl_PeerOk_1 N x p = _
      unfold x_impl_PeerOk_1
      simp only [isPlace, Option.bind_some]
      cases inR x 0 255 <;> rfl) hN (B := B_slices_IndexFunc_int_int__impl_PeerOk_1_L0 N (fun _ => some (-1 : Int)) (fun ρ2 => some (ρ2))) (fun _ _ _ _ => rfl)
  rw [this, Option.bind_some, findI_any]

theorem contains2 {N : Nat} (hN : Big N) (l : List Int) (hl : l.length ≤ 1048576) : x_slices_ContainsFunc_int_int__impl_PeerOk_2 N l = some (l.any fun x => !inR x (-1) 255) := by
  unfold x_slices_ContainsFunc_int_int__impl_PeerOk_2 x_slices_IndexFunc_int_int__impl_PeerOk_2
  have := index_func (d := (0 : Int)) (L := l) (by omega) () (f := fun x => x_impl_PeerOk_2 N x) (fun x => !inR x (-1) 255)
    (fun x _ => by
      show x_impl_PeerOk_2 N x = _
      unfold x_impl_PeerOk_2
      simp only [isPlace, Option.bind_some]
      by_cases h : x = -1
      · rw [h]; rfl
      · rw [dF h]
        have : inR x 0 255 = inR x (-1) 255 := by
          unfold inR
          by_cases h0 : (0 : Int) ≤ x
          · rw [dT h0, dT (by omega : (-1 : Int) ≤ x)]
          · rw [dF h0, dF (by omega : ¬(-1 : Int) ≤ x)]
        rw [this]; rfl) hN (B := B_slices_IndexFunc_int_int__impl_PeerOk_2_L0 N (fun _ => some (-1 : Int)) (fun ρ2 => some (ρ2))) (fun _ _ _ _ => rfl)
  rw [this, Option.bind_some, findI_any]

theorem shelvesOk {N : Nat} (hN : Big N) (l : List (Den tShelf)) (hS : okz (.sl tShelf) l) : x_impl_shelvesOk N l = some (!decide ((80 : Int) < (l.length : Int)) && allI (shelfAt l) 0 l) := by
  have hN' : 1099511627776 ≤ N := hN
  have s0 := hS.1
  unfold x_impl_shelvesOk
  cases decide ((80 : Int) < (l.length : Int))
  case true => rfl
  have e := iter_all (B := B_impl_shelvesOk_L0 N (fun _ => some true) (fun ρ12 => some (ρ12))) l (fun i => (l, l, (l.length : Int), (i : Int))) (shelfAt l) (some true) (some false)
    (fun i hi rec_ => by
      have hx : okz tShelf l[i] := hS.2 _ (List.getElem_mem hi)
      have h0 := hx.2.1
      have inner : ∀ (a : Option Bool) (kx : (List (Den tShelf)) × (List (Den tShelf)) × Int × Int → Option Bool) (s0 s10 : List (Den tShelf)) (s11 s12 : Int), iter (B_impl_shelvesOk_L2 N kx (fun ρ6 => some ρ6)) N (s0, (l[i].1, l[i].2), s10, s11, s12, l[i].2, (l[i].2.length : Int), (0 : Int)) = bif itemsOk l[i].2 then kx (s0, s10, s11, s12) else some false := by
        intro a kx s0 s10 s11 s12
        exact iter_all (B := B_impl_shelvesOk_L2 N kx (fun ρ6 => some ρ6)) l[i].2 (fun j => (s0, (l[i].1, l[i].2), s10, s11, s12, l[i].2, (l[i].2.length : Int), (j : Int))) (itemAt l[i].2) (kx (s0, s10, s11, s12)) (some false)
          (fun j hj rec_ => by
            show (bif _ then _ else _) = _
            simp only [lt_rows l[i].2 hj, le_rows j, Bool.and_self, cond_true, getD_at l[i].2 hj, w64_up (Nat.le_refl j) (by omega : j ≤ 140737488355328)]
            unfold itemAt
            cases decide ((600 : Int) < (l[i].2[j].1.size : Int))
            · simp only [cond_false, Bool.not_false, Bool.true_and]
              rcases j with _ | k
              · rfl
              · have hk : k < l[i].2.length := by omega
                simp only [w64_dn (by omega : k ≤ 140737488355328), lt_rows l[i].2 hk, le_rows k, Bool.and_self, cond_true, getD_at l[i].2 hk, Nat.add_sub_cancel]
                rw [dT (by omega)]
                simp only [cond_true]
                have e : l[i].2.getD k (dft tItem) = l[i].2[k] := by simp [List.getD, hk]
                rw [e]
                cases Op.bytesLess l[i].2[k].1.toList l[i].2[k + 1].1.toList <;> rfl
            · rfl)
          (fun rec_ => by
            show (bif _ then _ else _) = _
            rw [dF (Int.lt_irrefl _)]; rfl) (N := N) (by omega)
      show (bif _ then _ else _) = _
      simp only [lt_rows l hi, le_rows i, Bool.and_self, cond_true, getD_at l hi, w64_up (Nat.le_refl i) (by omega : i ≤ 140737488355328), isPlace, Option.bind_some, inner none]
      unfold shelfAt
      cases inR l[i].1 0 255
      · rfl
      simp only [cond_false, Bool.not_true, Bool.true_and]
      have e300 : decide ((l[i].2.length : Int) ≤ 300) = !decide ((300 : Int) < (l[i].2.length : Int)) := by
        by_cases h : (l[i].2.length : Int) ≤ 300
        · rw [dT h, dF (by omega)]; rfl
        · rw [dF h, dT (by omega)]; rfl
      rw [e300]
      rcases i with _ | k
      · simp only [show decide ((0 : Int) < ((0 : Nat) : Int)) = false from rfl, cond_false, Bool.true_and]
        cases decide ((300 : Int) < (l[0].2.length : Int)) <;> cases itemsOk l[0].2 <;> rfl
      · have hk : k < l.length := by omega
        simp only [w64_dn (by omega : k ≤ 140737488355328), lt_rows l hk, le_rows k, Bool.and_self, cond_true, getD_at l hk, Nat.add_sub_cancel]
        rw [dT (by omega : (0 : Int) < ((k + 1 : Nat) : Int))]
        have e : l.getD k (dft tShelf) = l[k] := by simp [List.getD, hk]
        rw [e]
        simp only [cond_true]
        cases decide (l[k + 1].1 ≤ l[k].1) <;> cases decide ((300 : Int) < (l[k + 1].2.length : Int)) <;> cases itemsOk l[k + 1].2 <;> rfl)
    (fun rec_ => by
      show (bif _ then _ else _) = _
      rw [dF (Int.lt_irrefl _)]; rfl) (N := N) (by omega)
  refine Eq.trans e ?_
  cases allI (shelfAt l) 0 l <;> rfl

theorem impl_PeerOk {N : Nat} (hN : Big N) (p : Den tPeer) (hp : okz tPeer p) : x_impl_PeerOk N p = some (peerOk p) := by
  obtain ⟨-, -, -, hB, hF, hS⟩ := hp
  unfold x_impl_PeerOk peerOk
  simp only [isPlace, Option.bind_some, contains1 hN p _ hB.1, contains2 hN _ hF.1, shelvesOk hN _ hS, any_all (fun x => !inR x 0 255 || decide (x = p.1)) (fun x => inR x 0 255 && !decide (x = p.1)) (fun x => by cases inR x 0 255 <;> cases decide (x = p.1) <;> rfl), any_all (fun x => !inR x (-1) 255) (fun x => inR x (-1) 255) (fun x => by cases inR x (-1) 255 <;> rfl)]
  cases inR p.1 0 255
  · rfl
  cases p.2.1
  · simp only [Bool.not_true, Bool.not_false, cond_true, cond_false, Bool.true_and]
    cases decide (p.2.2.1 = 0) <;> cases decide ((p.2.2.2.1.length : Int) = 0) <;> cases decide ((p.2.2.2.2.1.length : Int) = 0) <;> rfl
  have ea : ∀ x : Int, inR x (-1) 255 = (bif decide (x = -1) then true else inR x 0 255) := by
    intro x
    by_cases h : x = -1
    · rw [h]; rfl
    · rw [dF h]
      unfold inR
      by_cases h0 : (0 : Int) ≤ x
      · rw [dT h0, dT (by omega : (-1 : Int) ≤ x)]; rfl
      · rw [dF h0, dF (by omega : ¬(-1 : Int) ≤ x)]; rfl
  rw [ea p.2.2.1]
  generalize (p.2.2.2.1.any _) = v1
  generalize (p.2.2.2.2.1.any _) = v2
  generalize allI (shelfAt p.2.2.2.2.2) 0 p.2.2.2.2.2 = v3
  cases decide (p.2.2.1 = -1) <;> cases inR p.2.2.1 0 255 <;> cases decide ((3 : Int) < (p.2.2.2.1.length : Int)) <;> cases decide ((p.2.2.2.2.1.length : Int) = 8) <;> cases decide ((80 : Int) < (p.2.2.2.2.2.length : Int)) <;> cases v1 <;> cases v2 <;> cases v3 <;> rfl
end Go.Proofs.Yteadknjgpmnigaa.C

namespace Go.Proofs.Yteadknjgpmnigaa.C
open Go Go.Proofs.Yteadknjgpmnigaa.Nx Go.RowKit
set_option linter.unusedVariables false
set_option linter.unusedSimpArgs false

/-- One of those behind is there. -/
def knows (L : List (Den tPeer)) (F : List Int) : Bool := F.any fun x => decide (0 ≤ fPeerAt x 0 L)

def dupId (L : List (Den tPeer)) (i : Nat) (p : Den tPeer) : Bool := (L.take i).any fun q => decide (q.1 = p.1)

/-- A peer that may stand at a place of a ring. -/
def ringAt (L : List (Den tPeer)) (i : Nat) (p : Den tPeer) : Bool :=
  peerOk p && ((!decide ((i : Int) < 4) || p.2.1) && ((!p.2.1 || knows L p.2.2.2.1) && !dupId L i p))

def specAt (L : List (Den tPeer)) (i : Nat) (p : Den tPeer) : Bool :=
  peerOk p && ((!decide ((i : Int) < 4) || p.2.1) && ((!p.2.1 || !decide (fNextOf L p.1 < 0)) && !dupId L i p))

/-- A ring that is right. -/
def ringOk (L : List (Den tPeer)) : Bool := inR (L.length : Int) 4 8 && allI (ringAt L) 0 L

theorem fNext_neg (L : List (Den tPeer)) : ∀ F : List Int, (∀ x ∈ F, 0 ≤ x) → decide (fNext L F < 0) = !knows L F
  | [], _ => rfl
  | x :: xs, h => by
    unfold fNext knows
    rw [List.any_cons]
    have ih := fNext_neg L xs fun y hy => h y (List.mem_cons_of_mem _ hy)
    unfold knows at ih
    cases decide (0 ≤ fPeerAt x 0 L)
    · rw [cond_false, ih, Bool.false_or]
    · rw [cond_true, Bool.true_or]
      have := h x (by simp)
      exact dF (by omega)

theorem allI_mem {α : Type} (p : α → Bool) : ∀ (l : List α) (i : Nat), allI (fun _ => p) i l = true → ∀ x ∈ l, p x = true := by
  intro l i h
  rw [allI_all, List.all_eq_true] at h
  exact h

theorem peerOk_behind {p : Den tPeer} (h : peerOk p = true) (hh : p.2.1 = true) : ∀ x ∈ p.2.2.2.1, (0 : Int) ≤ x := by
  intro x hx
  unfold peerOk at h
  rw [hh] at h
  simp only [Bool.and_eq_true, cond_true] at h
  have := allI_mem _ _ _ h.2.2.2.2.2.1 x hx
  rw [Bool.and_eq_true] at this
  have h3 := this.1
  unfold inR at h3
  rw [Bool.and_eq_true, decide_eq_true_eq] at h3
  exact h3.1

theorem fPeerAt_at (L : List (Den tPeer)) {i : Nat} (hi : i < L.length) (hh : L[i].2.1 = true) (hd : dupId L i L[i] = false) : fPeerAt L[i].1 0 L = (i : Int) := by
  have key : ∀ k j, j + k = i → fPeerAt L[i].1 j (L.drop j) = (i : Int) := by
    intro k
    induction k with
    | zero =>
      intro j hj
      have : j = i := by omega
      subst this
      rw [drop_cons hi]
      unfold fPeerAt
      rw [hh, dT rfl]; rfl
    | succ k ih =>
      intro j hj
      have hjl : j < L.length := by omega
      rw [drop_cons hjl]
      unfold fPeerAt
      have : decide (L[j].1 = L[i].1) = false := by
        unfold dupId at hd
        rw [List.any_eq_false] at hd
        have := hd L[j] (List.mem_take_iff_getElem.2 ⟨j, by omega, rfl⟩)
        simpa using this
      rw [this, Bool.and_false, cond_false]
      exact ih (j + 1) (by omega)
  have := key i 0 (by omega)
  rwa [List.drop_zero] at this

theorem specAt_eq (L : List (Den tPeer)) {i : Nat} (hi : i < L.length) : specAt L i L[i] = ringAt L i L[i] := by
  unfold specAt ringAt
  cases hp : peerOk L[i]
  · rfl
  cases hh : L[i].2.1
  · rfl
  cases hd : dupId L i L[i]
  · simp only [Bool.not_true, Bool.false_or, Bool.or_true, Bool.true_and, Bool.not_false, Bool.and_true]
    unfold fNextOf
    rw [fPeerAt_at L hi hh hd, show decide ((i : Int) < 0) = false from dF (by omega), cond_false, getD_at L hi, fNext_neg L _ (peerOk_behind hp hh), Bool.not_not]
  · simp

theorem spec_RingOk {N : Nat} (hN : Big N) (L : List (Den tPeer)) (hL : okz tRing L) : x_spec_RingOk N L = some (ringOk L) := by
  have hN' : 1099511627776 ≤ N := hN
  have hl := hL.1
  unfold x_spec_RingOk ringOk
  rw [l01In_eq, Option.bind_some]
  cases inR (L.length : Int) 4 8
  · rfl
  simp only [Bool.not_true, cond_false, Bool.true_and]
  refine Eq.trans (iter_all (B := B_spec_RingOk_L0 N (fun _ => some true) (fun ρ17 => some (ρ17))) L (fun i => (L, (i : Int))) (ringAt L) (some true) (some false)
    (fun i hi rec_ => by
      have hp : okz tPeer L[i] := hL.2 _ (List.getElem_mem hi)
      have inner : ∀ (kx : List (Den tPeer) × Int → Option Bool), iter (B_spec_RingOk_L2 N kx (fun ρ6 => some ρ6)) N (L, (i : Int), L[i], (0 : Int)) = bif !dupId L i L[i] then kx (L, (i : Int)) else some false := by
        intro kx
        have ht : (L.take i).length = i := by simp; omega
        have := iter_all (B := B_spec_RingOk_L2 N kx (fun ρ6 => some ρ6)) (L.take i) (fun k => (L, (i : Int), L[i], (k : Int))) (fun _ q => !decide (q.1 = L[i].1)) (kx (L, (i : Int))) (some false)
          (fun k hk rec_ => by
            have hk1 : k < i := by omega
            have hk2 : k < L.length := by omega
            show (bif _ then _ else _) = _
            rw [dT (by omega : (k : Int) < (i : Int))]
            simp only [lt_rows L hk2, le_rows k, Bool.and_self, cond_true, getD_at L hk2, w64_up (Nat.le_refl k) (by omega : k ≤ 140737488355328), List.getElem_take]
            cases decide (L[k].1 = L[i].1) <;> rfl)
          (fun rec_ => by
            show (bif _ then _ else _) = _
            rw [ht, dF (Int.lt_irrefl _)]; rfl) (N := N) (by omega)
        refine Eq.trans this ?_
        have e : allI (fun _ q => !decide (q.1 = L[i].1)) 0 (L.take i) = !dupId L i L[i] := any_all (fun q : Den tPeer => decide (q.1 = L[i].1)) (fun q => !decide (q.1 = L[i].1)) (fun _ => rfl) (L.take i)
        rw [e]
      rw [← specAt_eq L hi]
      show (bif _ then _ else _) = _
      simp only [lt_rows L hi, le_rows i, Bool.and_self, cond_true, getD_at L hi, peta, spec_PeerOk hN _ hp, spec_NextOf hN L hL, Option.bind_some, inner, w64_up (Nat.le_refl i) (by omega : i ≤ 140737488355328)]
      unfold specAt
      cases peerOk L[i] <;> cases decide ((i : Int) < 4) <;> cases L[i].2.1 <;> cases decide (fNextOf L L[i].1 < 0) <;> cases dupId L i L[i] <;> rfl)
    (fun rec_ => by
      show (bif _ then _ else _) = _
      rw [dF (Int.lt_irrefl _)]; rfl) (N := N) (by omega)) ?_
  cases allI (ringAt L) 0 L <;> rfl

theorem knowsOne {N : Nat} (hN : Big N) (L : List (Den tPeer)) (hL : okz tRing L) (p : Den tPeer) (hp : okz tPeer p) : x_impl_knowsOne N L p = some (knows L p.2.2.2.1) := by
  unfold x_impl_knowsOne x_slices_ContainsFunc_int_int__impl_knowsOne_1 x_slices_IndexFunc_int_int__impl_knowsOne_1
  have hF := hp.2.2.2.1.1
  have := index_func (d := (0 : Int)) (L := p.2.2.2.1) (by omega) L (f := fun x => x_impl_knowsOne_1 N x L) (fun x => decide (0 ≤ fPeerAt x 0 L))
    (fun x _ => by
      show x_impl_knowsOne_1 N x L = _
      unfold x_impl_knowsOne_1
      rw [impl_peerHere hN L hL]; rfl) hN (B := B_slices_IndexFunc_int_int__impl_knowsOne_1_L0 N (fun _ => some (-1 : Int)) (fun ρ2 => some (ρ2))) (fun _ _ _ _ => rfl)
  rw [this, Option.bind_some, findI_any]
  rfl

theorem dupIn {N : Nat} (hN : Big N) (l : List (Den tPeer)) (hl : l.length ≤ 1048576) (p : Den tPeer) : x_slices_ContainsFunc_impl_Peer_impl_Peer__impl_RingOk_1 N l p = some (l.any fun q => decide (q.1 = p.1)) := by
  unfold x_slices_ContainsFunc_impl_Peer_impl_Peer__impl_RingOk_1 x_slices_IndexFunc_impl_Peer_impl_Peer__impl_RingOk_1
  have := index_func (d := dft tPeer) (L := l) (by omega) p (f := fun x => x_impl_RingOk_1 N x p) (fun q => decide (q.1 = p.1))
    (fun x _ => rfl) hN (B := B_slices_IndexFunc_impl_Peer_impl_Peer__impl_RingOk_1_L0 N (fun _ => some (-1 : Int)) (fun ρ2 => some (ρ2))) (fun _ _ _ _ => rfl)
  rw [this, Option.bind_some, findI_any]

theorem impl_RingOk {N : Nat} (hN : Big N) (L : List (Den tPeer)) (hL : okz tRing L) : x_impl_RingOk N L = some (ringOk L) := by
  have hN' : 1099511627776 ≤ N := hN
  have hl := hL.1
  unfold x_impl_RingOk ringOk
  rw [in_eq, Option.bind_some]
  cases inR (L.length : Int) 4 8
  · rfl
  simp only [Bool.not_true, cond_false, Bool.true_and]
  refine Eq.trans (iter_all (B := B_impl_RingOk_L0 N (fun _ => some true) (fun ρ9 => some (ρ9))) L (fun i => (L, L, (L.length : Int), (i : Int))) (ringAt L) (some true) (some false)
    (fun i hi rec_ => by
      have hp : okz tPeer L[i] := hL.2 _ (List.getElem_mem hi)
      have hb : inB (0 : Int) (i : Int) (L.length : Int) = true := by
        unfold inB
        rw [dT (by omega), dT (by omega), dT (by omega)]; rfl
      have ht : ((L.drop (0 : Int).toNat).take ((i : Int).toNat - (0 : Int).toNat)) = L.take i := rfl
      have hd : x_slices_ContainsFunc_impl_Peer_impl_Peer__impl_RingOk_1 N (L.take i) L[i] = some (dupId L i L[i]) := dupIn hN _ (by simp; omega) _
      show (bif _ then _ else _) = _
      simp only [lt_rows L hi, le_rows i, Bool.and_self, cond_true, getD_at L hi, peta, impl_PeerOk hN _ hp, knowsOne hN L hL _ hp, Option.bind_some, hb, ht, hd, w64_up (Nat.le_refl i) (by omega : i ≤ 140737488355328)]
      unfold ringAt
      cases peerOk L[i] <;> cases decide ((i : Int) < 4) <;> cases L[i].2.1 <;> cases knows L L[i].2.2.2.1 <;> cases dupId L i L[i] <;> rfl)
    (fun rec_ => by
      show (bif _ then _ else _) = _
      rw [dF (Int.lt_irrefl _)]; rfl) (N := N) (by omega)) ?_
  cases allI (ringAt L) 0 L <;> rfl
end Go.Proofs.Yteadknjgpmnigaa.C

namespace Go.Proofs.Yteadknjgpmnigaa.C
open Go Go.Proofs.Yteadknjgpmnigaa.Nx Go.RowKit
set_option linter.unusedVariables false
set_option linter.unusedSimpArgs false

theorem pure_FnExactRingOk (a0 : Den tRing) (g0 : good tRing a0) : ∃ N, x_laws_FnExactRingOk N a0 = some true := by
  refine ⟨1099511627776, ?_⟩
  have hN : Big 1099511627776 := Nat.le_refl _
  generalize 1099511627776 = N at hN
  unfold x_laws_FnExactRingOk
  obtain ⟨k, e, hk⟩ := sz_Ring hN a0 g0 1048576 (by omega) (by omega)
  rw [e, Option.bind_some]
  rcases hk with hk | ⟨h1, h2, h⟩
  · rw [dT hk]; rfl
  · rw [dF (by omega)]
    simp only [cond_false, to_Ring hN a0 h, Option.bind_some, spec_RingOk hN a0 h, impl_RingOk hN a0 h, eq_Ring hN a0 h, beq_self_eq_true, Bool.not_true]
end Go.Proofs.Yteadknjgpmnigaa.C
