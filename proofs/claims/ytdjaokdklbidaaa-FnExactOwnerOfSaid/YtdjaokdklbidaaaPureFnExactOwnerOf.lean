/- The program and the reference tell the same owner of a key among any ids, and neither changes the ids. No condition. -/
import Derived.Test.YtdjaokdklbidaaaPFnExactOwnerOfx1
namespace Go.Proofs.Ytdjaokdklbidaaa.Pure
open Go.RowKit Go.Proofs.Ytdjaokdklbidaaa.PFnExactOwnerOf Go.Proofs.YtdjaokdklbidaaaW.PrintWords Go.Proofs.YtdjaokdklbidaaaW.PrintLast

theorem tm_cases (a : Int) : (0 ≤ a ∧ Int.tmod a 256 = a % 256) ∨ (a < 0 ∧ Int.tmod a 256 = -((-a) % 256)) := by
  by_cases h : 0 ≤ a
  · exact Or.inl ⟨h, Int.tmod_eq_emod_of_nonneg h⟩
  · refine Or.inr ⟨by omega, ?_⟩
    obtain ⟨b, rfl⟩ : ∃ b, a = -b := ⟨-a, by omega⟩
    rw [Int.neg_tmod, Int.tmod_eq_emod_of_nonneg (by omega), Int.neg_neg]

theorem spec_mod (a : Int) : spec_l08Mod.f a = some (a % 256) := by
  unfold spec_l08Mod.f wrap64
  rcases tm_cases a with ⟨h, e⟩ | ⟨h, e⟩ <;> rw [e] <;> split <;> (congr 1 <;> omega)

theorem impl_mod (a : Int) : impl_place.f a = some (a % 256) := by
  unfold impl_place.f
  rcases tm_cases a with ⟨h, e⟩ | ⟨h, e⟩
  · rw [e, show wrap64 (a % 256 + 256) = a % 256 + 256 from by unfold wrap64; omega, Int.tmod_eq_emod_of_nonneg (by omega)]; (congr 1 <;> omega)
  · rw [e, show wrap64 (-((-a) % 256) + 256) = -((-a) % 256) + 256 from by unfold wrap64; omega, Int.tmod_eq_emod_of_nonneg (by omega)]; (congr 1 <;> omega)

theorem wrap_diff (a b : Int) : wrap64 (b % 256 - a % 256) = b % 256 - a % 256 := by unfold wrap64; omega

theorem spec_ahead (a b : Int) : spec_Ahead.f a b = some ((b - a) % 256) := by
  unfold spec_Ahead.f
  simp only [spec_mod, Option.bind_some, wrap_diff]; congr 1; omega

theorem impl_ahead (a b : Int) : impl_Ahead.f a b = some ((b - a) % 256) := by
  unfold impl_Ahead.f
  simp only [impl_mod, Option.bind_some, wrap_diff]; congr 1; omega


def nb (l : List Int) (key best i : Int) : Int := if best < 0 then i else if (rd l i - key) % 256 < (rd l best - key) % 256 then i else best
def ow (l : List Int) (key : Int) : Nat → Int → Int → Int
  | 0, _, best => best
  | d + 1, i, best => ow l key d (i + 1) (nb l key best i)
def res (l : List Int) (best : Int) : Int := if best < 0 then -1 else rd l best

theorem nb_range {l : List Int} {key best i : Int} (h0 : 0 ≤ i) (h1 : best < i) (_ : -1 ≤ best) : -1 ≤ nb l key best i ∧ nb l key best i < i + 1 := by
  unfold nb
  split
  · omega
  · split <;> omega

theorem wrap_next {i : Int} {n : Nat} (h0 : 0 ≤ i) (h : i < (n : Int)) (hn : n * 8 ≤ 140737488351232) : wrap64 (i + 1) = i + 1 := by
  unfold wrap64
  omega

theorem spec_loop (l : List Int) (key : Int) (hn : l.length * 8 ≤ 140737488351232) (d : Nat) : ∀ (k : Nat) (i best : Int), 0 ≤ i → i + d = l.length → -1 ≤ best → best < i → d < k →
    spec_OwnerOf.l0 k l key best i = some (res l (ow l key d i best)) := by
  induction d with
  | zero =>
    intro k i best h0 hd hb hbi hk
    obtain ⟨k, rfl⟩ : ∃ m, k = m + 1 := ⟨k - 1, by omega⟩
    have ho : ow l key 0 i best = best := rfl
    simp only [spec_OwnerOf.l0]
    rw [if_neg (by omega), ho]
    unfold res
    by_cases e : best < 0
    · rw [if_pos e, if_pos e]
    · rw [if_neg e, if_neg e, if_pos (by omega), if_pos (by omega)]
  | succ d ih =>
    intro k i best h0 hd hb hbi hk
    obtain ⟨k, rfl⟩ : ∃ m, k = m + 1 := ⟨k - 1, by omega⟩
    have hr := nb_range (l := l) (key := key) h0 hbi hb
    have hi := ih k (i + 1) (nb l key best i) (by omega) (by omega) hr.1 hr.2 (by omega)
    simp only [spec_OwnerOf.l0, ow]
    rw [if_pos (by omega), wrap_next h0 (n := l.length) (by omega) hn]
    rw [← hi]
    by_cases e : best < 0
    · rw [if_pos e]; unfold nb; rw [if_pos e]
    · simp only [spec_ahead, Option.bind_some]
      rw [if_neg e, if_pos h0, if_pos (by omega), if_pos (by omega)]
      unfold nb; rw [if_neg e]
      by_cases g : (rd l i - key) % 256 < (rd l best - key) % 256
      · rw [if_pos g, if_pos g]
      · rw [if_neg g, if_neg g]

theorem impl_loop (l : List Int) (key : Int) (hn : l.length * 8 ≤ 140737488351232) (d : Nat) : ∀ (k : Nat) (i best : Int), 0 ≤ i → i + d = l.length → -1 ≤ best → best < i → d < k →
    impl_OwnerOf.l0 k l key best l (l.length : Int) i = some (res l (ow l key d i best)) := by
  induction d with
  | zero =>
    intro k i best h0 hd hb hbi hk
    obtain ⟨k, rfl⟩ : ∃ m, k = m + 1 := ⟨k - 1, by omega⟩
    have ho : ow l key 0 i best = best := rfl
    simp only [impl_OwnerOf.l0]
    rw [if_neg (by omega), ho]
    unfold res
    by_cases e : best < 0
    · rw [if_pos e, if_pos e]
    · rw [if_neg e, if_neg e, if_pos (by omega), if_pos (by omega)]
  | succ d ih =>
    intro k i best h0 hd hb hbi hk
    obtain ⟨k, rfl⟩ : ∃ m, k = m + 1 := ⟨k - 1, by omega⟩
    have hr := nb_range (l := l) (key := key) h0 hbi hb
    have hi := ih k (i + 1) (nb l key best i) (by omega) (by omega) hr.1 hr.2 (by omega)
    have hlt : i < (l.length : Int) := by omega
    simp only [impl_OwnerOf.l0, ow]
    rw [if_pos hlt, if_pos h0, if_pos hlt, wrap_next h0 (n := l.length) hlt hn]
    rw [← hi]
    by_cases e : best < 0
    · rw [if_pos e]; unfold nb; rw [if_pos e]
    · simp only [impl_ahead, Option.bind_some]
      rw [if_neg e, if_pos (by omega), if_pos (by omega)]
      unfold nb; rw [if_neg e]
      by_cases g : (rd l i - key) % 256 < (rd l best - key) % 256
      · rw [if_pos g, if_pos g]
      · rw [if_neg g, if_neg g]

theorem to_loop (l : List Int) (hn : l.length * 8 ≤ 140737488351232) (d : Nat) : ∀ (k : Nat) (x : List Int) (i : Nat), i + d = l.length → x.length = l.length → (∀ j, j < i → x[j]? = l[j]?) → d < k →
    laws_toIntS.l0 k l x i = some l := by
  induction d with
  | zero =>
    intro k x i hd hx hj hk
    obtain ⟨k, rfl⟩ : ∃ m, k = m + 1 := ⟨k - 1, by omega⟩
    simp only [laws_toIntS.l0]
    rw [if_neg (by omega)]
    congr 1
    apply List.ext_getElem?
    intro j
    by_cases h : j < i
    · exact hj j h
    · rw [List.getElem?_eq_none (by omega), List.getElem?_eq_none (by omega)]
  | succ d ih =>
    intro k x i hd hx hj hk
    obtain ⟨k, rfl⟩ : ∃ m, k = m + 1 := ⟨k - 1, by omega⟩
    simp only [laws_toIntS.l0]
    rw [if_pos (by omega), if_pos (by omega), if_pos (by omega), wrap_next (n := l.length) (by omega) (by omega) hn, Int.toNat_natCast]
    have := ih k (x.set i (rd l i)) (i + 1) (by omega) (by simpa using hx) (by
      intro j h
      by_cases e : j = i
      · subst e
        rw [List.getElem?_set_self (by omega)]
        unfold rd
        rw [Int.toNat_natCast, List.getD_eq_getElem?_getD, List.getElem?_eq_getElem (by omega)]; rfl
      · rw [List.getElem?_set_ne (by omega)]
        exact hj j (by omega)) (by omega)
    exact this

theorem to_same (l : List Int) (hn : l.length * 8 ≤ 140737488351232) (k : Nat) (hk : l.length < k) : laws_toIntS.f k l = some l := by
  unfold laws_toIntS.f
  rw [if_pos (by omega), if_pos (by omega)]
  exact to_loop l hn l.length k _ 0 (by omega) (by simp) (fun j h => absurd h (by omega)) hk

theorem eq_loop (l : List Int) (hn : l.length * 8 ≤ 140737488351232) (d : Nat) : ∀ (k : Nat) (i : Int), 0 ≤ i → i + d = l.length → d < k → laws_eqIntS.l0 k l l i = some true := by
  induction d with
  | zero =>
    intro k i h0 hd hk
    obtain ⟨k, rfl⟩ : ∃ m, k = m + 1 := ⟨k - 1, by omega⟩
    simp only [laws_eqIntS.l0]
    rw [if_neg (by omega)]
  | succ d ih =>
    intro k i h0 hd hk
    obtain ⟨k, rfl⟩ : ∃ m, k = m + 1 := ⟨k - 1, by omega⟩
    simp only [laws_eqIntS.l0]
    rw [if_pos (by omega), if_pos h0, if_pos (by omega), if_pos True.intro, wrap_next (n := l.length) h0 (by omega) hn]
    exact ih k (i + 1) (by omega) (by omega) (by omega)

theorem eq_same (l : List Int) (hn : l.length * 8 ≤ 140737488351232) (k : Nat) (hk : l.length < k) : laws_eqIntS.f k l l = some true := by
  unfold laws_eqIntS.f
  rw [if_pos rfl]
  exact eq_loop l hn l.length k 0 (by omega) (by omega) hk

theorem FnExactOwnerOf : laws_FnExactOwnerOf.Pure := by
  intro l key _ hn _ _
  refine ⟨l.length + 1, ?_⟩
  unfold laws_FnExactOwnerOf.f
  by_cases big : (l.length : Int) > 1048576
  · rw [if_pos big]
  · rw [if_neg big]
    have hs : spec_OwnerOf.f (l.length + 1) l key = some (res l (ow l key l.length 0 (-1))) := spec_loop l key hn l.length _ 0 (-1) (by omega) (by omega) (by omega) (by omega) (by omega)
    have hi : impl_OwnerOf.f (l.length + 1) l key = some (res l (ow l key l.length 0 (-1))) := impl_loop l key hn l.length _ 0 (-1) (by omega) (by omega) (by omega) (by omega) (by omega)
    simp only [to_same l hn (l.length + 1) (by omega), eq_same l hn (l.length + 1) (by omega), Option.bind_some, hs, hi, if_true]

end Go.Proofs.Ytdjaokdklbidaaa.Pure
