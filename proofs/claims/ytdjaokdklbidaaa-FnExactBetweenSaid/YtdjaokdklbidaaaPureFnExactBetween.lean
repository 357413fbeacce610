/- The program and the reference agree whether a number stands between two others on the ring, for all ints. No condition. -/
import Derived.Test.YtdjaokdklbidaaaPFnExactBetweenx1
namespace Go.Proofs.Ytdjaokdklbidaaa.Pure
open Go.RowKit Go.Proofs.Ytdjaokdklbidaaa.PFnExactBetween Go.Proofs.YtdjaokdklbidaaaW.PrintWords Go.Proofs.YtdjaokdklbidaaaW.PrintLast


theorem tm_cases (a : Int) : (0 ≤ a ∧ Int.tmod a 256 = a % 256) ∨ (a < 0 ∧ Int.tmod a 256 = -((-a) % 256)) := by
  by_cases h : 0 ≤ a
  · exact Or.inl ⟨h, Int.tmod_eq_emod_of_nonneg h⟩
  · refine Or.inr ⟨by omega, ?_⟩
    obtain ⟨b, rfl⟩ : ∃ b, a = -b := ⟨-a, by omega⟩
    rw [Int.neg_tmod, Int.tmod_eq_emod_of_nonneg (by omega), Int.neg_neg]

theorem spec_mod (a : Int) : spec_l08Mod.f a = some (a % 256) := by
  unfold spec_l08Mod.f wrap64
  rcases tm_cases a with ⟨h, e⟩ | ⟨h, e⟩ <;> rw [e] <;> split <;> (congr 1 <;> omega)

theorem impl_mod (a : Int) : impl_place.f a = some (a % 256) := by
  unfold impl_place.f
  rcases tm_cases a with ⟨h, e⟩ | ⟨h, e⟩
  · rw [e, show wrap64 (a % 256 + 256) = a % 256 + 256 from by unfold wrap64; omega, Int.tmod_eq_emod_of_nonneg (by omega)]; (congr 1 <;> omega)
  · rw [e, show wrap64 (-((-a) % 256) + 256) = -((-a) % 256) + 256 from by unfold wrap64; omega, Int.tmod_eq_emod_of_nonneg (by omega)]; (congr 1 <;> omega)

theorem wrap_diff (a b : Int) : wrap64 (b % 256 - a % 256) = b % 256 - a % 256 := by unfold wrap64; omega

theorem spec_ahead (a b : Int) : spec_Ahead.f a b = some ((b - a) % 256) := by
  unfold spec_Ahead.f
  simp only [spec_mod, Option.bind_some, wrap_diff]; congr 1; omega

theorem impl_ahead (a b : Int) : impl_Ahead.f a b = some ((b - a) % 256) := by
  unfold impl_Ahead.f
  simp only [impl_mod, Option.bind_some, wrap_diff]; congr 1; omega

theorem spec_between (a x b : Int) : spec_Between.f a x b = some (decide ((x - a) % 256 > 0 ∧ ((x - a) % 256 ≤ (b - a) % 256 ∨ (b - a) % 256 = 0))) := by
  unfold spec_Between.f
  simp only [spec_mod, spec_ahead, Option.bind_some]
  split
  · congr 1; rw [Bool.eq_iff_iff]; simp; omega
  · split
    · congr 1; rw [Bool.eq_iff_iff]; simp; omega
    · congr 1; rw [Bool.eq_iff_iff]; simp; omega

theorem impl_between (a x b : Int) : impl_Between.f a x b = some (decide ((x - a) % 256 > 0 ∧ ((x - a) % 256 ≤ (b - a) % 256 ∨ (b - a) % 256 = 0))) := by
  unfold impl_Between.f
  simp only [impl_ahead, Option.bind_some]
  split
  · split
    · congr 1; rw [Bool.eq_iff_iff]; simp; omega
    · congr 1; rw [Bool.eq_iff_iff]; simp; omega
  · congr 1; rw [Bool.eq_iff_iff]; simp; omega

theorem FnExactBetween : laws_FnExactBetween.Pure := by
  intro a x b _ _ _
  unfold laws_FnExactBetween.f
  simp only [spec_between, impl_between, Option.bind_some, bne_self_eq_false, Bool.false_eq_true, if_false]

end Go.Proofs.Ytdjaokdklbidaaa.Pure
