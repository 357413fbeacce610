/- The program and the reference make the same seed of a number, for all ints. No condition. -/
import Derived.Test.YtdjaokdklbidaaaPFnExactSeedOfx1
namespace Go.Proofs.Ytdjaokdklbidaaa.Pure
open Go.RowKit Go.Proofs.Ytdjaokdklbidaaa.PFnExactSeedOf Go.Proofs.YtdjaokdklbidaaaW.PrintWords Go.Proofs.YtdjaokdklbidaaaW.PrintLast


theorem tm_cases (a : Int) : (0 ≤ a ∧ Int.tmod a 256 = a % 256) ∨ (a < 0 ∧ Int.tmod a 256 = -((-a) % 256)) := by
  by_cases h : 0 ≤ a
  · exact Or.inl ⟨h, Int.tmod_eq_emod_of_nonneg h⟩
  · refine Or.inr ⟨by omega, ?_⟩
    obtain ⟨b, rfl⟩ : ∃ b, a = -b := ⟨-a, by omega⟩
    rw [Int.neg_tmod, Int.tmod_eq_emod_of_nonneg (by omega), Int.neg_neg]

theorem spec_mod (a : Int) : spec_l08Mod.f a = some (a % 256) := by
  unfold spec_l08Mod.f wrap64
  rcases tm_cases a with ⟨h, e⟩ | ⟨h, e⟩ <;> rw [e] <;> split <;> (congr 1 <;> omega)

theorem impl_mod (a : Int) : impl_place.f a = some (a % 256) := by
  unfold impl_place.f
  rcases tm_cases a with ⟨h, e⟩ | ⟨h, e⟩
  · rw [e, show wrap64 (a % 256 + 256) = a % 256 + 256 from by unfold wrap64; omega, Int.tmod_eq_emod_of_nonneg (by omega)]; (congr 1 <;> omega)
  · rw [e, show wrap64 (-((-a) % 256) + 256) = -((-a) % 256) + 256 from by unfold wrap64; omega, Int.tmod_eq_emod_of_nonneg (by omega)]; (congr 1 <;> omega)

theorem FnExactSeedOf : laws_FnExactSeedOf.Pure := by
  intro a _
  unfold laws_FnExactSeedOf.f spec_SeedOf.f impl_SeedOf.f
  simp only [spec_mod, impl_mod, Option.bind_some, if_true]

end Go.Proofs.Ytdjaokdklbidaaa.Pure
