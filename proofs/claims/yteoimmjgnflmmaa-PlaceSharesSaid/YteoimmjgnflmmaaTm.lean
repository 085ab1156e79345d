/-
  Who is picked: numbers modulo three as Go reckons them.
-/
import Derived.Test.YteoimmjgnflmmaaBase
namespace Go.Proofs.Yteoimmjgnflmmaa
open Go.RowKit

theorem tmod3p (x : Int) : ∃ (r : Int) (κ : Nat), κ < 3 ∧ -2 ≤ r ∧ r ≤ 2 ∧ Int.tmod x 3 = r ∧ Int.tmod (r + 3) 3 = (κ : Int) := by
  have h1 : -2 ≤ Int.tmod x 3 ∧ Int.tmod x 3 ≤ 2 := by
    by_cases h : 0 ≤ x
    · rw [Int.tmod_eq_emod_of_nonneg h]; omega
    · have : Int.tmod x 3 = -(Int.tmod (-x) 3) := by rw [Int.neg_tmod]; omega
      rw [this, Int.tmod_eq_emod_of_nonneg (by omega)]; omega
  have h2 : Int.tmod (Int.tmod x 3 + 3) 3 = (Int.tmod x 3 + 3) % 3 := Int.tmod_eq_emod_of_nonneg (by omega)
  refine ⟨Int.tmod x 3, (Int.tmod (Int.tmod x 3 + 3) 3).toNat, ?_, h1.1, h1.2, rfl, ?_⟩
  · rw [h2]; omega
  · rw [h2]; omega
theorem tmod3q (j : Nat) : ∃ κ : Nat, κ < 3 ∧ κ = j % 3 ∧ Int.tmod (j : Int) 3 = (κ : Int) := ⟨j % 3, by omega, rfl, by rw [Int.tmod_eq_emod_of_nonneg (by omega)]; omega⟩

end Go.Proofs.Yteoimmjgnflmmaa
