/-
  Small things: a row that is copied; numbers cut by a mask.
-/
import Derived.Test.YteoimmjgnflmmaaPur
import Derived.Test.YteoimmjgnflmmaaRef
namespace Go.Proofs.Yteoimmjgnflmmaa
open Go.RowKit

/-- A row that is copied: i of its numbers so far. -/
def cpy (l : List Int) (i : Nat) : List Int := l.take i ++ List.replicate (l.length - i) 0
theorem cpy_zero (l : List Int) : cpy l 0 = List.replicate l.length 0 := by simp [cpy]
theorem cpy_len (l : List Int) {i : Nat} (h : i ≤ l.length) : (cpy l i).length = l.length := by simp [cpy]; omega
theorem cpy_full (l : List Int) : cpy l l.length = l := by simp [cpy]
theorem cpy_succ (l : List Int) {i : Nat} (h : i < l.length) : (cpy l i).set i (l.getD i 0) = cpy l (i + 1) := by
  unfold cpy
  apply List.ext_getElem
  · simp; omega
  · intro j h1 h2
    simp only [List.getElem_set, List.getElem_append, List.length_take, List.getElem_take, List.getElem_replicate, List.getD]
    by_cases hj : i = j
    · subst hj
      rw [if_pos rfl, dif_pos (by omega)]
      simp [h]
    · rw [if_neg hj]
      by_cases h3 : j < i
      · rw [dif_pos (by omega), dif_pos (by omega)]
      · rw [dif_neg (by omega), dif_neg (by omega)]

theorem iand7n (x : Int) : ∃ a : Nat, a < 8 ∧ bits .and .i64 x 7 = (a : Int) := ⟨(bits .and .i64 x 7).toNat, by rw [iand7]; omega, by rw [iand7]; omega⟩
theorem iand15n (x : Int) : ∃ a : Nat, a < 16 ∧ bits .and .i64 x 15 = (a : Int) := ⟨(bits .and .i64 x 15).toNat, by rw [iand15]; omega, by rw [iand15]; omega⟩

theorem iand3n (x : Int) : ∃ a : Nat, a < 4 ∧ bits .and .i64 x 3 = (a : Int) := ⟨(bits .and .i64 x 3).toNat, by rw [iand3]; omega, by rw [iand3]; omega⟩
theorem iand31n (x : Int) : ∃ a : Nat, a < 32 ∧ bits .and .i64 x 31 = (a : Int) := ⟨(bits .and .i64 x 31).toNat, by rw [iand31]; omega, by rw [iand31]; omega⟩

end Go.Proofs.Yteoimmjgnflmmaa
