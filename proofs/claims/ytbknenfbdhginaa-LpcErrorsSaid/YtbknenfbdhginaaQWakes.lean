/- The example of the document holds. -/
import Derived.Test.YtbknenfbdhginaaQGuess
namespace Go.Proofs.Ytbknenfbdhginaa
open Go Go.Proofs.Ytbknenfbdhginaa.E
set_option linter.unusedVariables false
set_option linter.unusedSimpArgs false
theorem wakes_is (μ : AMem) (hw : WF μ) : ∃ μ', overdublaw06_wakes [] μ = some (.s (.bool true), μ') := by
  rw [overdublaw06_wakes_eq]
  have hx : IsRow (((μ.bump 5).set (μ.next + 0) (rowObj [.int .i64 10, .int .i64 20] 1 3 (some 2))).set (μ.next + 1) (rowObj [.int .i64 4096] 1 3 (some 1))) .i64 (.slice (μ.next + 0) 0 0 2) [10, 20] :=
    IsRow.made (o := rowObj [.int .i64 10, .int .i64 20] 1 3 (some 2)) (by simp) rfl rfl rfl
  have hy : IsRow (((μ.bump 5).set (μ.next + 0) (rowObj [.int .i64 10, .int .i64 20] 1 3 (some 2))).set (μ.next + 1) (rowObj [.int .i64 4096] 1 3 (some 1))) .i64 (.slice (μ.next + 1) 0 0 1) [4096] :=
    IsRow.made (o := rowObj [.int .i64 4096] 1 3 (some 1)) (by simp) rfl rfl rfl
  rw [guess_is hx hy (by show (2 : Nat) ≤ _; omega)]
  have : guessZ [10, 20] [4096] = 20 := by decide
  rw [this]
  exact ⟨_, rfl⟩
end Go.Proofs.Ytbknenfbdhginaa
