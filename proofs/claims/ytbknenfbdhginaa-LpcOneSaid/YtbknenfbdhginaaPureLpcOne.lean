/- The plain answer of LpcOne. -/
import Derived.Test.YtbknenfbdhginaaQGuess
namespace Go.Proofs.Ytbknenfbdhginaa
open Go Go.Proofs.Ytbknenfbdhginaa.E
set_option linter.unusedVariables false
theorem wakes_is (μ : AMem) (hw : WF μ) : ∃ μ', overdublaw06_wakes [] μ = some (.s (.bool true), μ') := by
  rw [overdublaw06_wakes_eq]
  have hx : IsRow (((μ.bump 5).set (μ.next + 0) (rowObj [.int .i64 10, .int .i64 20] 1 3 (some 2))).set (μ.next + 1) (rowObj [.int .i64 4096] 1 3 (some 1))) .i64 (.slice (μ.next + 0) 0 0 2) [10, 20] :=
    IsRow.made (o := rowObj [.int .i64 10, .int .i64 20] 1 3 (some 2)) (by simp) rfl rfl rfl
  have hy : IsRow (((μ.bump 5).set (μ.next + 0) (rowObj [.int .i64 10, .int .i64 20] 1 3 (some 2))).set (μ.next + 1) (rowObj [.int .i64 4096] 1 3 (some 1))) .i64 (.slice (μ.next + 1) 0 0 1) [4096] :=
    IsRow.made (o := rowObj [.int .i64 4096] 1 3 (some 1)) (by simp) rfl rfl rfl
  rw [guess_is hx hy (by show (2 : Nat) ≤ _; omega)]
  have : guessZ [10, 20] [4096] = 20 := by decide
  rw [this]
  exact ⟨_, rfl⟩
theorem pureLpcOne (a0 : Int) (w0 : (Lit.int .i64 a0).wf = true) (a1 : Int) (w1 : (Lit.int .i64 a1).wf = true) :
    ∃ μ', overdublaw06_LpcOne (argVals 0 [.i .i64 a0, .i .i64 a1]) (argMem [.i .i64 a0, .i .i64 a1]) = some (.s (.bool true), μ') := by
  show ∃ μ', overdublaw06_LpcOne [.s (.int .i64 a0), .s (.int .i64 a1)] (argMem [.i .i64 a0, .i .i64 a1]) = some (.s (.bool true), μ')
  generalize hμ : argMem [.i .i64 a0, .i .i64 a1] = μ
  have hw : WF μ := by rw [← hμ]; exact WF.args _
  have b0 := wf64 w0
  have b1 := wf64 w1
  rw [overdublaw06_LpcOne_eq, within_is a0 _ b0 (by omega) (by omega), Option.bind_some, asI_int, within_is a1 _ b1 (by omega) (by omega), Option.bind_some, asI_int]
  have hv : IntKind.wrap .i64 (a0 % 16777216 - 8388608) = a0 % 16777216 - 8388608 := wr (by omega)
  have hk : IntKind.wrap .i64 (a1 % 65536 - 32768) = a1 % 65536 - 32768 := wr (by omega)
  simp only [hv, hk]
  have hv1 : -8388608 ≤ a0 % 16777216 - 8388608 ∧ a0 % 16777216 - 8388608 ≤ 8388607 := by omega
  have hk1 : -32768 ≤ a1 % 65536 - 32768 ∧ a1 % 65536 - 32768 ≤ 32767 := by omega
  generalize a0 % 16777216 - 8388608 = v at *
  generalize a1 % 65536 - 32768 = k at *
  have hx : IsRow (((μ.bump 6).set (μ.next + 1) (rowObj [.int .i64 99, .int .i64 v] 1 3 (some 2))).set (μ.next + 3) (rowObj [.int .i64 k] 1 3 (some 1))) .i64 (.slice (μ.next + 1) 0 0 2) [99, v] :=
    IsRow.made (o := rowObj [.int .i64 99, .int .i64 v] 1 3 (some 2)) (by simp) rfl rfl rfl
  have hy : IsRow (((μ.bump 6).set (μ.next + 1) (rowObj [.int .i64 99, .int .i64 v] 1 3 (some 2))).set (μ.next + 3) (rowObj [.int .i64 k] 1 3 (some 1))) .i64 (.slice (μ.next + 3) 0 0 1) [k] :=
    IsRow.made (o := rowObj [.int .i64 k] 1 3 (some 1)) (by simp) rfl rfl rfl
  have hwf : WF (((μ.bump 6).set (μ.next + 1) (rowObj [.int .i64 99, .int .i64 v] 1 3 (some 2))).set (μ.next + 3) (rowObj [.int .i64 k] 1 3 (some 1))) :=
    ((hw.bump 6).set (by simp)).set (by simp)
  rw [guess_is hx hy (by show (2 : Nat) ≤ _; omega), Option.bind_some, asI_int]
  have hg : guessZ [99, v] [k] = Int.fdiv (k * v) 4096 := by
    have h1 : coefB k = true := by simp [coefB]; omega
    have h2 : cutZ v = v := by unfold cutZ; rw [if_pos (by omega)]
    show Int.fdiv (gsum [99, v] [k] 1) 4096 = _
    simp only [gsum, gterm, List.getD_cons_zero, h1, if_true]
    show Int.fdiv (0 + k * cutZ v) 4096 = _
    rw [h2, Int.zero_add]
  rw [hg]
  have hp := prod_le (a := v) (b := k) (A := 8388608) (B := 32768) hv1.1 (by omega) hk1.1 (by omega)
  have hc : k * v = v * k := Int.mul_comm _ _
  rw [hc]
  have hf : Int.fdiv (v * k) 4096 = (v * k) / 4096 := Int.fdiv_eq_ediv_of_nonneg _ (by omega)
  rw [hf]
  generalize v * k = q at *
  rw [wr (n := 4096 * (q / 4096)) (by omega), wr (n := q) (by omega), wr (n := q / 4096 + 1) (by omega), wr (n := 4096 * (q / 4096 + 1)) (by omega)]
  have c1 : 4096 * (q / 4096) ≤ q := by omega
  have c2 : q < 4096 * (q / 4096 + 1) := by omega
  obtain ⟨μ', hwk⟩ := wakes_is _ hwf
  simp only [c1, c2, decide_true, cond_true, hwk, Option.bind_some, asB_bool]
  exact ⟨_, rfl⟩
end Go.Proofs.Ytbknenfbdhginaa
