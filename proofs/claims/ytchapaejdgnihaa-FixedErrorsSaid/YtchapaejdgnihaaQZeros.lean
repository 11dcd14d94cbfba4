/- Samples again, of noughts. -/
import Derived.Test.YtchapaejdgnihaaKRun
namespace Go.Proofs.Ytchapaejdgnihaa
open Go Go.Proofs.Ytchapaejdgnihaa.E
set_option linter.unusedVariables false
set_option linter.unusedSimpArgs false
theorem runL_zero {g : List Int → Int} (hg : ∀ m, g (List.replicate m 0) = 0) : ∀ k m : Nat, runL g (List.replicate m 0) (List.replicate k 0) = some (List.replicate (m + k) 0)
  | 0, m => rfl
  | k + 1, m => by
    rw [List.replicate_succ, runL, if_neg (by omega), hg]
    have e : IntKind.wrap .i64 ((0 : Int) + 0) = 0 := by decide
    rw [e, if_pos (by decide), ← List.replicate_succ', runL_zero hg k (m + 1), show m + 1 + k = m + (k + 1) by omega]
theorem runE_zero {g : List Int → Int} (hg : ∀ m, g (List.replicate m 0) = 0) {m k : Nat} (hm : m ≤ 64) (h : 64 < m + k) : runE g (List.replicate m 0) (List.replicate k 0) = 4 := by
  unfold runE
  have hc : checkZ ((List.replicate m (0 : Int)).take 64) = 0 := by
    unfold checkZ
    rw [if_pos, if_neg (by simp; omega)]
    apply List.all_eq_true.mpr
    intro v hv
    have := List.mem_of_mem_take hv
    rw [(List.mem_replicate.mp this).2]; decide
  rw [if_pos hc, runL_zero hg]
  simp only [List.length_replicate]
  rw [if_pos h]
theorem checkZ_long {n : Nat} (h : 64 < n) : checkZ (List.replicate n 0) = 4 := by
  unfold checkZ
  rw [if_pos, if_pos (by simp; omega)]
  apply List.all_eq_true.mpr
  intro v hv
  rw [(List.mem_replicate.mp hv).2]; decide
theorem checkZ_bad {zs : List Int} {v : Int} (h : v ∈ zs) (hv : okS v = false) : checkZ zs = 8 := by
  unfold checkZ
  rw [if_neg]
  intro ha
  rw [List.all_eq_true.mp ha v h] at hv
  cases hv
theorem okS_high {v : Int} (h : 8388607 < v) : okS v = false := by
  unfold okS
  rw [decide_eq_false (p := v ≤ 8388607) (by omega), Bool.and_false]
theorem okS_low {v : Int} (h : v < -8388608) : okS v = false := by
  unfold okS
  rw [decide_eq_false (p := v ≥ -8388608) (by omega), Bool.false_and]
end Go.Proofs.Ytchapaejdgnihaa
