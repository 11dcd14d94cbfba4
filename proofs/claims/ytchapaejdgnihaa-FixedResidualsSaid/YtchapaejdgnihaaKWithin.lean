/- What Within comes to. -/
import Derived.Test.YtchapaejdgnihaaKBase
namespace Go.Proofs.Ytchapaejdgnihaa
open Go Go.Proofs.Ytchapaejdgnihaa.E
set_option linter.unusedVariables false
set_option linter.unusedSimpArgs false
theorem within_is (p n : Int) (hp : -9223372036854775808 ≤ p ∧ p ≤ 9223372036854775807) (hn : 1 ≤ n) (hn2 : n ≤ 4611686018427387904) (μ : AMem) :
    overdubkeep_Within [.s (.int .i64 p), .s (.int .i64 n)] μ = some (.s (.int .i64 (p % n)), μ) := by
  rw [overdubkeep_Within_eq]
  have h1 : ¬ n < 1 := by omega
  have h2 : ¬ n = 0 := by omega
  have hlt := Int.emod_lt_of_pos p (show 0 < n by omega)
  have hge := Int.emod_nonneg p h2
  have ht : Int.tmod p n = if 0 ≤ p ∨ p % n = 0 then p % n else p % n - n := by
    rw [Int.tmod_eq_emod]
    by_cases h : 0 ≤ p
    · simp [h]
    · by_cases h3 : p % n = 0
      · have : n ∣ p := Int.dvd_of_emod_eq_zero h3
        simp [h3, this]
      · have : ¬ n ∣ p := fun hd => h3 (Int.emod_eq_zero_of_dvd hd)
        simp [h, this, h3]; omega
  rw [ht]
  by_cases h : 0 ≤ p ∨ p % n = 0
  · have : ¬ p % n < 0 := by omega
    simp [h1, h2, h, this]
  · have h4 : p % n - n < 0 := by omega
    simp only [h, if_false, h4, h1, h2, decide_true, decide_false, cond_true, cond_false, seqJ_n, headK_c, asI_int]
    rw [wr (by omega)]
    congr 4; omega
end Go.Proofs.Ytchapaejdgnihaa
