/- The reference rounds down. -/
import Derived.Test.YtbknenfbdhginaaKBase
namespace Go.Proofs.Ytbknenfbdhginaa
open Go Go.Proofs.Ytbknenfbdhginaa.E
set_option linter.unusedVariables false
set_option linter.unusedSimpArgs false
theorem down_is (a b : Int) (hb : 1 ≤ b) (ha : -4611686018427387904 ≤ a ∧ a ≤ 4611686018427387904) (μ : AMem) :
    overdubref05_down [.s (.int .i64 a), .s (.int .i64 b)] μ = some (.s (.int .i64 (a / b)), μ) := by
  rw [overdubref05_down_eq]
  have h2 : ¬ b = 0 := by omega
  have hd := Int.mul_ediv_add_emod a b
  have hlt := Int.emod_lt_of_pos a (show 0 < b by omega)
  have hge := Int.emod_nonneg a h2
  have hq : -4611686018427387904 ≤ a / b ∧ a / b ≤ 4611686018427387904 := by
    constructor
    · have : -4611686018427387904 * b ≤ a := by have := Int.mul_le_mul_of_nonneg_left hb (show (0 : Int) ≤ 4611686018427387904 by omega); omega
      exact (Int.le_ediv_iff_mul_le (by omega)).mpr this
    · rcases Int.lt_or_le a 0 with h | h
      · have := Int.ediv_neg_of_neg_of_pos h (show 0 < b by omega); omega
      · have := Int.ediv_le_self b h; omega
  have hdiv : a.tdiv b = if 0 ≤ a ∨ a % b = 0 then a / b else a / b + 1 := by
    rw [Int.tdiv_eq_ediv]
    by_cases h : 0 ≤ a
    · simp [h]
    · by_cases h3 : a % b = 0
      · have : b ∣ a := Int.dvd_of_emod_eq_zero h3
        simp [h3, this]
      · have : ¬ b ∣ a := fun hd => h3 (Int.emod_eq_zero_of_dvd hd)
        have hs : b.sign = 1 := Int.sign_eq_one_of_pos (by omega)
        simp [h, this, h3, hs]
  have hmod : (a.tmod b != 0) = decide (a % b ≠ 0) := by
    rw [Int.tmod_eq_emod]
    by_cases h : 0 ≤ a
    · simp [h, bne]
      cases hz : decide (a % b = 0) <;> simp_all
    · by_cases h3 : a % b = 0
      · have : b ∣ a := Int.dvd_of_emod_eq_zero h3
        simp [h3, this]
      · have : ¬ b ∣ a := fun hd => h3 (Int.emod_eq_zero_of_dvd hd)
        simp [h, this, h3]; omega
  rw [if_neg h2, if_neg h2, hmod, hdiv]
  by_cases h3 : a % b = 0
  · simp only [h3, ne_eq, not_true_eq_false, decide_false, cond_false, seqJ_n, headK_c, asB_bool, asI_int, or_true, if_true]
    rw [wr (by omega)]
  · by_cases h : 0 ≤ a
    · have : ¬ a < 0 := by omega
      simp only [h3, h, this, ne_eq, not_false_eq_true, decide_true, decide_false, cond_true, cond_false, seqJ_n, headK_c, asB_bool, asI_int, true_or, if_true]
      rw [wr (by omega)]
    · have : a < 0 := by omega
      simp only [h3, h, this, ne_eq, not_false_eq_true, decide_true, cond_true, seqJ_n, headK_c, asB_bool, asI_int, or_false, if_false]
      rw [wr (n := a / b + 1) (by omega), wr (by omega)]
      congr 4; omega
end Go.Proofs.Ytbknenfbdhginaa
