/- The reference rounds down. -/
import Derived.Test.YtkcaigagilpomaaKStep
namespace Go.Proofs.Ytkcaigagilpomaa
open Go Go.Proofs.Ytkcaigagilpomaa.E
set_option linter.unusedVariables false
set_option linter.unusedSimpArgs false
theorem down_is (a b : Int) (hb : 1 ≤ b) (ha : -4611686018427387904 ≤ a ∧ a ≤ 4611686018427387904) (μ : AMem) :
    overdubref05_down [.s (.int .i64 a), .s (.int .i64 b)] μ = some (.s (.int .i64 (a / b)), μ) := by
  rw [overdubref05_down_eq]
  have h2 : ¬ b = 0 := by omega
  have hd := Int.mul_ediv_add_emod a b
  have hlt := Int.emod_lt_of_pos a (show 0 < b by omega)
  have hge := Int.emod_nonneg a h2
  have hq : -4611686018427387904 ≤ a / b ∧ a / b ≤ 4611686018427387904 := by
    constructor
    · have : -4611686018427387904 * b ≤ a := by have := Int.mul_le_mul_of_nonneg_left hb (show (0 : Int) ≤ 4611686018427387904 by omega); omega
      exact (Int.le_ediv_iff_mul_le (by omega)).mpr this
    · rcases Int.lt_or_le a 0 with h | h
      · have := Int.ediv_neg_of_neg_of_pos h (show 0 < b by omega); omega
      · have := Int.ediv_le_self b h; omega
  have hdiv : a.tdiv b = if 0 ≤ a ∨ a % b = 0 then a / b else a / b + 1 := by
    rw [Int.tdiv_eq_ediv]
    by_cases h : 0 ≤ a
    · simp [h]
    · by_cases h3 : a % b = 0
      · have : b ∣ a := Int.dvd_of_emod_eq_zero h3
        simp [h3, this]
      · have : ¬ b ∣ a := fun hd => h3 (Int.emod_eq_zero_of_dvd hd)
        have hs : b.sign = 1 := Int.sign_eq_one_of_pos (by omega)
        simp [h, this, h3, hs]
  have hmod : (a.tmod b != 0) = decide (a % b ≠ 0) := by
    rw [Int.tmod_eq_emod]
    by_cases h : 0 ≤ a
    · simp [h, bne]
      cases hz : decide (a % b = 0) <;> simp_all
    · by_cases h3 : a % b = 0
      · have : b ∣ a := Int.dvd_of_emod_eq_zero h3
        simp [h3, this]
      · have : ¬ b ∣ a := fun hd => h3 (Int.emod_eq_zero_of_dvd hd)
        simp [h, this, h3]; omega
  rw [if_neg h2, if_neg h2, hmod, hdiv]
  by_cases h3 : a % b = 0
  · simp only [h3, ne_eq, not_true_eq_false, decide_false, cond_false, seqJ_n, headK_c, asB_bool, asI_int, or_true, if_true]
    rw [wr (by omega)]
  · by_cases h : 0 ≤ a
    · have : ¬ a < 0 := by omega
      simp only [h3, h, this, ne_eq, not_false_eq_true, decide_true, decide_false, cond_true, cond_false, seqJ_n, headK_c, asB_bool, asI_int, true_or, if_true]
      rw [wr (by omega)]
    · have : a < 0 := by omega
      simp only [h3, h, this, ne_eq, not_false_eq_true, decide_true, cond_true, seqJ_n, headK_c, asB_bool, asI_int, or_false, if_false]
      rw [wr (n := a / b + 1) (by omega), wr (by omega)]
      congr 4; omega
theorem quot_wide {a b : Int} (hb : 1 ≤ b) (ha : -9223372036854775808 ≤ a ∧ a ≤ 9223372036854775807) : (-9223372036854775808 ≤ a / b ∧ a / b ≤ 9223372036854775807) ∧ (a % b ≠ 0 → a < 0 → a / b + 1 ≤ 0) ∧
    (a.tdiv b = if 0 ≤ a ∨ a % b = 0 then a / b else a / b + 1) ∧ (a.tmod b = if 0 ≤ a ∨ a % b = 0 then a % b else a % b - b) := by
  have h2 : ¬ b = 0 := by omega
  have hlt := Int.emod_lt_of_pos a (show 0 < b by omega)
  have hge := Int.emod_nonneg a h2
  refine ⟨⟨?_, ?_⟩, fun _ h => ?_, ?_, ?_⟩
  · have : -9223372036854775808 * b ≤ a := by have := Int.mul_le_mul_of_nonneg_left hb (show (0 : Int) ≤ 9223372036854775808 by omega); omega
    exact (Int.le_ediv_iff_mul_le (by omega)).mpr this
  · rcases Int.lt_or_le a 0 with h | h
    · have := Int.ediv_neg_of_neg_of_pos h (show 0 < b by omega); omega
    · have := Int.ediv_le_self b h; omega
  · have := Int.ediv_neg_of_neg_of_pos h (show 0 < b by omega); omega
  · rw [Int.tdiv_eq_ediv]
    by_cases h : 0 ≤ a
    · simp [h]
    · by_cases h3 : a % b = 0
      · have : b ∣ a := Int.dvd_of_emod_eq_zero h3
        simp [h3, this]
      · have : ¬ b ∣ a := fun hd => h3 (Int.emod_eq_zero_of_dvd hd)
        have hs : b.sign = 1 := Int.sign_eq_one_of_pos (by omega)
        simp [h, this, h3, hs]
  · rw [Int.tmod_eq_emod]
    by_cases h : 0 ≤ a
    · simp [h]
    · by_cases h3 : a % b = 0
      · have : b ∣ a := Int.dvd_of_emod_eq_zero h3
        simp [h3, this]
      · have : ¬ b ∣ a := fun hd => h3 (Int.emod_eq_zero_of_dvd hd)
        simp [h, this, h3]; omega
theorem down_wide (a b : Int) (hb : 1 ≤ b) (ha : -9223372036854775808 ≤ a ∧ a ≤ 9223372036854775807) (μ : AMem) :
    overdubref05_down [.s (.int .i64 a), .s (.int .i64 b)] μ = some (.s (.int .i64 (a / b)), μ) := by
  obtain ⟨hq, hn, hdiv, hmod⟩ := quot_wide hb ha
  have h2 : ¬ b = 0 := by omega
  have hlt := Int.emod_lt_of_pos a (show 0 < b by omega)
  have hge := Int.emod_nonneg a h2
  rw [overdubref05_down_eq, if_neg h2, if_neg h2, hmod, hdiv]
  by_cases h3 : a % b = 0
  · have c1 : 0 ≤ a ∨ a % b = 0 := .inr h3
    rw [if_pos c1, if_pos c1]
    simp -implicitDefEqProofs (disch := omega) only [lt_t, lt_f, gt_t, gt_f, le_t, le_f, ge_t, ge_f, ne_t, ne_f, eq_t, eq_f, w64, chk_true, Option.bind_some, decide_true, decide_false, cond_true, cond_false, seqJ_n, seqJ_r, seqJ_e, headK_c, asB_bool, asI_int, asS_s, asN_int, extrK_0, extrK_1, extrK_2, Bool.not_true, Bool.not_false, Nat.beq_refl, h3]
  · by_cases h : 0 ≤ a
    · have c1 : 0 ≤ a ∨ a % b = 0 := .inl h
      rw [if_pos c1, if_pos c1]
      simp -implicitDefEqProofs (disch := omega) only [lt_t, lt_f, gt_t, gt_f, le_t, le_f, ge_t, ge_f, ne_t, ne_f, eq_t, eq_f, w64, chk_true, Option.bind_some, decide_true, decide_false, cond_true, cond_false, seqJ_n, seqJ_r, seqJ_e, headK_c, asB_bool, asI_int, asS_s, asN_int, extrK_0, extrK_1, extrK_2, Bool.not_true, Bool.not_false, Nat.beq_refl]
    · have c1 : ¬ (0 ≤ a ∨ a % b = 0) := fun hh => hh.elim h h3
      rw [if_neg c1, if_neg c1]
      have := hn h3 (by omega)
      simp -implicitDefEqProofs (disch := omega) only [lt_t, lt_f, gt_t, gt_f, le_t, le_f, ge_t, ge_f, ne_t, ne_f, eq_t, eq_f, w64, chk_true, Option.bind_some, decide_true, decide_false, cond_true, cond_false, seqJ_n, seqJ_r, seqJ_e, headK_c, asB_bool, asI_int, asS_s, asN_int, extrK_0, extrK_1, extrK_2, Bool.not_true, Bool.not_false, Nat.beq_refl]
      rw [show a / b + 1 - 1 = a / b by omega]
end Go.Proofs.Ytkcaigagilpomaa
