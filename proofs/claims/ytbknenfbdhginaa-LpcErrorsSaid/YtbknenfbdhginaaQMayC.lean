/- May there be such coefficients: the program's answer and the document's. -/
import Derived.Test.YtbknenfbdhginaaKCopy
import Derived.Test.YtbknenfbdhginaaQGuess
namespace Go.Proofs.Ytbknenfbdhginaa
open Go Go.Proofs.Ytbknenfbdhginaa.E
set_option linter.unusedVariables false
set_option linter.unusedSimpArgs false
def mayC (cs : List Int) : Bool := cs.all coefB && (decide (1 ≤ cs.length) && decide (cs.length ≤ 12))
theorem lpcMay_loop {μ : AMem} {x : SV} {zs : List Int} (hx : IsRow μ .i64 x zs) (hb : zs.length ≤ 1000000000000) :
    ∀ k i : Nat, i + k = zs.length → lpc_May_L1 [.s x, .s x, .s (.int .i64 zs.length)] [.s (.int .i64 i)] μ = if (zs.drop i).all coefB then some (.exit 0, [.s x], μ) else some (.ret, [.s (.bool false)], μ)
  | 0, i, h => by
    rw [lpc_May_L1_eq, lpc_May_L1_B_eq, List.drop_eq_nil_of_le (by omega)]
    simp (disch := omega) only [lt_t, lt_f, gt_t, gt_f, le_t, le_f, ge_t, ge_f, ne_t, ne_f, eq_t, eq_f, w64, chk_true, Option.bind_some, decide_true, decide_false, cond_true, cond_false, seqJ_n, seqJ_r, seqJ_e, headK_c, asB_bool, asI_int, asS_s, asN_int, extrK_0, extrK_1, extrK_2, Bool.not_true, Bool.not_false, Nat.beq_refl, List.all_nil, if_true]
  | k + 1, i, h => by
    have ih := lpcMay_loop hx hb k (i + 1) (by omega)
    rw [nsu] at ih
    rw [lpc_May_L1_eq, lpc_May_L1_B_eq, drop_cons (i := i) (by omega)]
    cases hc : coefB (zs.getD i 0)
    · simp (disch := omega) only [lt_t, lt_f, gt_t, gt_f, le_t, le_f, ge_t, ge_f, ne_t, ne_f, eq_t, eq_f, w64, chk_true, Option.bind_some, decide_true, decide_false, cond_true, cond_false, seqJ_n, seqJ_r, seqJ_e, headK_c, asB_bool, asI_int, asS_s, asN_int, extrK_0, extrK_1, extrK_2, Bool.not_true, Bool.not_false, Nat.beq_refl, hx.ind, hx.load, nat_toNat, coef_is, hc, List.all_cons, Bool.false_and, Bool.false_eq_true, if_false]
    · simp (disch := omega) only [lt_t, lt_f, gt_t, gt_f, le_t, le_f, ge_t, ge_f, ne_t, ne_f, eq_t, eq_f, w64, chk_true, Option.bind_some, decide_true, decide_false, cond_true, cond_false, seqJ_n, seqJ_r, seqJ_e, headK_c, asB_bool, asI_int, asS_s, asN_int, extrK_0, extrK_1, extrK_2, Bool.not_true, Bool.not_false, Nat.beq_refl, hx.ind, hx.load, nat_toNat, coef_is, hc, List.all_cons, Bool.true_and]
      exact ih
theorem lpcMay_is {μ : AMem} {x : SV} {zs : List Int} (hx : IsRow μ .i64 x zs) (hb : zs.length ≤ 1000000000000) : lpc_May [.s x] μ = some (.s (.bool (mayC zs)), μ) := by
  have := lpcMay_loop hx hb _ 0 (Nat.zero_add _)
  rw [n0, List.drop_zero] at this
  rw [lpc_May_eq, hx.len]
  unfold mayC
  cases hc : zs.all coefB
  · rw [hc] at this
    simp only [Bool.false_eq_true, if_false] at this
    simp (disch := omega) only [lt_t, lt_f, gt_t, gt_f, le_t, le_f, ge_t, ge_f, ne_t, ne_f, eq_t, eq_f, w64, chk_true, Option.bind_some, decide_true, decide_false, cond_true, cond_false, seqJ_n, seqJ_r, seqJ_e, headK_c, asB_bool, asI_int, asS_s, asN_int, extrK_0, extrK_1, extrK_2, Bool.not_true, Bool.not_false, Nat.beq_refl, this, Bool.false_and]
  · rw [hc] at this
    simp only [if_true] at this
    by_cases h1 : 1 ≤ zs.length
    · by_cases h2 : zs.length ≤ 12
      · simp (disch := omega) only [lt_t, lt_f, gt_t, gt_f, le_t, le_f, ge_t, ge_f, ne_t, ne_f, eq_t, eq_f, w64, chk_true, Option.bind_some, decide_true, decide_false, cond_true, cond_false, seqJ_n, seqJ_r, seqJ_e, headK_c, asB_bool, asI_int, asS_s, asN_int, extrK_0, extrK_1, extrK_2, Bool.not_true, Bool.not_false, Nat.beq_refl, this, hx.len, Bool.true_and, h1, h2, decide_true, Bool.and_self]
      · simp (disch := omega) only [lt_t, lt_f, gt_t, gt_f, le_t, le_f, ge_t, ge_f, ne_t, ne_f, eq_t, eq_f, w64, chk_true, Option.bind_some, decide_true, decide_false, cond_true, cond_false, seqJ_n, seqJ_r, seqJ_e, headK_c, asB_bool, asI_int, asS_s, asN_int, extrK_0, extrK_1, extrK_2, Bool.not_true, Bool.not_false, Nat.beq_refl, this, hx.len, Bool.true_and, h1, h2, decide_true, decide_false, Bool.and_false]
    · simp (disch := omega) only [lt_t, lt_f, gt_t, gt_f, le_t, le_f, ge_t, ge_f, ne_t, ne_f, eq_t, eq_f, w64, chk_true, Option.bind_some, decide_true, decide_false, cond_true, cond_false, seqJ_n, seqJ_r, seqJ_e, headK_c, asB_bool, asI_int, asS_s, asN_int, extrK_0, extrK_1, extrK_2, Bool.not_true, Bool.not_false, Nat.beq_refl, this, hx.len, Bool.true_and, h1, decide_false, Bool.false_and]
theorem refMayC_loop {μ : AMem} {x : SV} {zs : List Int} (hx : IsRow μ .i64 x zs) (hb : zs.length ≤ 1000000000000) :
    ∀ k i : Nat, i + k = zs.length → overdubref05_MayCoefs_L1 [.s x, .s (.int .i64 zs.length)] [.s (.int .i64 i)] μ = if (zs.drop i).all coefB then some (.exit 0, [.s x], μ) else some (.ret, [.s (.bool false)], μ)
  | 0, i, h => by
    rw [overdubref05_MayCoefs_L1_eq, overdubref05_MayCoefs_L1_B_eq, List.drop_eq_nil_of_le (by omega)]
    simp (disch := omega) only [lt_t, lt_f, gt_t, gt_f, le_t, le_f, ge_t, ge_f, ne_t, ne_f, eq_t, eq_f, w64, chk_true, Option.bind_some, decide_true, decide_false, cond_true, cond_false, seqJ_n, seqJ_r, seqJ_e, headK_c, asB_bool, asI_int, asS_s, asN_int, extrK_0, extrK_1, extrK_2, Bool.not_true, Bool.not_false, Nat.beq_refl, List.all_nil, if_true]
  | k + 1, i, h => by
    have ih := refMayC_loop hx hb k (i + 1) (by omega)
    rw [nsu] at ih
    rw [overdubref05_MayCoefs_L1_eq, overdubref05_MayCoefs_L1_B_eq, drop_cons (i := i) (by omega)]
    by_cases h1 : zs.getD i 0 < -32768
    · have hc : coefB (zs.getD i 0) = false := by unfold coefB; rw [decide_eq_false (by omega)]; rfl
      simp (disch := omega) only [lt_t, lt_f, gt_t, gt_f, le_t, le_f, ge_t, ge_f, ne_t, ne_f, eq_t, eq_f, w64, chk_true, Option.bind_some, decide_true, decide_false, cond_true, cond_false, seqJ_n, seqJ_r, seqJ_e, headK_c, asB_bool, asI_int, asS_s, asN_int, extrK_0, extrK_1, extrK_2, Bool.not_true, Bool.not_false, Nat.beq_refl, hx.ind, hx.load, nat_toNat, hc, List.all_cons, Bool.false_and, Bool.false_eq_true, if_false]
    · by_cases h2 : zs.getD i 0 > 32767
      · have hc : coefB (zs.getD i 0) = false := by unfold coefB; rw [decide_eq_false (p := zs.getD i 0 ≤ 32767) (by omega), Bool.and_false]
        simp (disch := omega) only [lt_t, lt_f, gt_t, gt_f, le_t, le_f, ge_t, ge_f, ne_t, ne_f, eq_t, eq_f, w64, chk_true, Option.bind_some, decide_true, decide_false, cond_true, cond_false, seqJ_n, seqJ_r, seqJ_e, headK_c, asB_bool, asI_int, asS_s, asN_int, extrK_0, extrK_1, extrK_2, Bool.not_true, Bool.not_false, Nat.beq_refl, hx.ind, hx.load, nat_toNat, hc, List.all_cons, Bool.false_and, Bool.false_eq_true, if_false]
      · have hc : coefB (zs.getD i 0) = true := by unfold coefB; rw [decide_eq_true (p := zs.getD i 0 ≤ 32767) (by omega), decide_eq_true (by omega)]; rfl
        simp (disch := omega) only [lt_t, lt_f, gt_t, gt_f, le_t, le_f, ge_t, ge_f, ne_t, ne_f, eq_t, eq_f, w64, chk_true, Option.bind_some, decide_true, decide_false, cond_true, cond_false, seqJ_n, seqJ_r, seqJ_e, headK_c, asB_bool, asI_int, asS_s, asN_int, extrK_0, extrK_1, extrK_2, Bool.not_true, Bool.not_false, Nat.beq_refl, hx.ind, hx.load, nat_toNat, hc, List.all_cons, Bool.true_and]
        exact ih
theorem refMayC_is {μ : AMem} {x : SV} {zs : List Int} (hx : IsRow μ .i64 x zs) (hb : zs.length ≤ 1000000000000) : overdubref05_MayCoefs [.s x] μ = some (.s (.bool (mayC zs)), μ) := by
  have := refMayC_loop hx hb _ 0 (Nat.zero_add _)
  rw [n0, List.drop_zero] at this
  rw [overdubref05_MayCoefs_eq, hx.len]
  unfold mayC
  cases hc : zs.all coefB
  · rw [hc] at this
    simp only [Bool.false_eq_true, if_false] at this
    simp (disch := omega) only [lt_t, lt_f, gt_t, gt_f, le_t, le_f, ge_t, ge_f, ne_t, ne_f, eq_t, eq_f, w64, chk_true, Option.bind_some, decide_true, decide_false, cond_true, cond_false, seqJ_n, seqJ_r, seqJ_e, headK_c, asB_bool, asI_int, asS_s, asN_int, extrK_0, extrK_1, extrK_2, Bool.not_true, Bool.not_false, Nat.beq_refl, this, Bool.false_and]
  · rw [hc] at this
    simp only [if_true] at this
    by_cases h1 : 1 ≤ zs.length
    · by_cases h2 : zs.length ≤ 12
      · simp (disch := omega) only [lt_t, lt_f, gt_t, gt_f, le_t, le_f, ge_t, ge_f, ne_t, ne_f, eq_t, eq_f, w64, chk_true, Option.bind_some, decide_true, decide_false, cond_true, cond_false, seqJ_n, seqJ_r, seqJ_e, headK_c, asB_bool, asI_int, asS_s, asN_int, extrK_0, extrK_1, extrK_2, Bool.not_true, Bool.not_false, Nat.beq_refl, this, hx.len, Bool.true_and, h1, h2, decide_true, Bool.and_self]
      · simp (disch := omega) only [lt_t, lt_f, gt_t, gt_f, le_t, le_f, ge_t, ge_f, ne_t, ne_f, eq_t, eq_f, w64, chk_true, Option.bind_some, decide_true, decide_false, cond_true, cond_false, seqJ_n, seqJ_r, seqJ_e, headK_c, asB_bool, asI_int, asS_s, asN_int, extrK_0, extrK_1, extrK_2, Bool.not_true, Bool.not_false, Nat.beq_refl, this, hx.len, Bool.true_and, h1, h2, decide_true, decide_false, Bool.and_false]
    · simp (disch := omega) only [lt_t, lt_f, gt_t, gt_f, le_t, le_f, ge_t, ge_f, ne_t, ne_f, eq_t, eq_f, w64, chk_true, Option.bind_some, decide_true, decide_false, cond_true, cond_false, seqJ_n, seqJ_r, seqJ_e, headK_c, asB_bool, asI_int, asS_s, asN_int, extrK_0, extrK_1, extrK_2, Bool.not_true, Bool.not_false, Nat.beq_refl, this, hx.len, Bool.true_and, h1, decide_false, Bool.false_and]
theorem mayC_spec {cs : List Int} (h : mayC cs = true) : 1 ≤ cs.length ∧ cs.length ≤ 12 := by
  unfold mayC at h
  simp only [Bool.and_eq_true, decide_eq_true_eq] at h
  exact h.2
theorem guessZ_le (zs cs : List Int) : -1610612737 ≤ guessZ zs cs ∧ guessZ zs cs ≤ 1610612737 := by
  have := gsum_le zs cs (min 12 (min zs.length cs.length))
  unfold guessZ
  rw [Int.fdiv_eq_ediv_of_nonneg _ (by omega)]
  omega
end Go.Proofs.Ytbknenfbdhginaa
