/- May there be such coefficients: the document's answer. -/
import Derived.Test.YtkcaigagilpomaaKRows
import Derived.Test.YtkcaigagilpomaaKCoefB
namespace Go.Proofs.Ytkcaigagilpomaa
open Go Go.Proofs.Ytkcaigagilpomaa.E
set_option linter.unusedVariables false
set_option linter.unusedSimpArgs false
theorem refMayC_loop {μ : AMem} {x : SV} {zs : List Int} (hx : IsRow μ .i64 x zs) (hb : zs.length ≤ 1000000000000) :
    ∀ k i : Nat, i + k = zs.length → overdubref05_MayCoefs_L1 [.s x, .s (.int .i64 zs.length)] [.s (.int .i64 i)] μ = if (zs.drop i).all coefB then some (.exit 0, [.s x], μ) else some (.ret, [.s (.bool false)], μ)
  | 0, i, h => by
    rw [overdubref05_MayCoefs_L1_eq, overdubref05_MayCoefs_L1_B_eq, List.drop_eq_nil_of_le (by omega)]
    simp -implicitDefEqProofs (disch := omega) only [lt_t, lt_f, gt_t, gt_f, le_t, le_f, ge_t, ge_f, ne_t, ne_f, eq_t, eq_f, w64, chk_true, Option.bind_some, decide_true, decide_false, cond_true, cond_false, seqJ_n, seqJ_r, seqJ_e, headK_c, asB_bool, asI_int, asS_s, asN_int, extrK_0, extrK_1, extrK_2, Bool.not_true, Bool.not_false, Nat.beq_refl, List.all_nil, if_true]
  | k + 1, i, h => by
    have ih := refMayC_loop hx hb k (i + 1) (by omega)
    rw [nsu] at ih
    rw [overdubref05_MayCoefs_L1_eq, overdubref05_MayCoefs_L1_B_eq, drop_cons (i := i) (by omega)]
    by_cases h1 : zs.getD i 0 < -32768
    · have hc : coefB (zs.getD i 0) = false := by unfold coefB; rw [decide_eq_false (by omega)]; rfl
      simp -implicitDefEqProofs (disch := omega) only [lt_t, lt_f, gt_t, gt_f, le_t, le_f, ge_t, ge_f, ne_t, ne_f, eq_t, eq_f, w64, chk_true, Option.bind_some, decide_true, decide_false, cond_true, cond_false, seqJ_n, seqJ_r, seqJ_e, headK_c, asB_bool, asI_int, asS_s, asN_int, extrK_0, extrK_1, extrK_2, Bool.not_true, Bool.not_false, Nat.beq_refl, hx.ind, hx.load, nat_toNat, hc, List.all_cons, Bool.false_and, Bool.false_eq_true, if_false]
    · by_cases h2 : zs.getD i 0 > 32767
      · have hc : coefB (zs.getD i 0) = false := by unfold coefB; rw [decide_eq_false (p := zs.getD i 0 ≤ 32767) (by omega), Bool.and_false]
        simp -implicitDefEqProofs (disch := omega) only [lt_t, lt_f, gt_t, gt_f, le_t, le_f, ge_t, ge_f, ne_t, ne_f, eq_t, eq_f, w64, chk_true, Option.bind_some, decide_true, decide_false, cond_true, cond_false, seqJ_n, seqJ_r, seqJ_e, headK_c, asB_bool, asI_int, asS_s, asN_int, extrK_0, extrK_1, extrK_2, Bool.not_true, Bool.not_false, Nat.beq_refl, hx.ind, hx.load, nat_toNat, hc, List.all_cons, Bool.false_and, Bool.false_eq_true, if_false]
      · have hc : coefB (zs.getD i 0) = true := by unfold coefB; rw [decide_eq_true (p := zs.getD i 0 ≤ 32767) (by omega), decide_eq_true (by omega)]; rfl
        simp -implicitDefEqProofs (disch := omega) only [lt_t, lt_f, gt_t, gt_f, le_t, le_f, ge_t, ge_f, ne_t, ne_f, eq_t, eq_f, w64, chk_true, Option.bind_some, decide_true, decide_false, cond_true, cond_false, seqJ_n, seqJ_r, seqJ_e, headK_c, asB_bool, asI_int, asS_s, asN_int, extrK_0, extrK_1, extrK_2, Bool.not_true, Bool.not_false, Nat.beq_refl, hx.ind, hx.load, nat_toNat, hc, List.all_cons, Bool.true_and]
        exact ih
theorem refMayC_is {μ : AMem} {x : SV} {zs : List Int} (hx : IsRow μ .i64 x zs) (hb : zs.length ≤ 1000000000000) : overdubref05_MayCoefs [.s x] μ = some (.s (.bool (mayC zs)), μ) := by
  have := refMayC_loop hx hb _ 0 (Nat.zero_add _)
  rw [n0, List.drop_zero] at this
  rw [overdubref05_MayCoefs_eq, hx.len]
  unfold mayC
  cases hc : zs.all coefB
  · rw [hc] at this
    simp only [Bool.false_eq_true, if_false] at this
    simp -implicitDefEqProofs (disch := omega) only [lt_t, lt_f, gt_t, gt_f, le_t, le_f, ge_t, ge_f, ne_t, ne_f, eq_t, eq_f, w64, chk_true, Option.bind_some, decide_true, decide_false, cond_true, cond_false, seqJ_n, seqJ_r, seqJ_e, headK_c, asB_bool, asI_int, asS_s, asN_int, extrK_0, extrK_1, extrK_2, Bool.not_true, Bool.not_false, Nat.beq_refl, this, Bool.false_and]
  · rw [hc] at this
    simp only [if_true] at this
    by_cases h1 : 1 ≤ zs.length
    · by_cases h2 : zs.length ≤ 12
      · simp -implicitDefEqProofs (disch := omega) only [lt_t, lt_f, gt_t, gt_f, le_t, le_f, ge_t, ge_f, ne_t, ne_f, eq_t, eq_f, w64, chk_true, Option.bind_some, decide_true, decide_false, cond_true, cond_false, seqJ_n, seqJ_r, seqJ_e, headK_c, asB_bool, asI_int, asS_s, asN_int, extrK_0, extrK_1, extrK_2, Bool.not_true, Bool.not_false, Nat.beq_refl, this, hx.len, Bool.true_and, h1, h2, decide_true, Bool.and_self]
      · simp -implicitDefEqProofs (disch := omega) only [lt_t, lt_f, gt_t, gt_f, le_t, le_f, ge_t, ge_f, ne_t, ne_f, eq_t, eq_f, w64, chk_true, Option.bind_some, decide_true, decide_false, cond_true, cond_false, seqJ_n, seqJ_r, seqJ_e, headK_c, asB_bool, asI_int, asS_s, asN_int, extrK_0, extrK_1, extrK_2, Bool.not_true, Bool.not_false, Nat.beq_refl, this, hx.len, Bool.true_and, h1, h2, decide_true, decide_false, Bool.and_false]
    · simp -implicitDefEqProofs (disch := omega) only [lt_t, lt_f, gt_t, gt_f, le_t, le_f, ge_t, ge_f, ne_t, ne_f, eq_t, eq_f, w64, chk_true, Option.bind_some, decide_true, decide_false, cond_true, cond_false, seqJ_n, seqJ_r, seqJ_e, headK_c, asB_bool, asI_int, asS_s, asN_int, extrK_0, extrK_1, extrK_2, Bool.not_true, Bool.not_false, Nat.beq_refl, this, hx.len, Bool.true_and, h1, decide_false, Bool.false_and]
end Go.Proofs.Ytkcaigagilpomaa
