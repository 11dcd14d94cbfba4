/- The plain answer of RiceZigs. -/
import Derived.Test.YtpdleoehllhbkaaQRice
namespace Go.Proofs.Ytpdleoehllhbkaa
open Go Go.Proofs.Ytpdleoehllhbkaa.E
set_option linter.unusedVariables false
set_option linter.unusedSimpArgs false
theorem zag_zig {n : Int} (h1 : -1099511627776 ≤ n) (h2 : n < 1099511627776) : zagZ (zigZ n) = n ∧ 0 ≤ zigZ n := by
  by_cases h3 : n < 0
  · have hz : zigZ n = -2 * n - 1 := by unfold zigZ; rw [if_neg (by omega), if_pos h3]
    rw [hz]; unfold zagZ
    rw [if_neg (by omega), if_pos (by omega)]; omega
  · have hz : zigZ n = 2 * n := by unfold zigZ; rw [if_neg (by omega), if_neg h3]
    rw [hz]; unfold zagZ
    rw [if_neg (by omega), if_neg (by omega)]; omega
theorem zig_zag {n : Int} (h1 : 0 ≤ n) (h2 : n < 2199023255552) : zigZ (zagZ n) = n := by
  by_cases h3 : n % 2 = 1
  · have hz : zagZ n = -((n + 1) / 2) := by unfold zagZ; rw [if_neg (by omega), if_pos h3]
    rw [hz]; unfold zigZ
    rw [if_neg (by omega), if_pos (by omega)]; omega
  · have hz : zagZ n = n / 2 := by unfold zagZ; rw [if_neg (by omega), if_neg h3]
    rw [hz]; unfold zigZ
    rw [if_neg (by omega), if_neg (by omega)]; omega
theorem pureRiceZigs (a0 : Int) (w0 : (Lit.int .i64 a0).wf = true) :
    ∃ μ', overdublaw02_RiceZigs (argVals 0 [.i .i64 a0]) (argMem [.i .i64 a0]) = some (.s (.bool true), μ') := by
  show ∃ μ', overdublaw02_RiceZigs [.s (.int .i64 a0)] _ = _
  generalize argMem [.i .i64 a0] = μ
  refine ⟨μ, ?_⟩
  rw [overdublaw02_RiceZigs_eq, zig_is]
  have b1 : (zigZ a0 != zigZ a0) = false := by simp
  have b2 : (zagZ a0 != zagZ a0) = false := by simp
  simp only [refZig_is, zag_is, refZag_is, zig_is, wakes_is, b1, b2, Option.bind_some, decide_true, decide_false, cond_true, cond_false, seqJ_n, seqJ_r, seqJ_e, headK_c, asB_bool, asI_int, asS_s, asN_int, Bool.not_true, Bool.not_false, Nat.beq_refl]
  by_cases h1 : a0 ≥ -1099511627776
  · by_cases h2 : a0 < 1099511627776
    · obtain ⟨e1, e2⟩ := zag_zig h1 h2
      have b3 : (zagZ (zigZ a0) != a0) = false := by simp [e1]
      have b4 : ¬ zigZ a0 < 0 := by omega
      by_cases h3 : a0 < 0
      · simp only [h1, h2, h3, b3, b4, Option.bind_some, decide_true, decide_false, cond_true, cond_false, seqJ_n, seqJ_r, seqJ_e, headK_c, asB_bool, asI_int, asS_s, asN_int, Bool.not_true, Bool.not_false, Nat.beq_refl]
      · have e3 := zig_zag (n := a0) (by omega) (by omega)
        have b5 : (zigZ (zagZ a0) == a0) = true := by simp [e3]
        have h4 : ¬ a0 ≥ 2199023255552 := by omega
        simp only [h1, h2, h3, h4, b3, b4, b5, Option.bind_some, decide_true, decide_false, cond_true, cond_false, seqJ_n, seqJ_r, seqJ_e, headK_c, asB_bool, asI_int, asS_s, asN_int, Bool.not_true, Bool.not_false, Nat.beq_refl]
    · have h3 : ¬ a0 < 0 := by omega
      by_cases h4 : a0 ≥ 2199023255552
      · simp only [h1, h2, h3, h4, Option.bind_some, decide_true, decide_false, cond_true, cond_false, seqJ_n, seqJ_r, seqJ_e, headK_c, asB_bool, asI_int, asS_s, asN_int, Bool.not_true, Bool.not_false, Nat.beq_refl]
      · have e3 := zig_zag (n := a0) (by omega) (by omega)
        have b5 : (zigZ (zagZ a0) == a0) = true := by simp [e3]
        simp only [h1, h2, h3, h4, b5, Option.bind_some, decide_true, decide_false, cond_true, cond_false, seqJ_n, seqJ_r, seqJ_e, headK_c, asB_bool, asI_int, asS_s, asN_int, Bool.not_true, Bool.not_false, Nat.beq_refl]
  · have h3 : a0 < 0 := by omega
    simp only [h1, h3, Option.bind_some, decide_true, decide_false, cond_true, cond_false, seqJ_n, seqJ_r, seqJ_e, headK_c, asB_bool, asI_int, asS_s, asN_int, Bool.not_true, Bool.not_false, Nat.beq_refl]
end Go.Proofs.Ytpdleoehllhbkaa
