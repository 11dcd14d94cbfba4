/- The example of the document holds. -/
import Derived.Test.YtpdleoehllhbkaaQRice
namespace Go.Proofs.Ytpdleoehllhbkaa
open Go Go.Proofs.Ytpdleoehllhbkaa.E
set_option linter.unusedVariables false
set_option linter.unusedSimpArgs false
theorem wakes_is (μ : AMem) : overdublaw02_wakes [] μ = some (.s (.bool true), μ) := by
  rw [overdublaw02_wakes_eq, size_is]
  have h1 : sizeZ 5 1 = 4 := by decide
  have h2 : zigZ (-1) = 1 := by decide
  simp only [h1, zig_is, h2, beq_self_eq_true, Option.bind_some, decide_true, decide_false, cond_true, cond_false, seqJ_n, seqJ_r, seqJ_e, headK_c, asB_bool, asI_int, asS_s, asN_int, Bool.not_true, Bool.not_false, Nat.beq_refl]
end Go.Proofs.Ytpdleoehllhbkaa
