/- The example of the document holds. -/
import Derived.Test.YtchapaejdgnihaaQFix
import Derived.Test.YtchapaejdgnihaaKSame
namespace Go.Proofs.Ytchapaejdgnihaa
open Go Go.Proofs.Ytchapaejdgnihaa.E
set_option linter.unusedVariables false
set_option linter.unusedSimpArgs false
theorem wakes_is (μ : AMem) (hw : WF μ) : ∃ μ', overdublaw05_wakes [] μ = some (.s (.bool true), μ') := by
  rw [overdublaw05_wakes_eq]
  have hx : IsRow ((μ.bump 7).set (μ.next + 0) (rowObj [.int .i64 1, .int .i64 2, .int .i64 4] 1 3 (some 3))) .i64 (.slice (μ.next + 0) 0 0 3) [1, 2, 4] :=
    IsRow.made (o := rowObj [.int .i64 1, .int .i64 2, .int .i64 4] 1 3 (some 3)) (by simp) rfl rfl rfl
  obtain ⟨y, m, g1, g2, g3⟩ := fixRes_is (Same.bumpSet hw (by omega) _).wf 1 hx (by simp)
  have hE : fresE [1, 2, 4] 1 = 0 := by decide
  have hZ : fresZ [1, 2, 4] 1 = [1, 2] := by decide
  rw [hE] at g1
  rw [hZ] at g3
  have k8 : Same m ((m.bump 8).set (m.next + 4) (rowObj [.int .i64 1, .int .i64 2] 1 3 (some 2))) := Same.bumpSet g2.wf (by omega) _
  have hr : IsRow ((m.bump 8).set (m.next + 4) (rowObj [.int .i64 1, .int .i64 2] 1 3 (some 2))) .i64 (.slice (m.next + 4) 0 0 2) [1, 2] :=
    IsRow.made (o := rowObj [.int .i64 1, .int .i64 2] 1 3 (some 2)) (by simp) rfl rfl rfl
  have hs := same_is (g3.row.same k8) hr (by simp)
  rw [decide_eq_true rfl] at hs
  simp -implicitDefEqProofs (disch := omega) only [lt_t, lt_f, gt_t, gt_f, le_t, le_f, ge_t, ge_f, ne_t, ne_f, eq_t, eq_f, w64, chk_true, Option.bind_some, decide_true, decide_false, cond_true, cond_false, seqJ_n, seqJ_r, seqJ_e, headK_c, asB_bool, asI_int, asS_s, asN_int, extrK_0, extrK_1, extrK_2, Bool.not_true, Bool.not_false, Nat.beq_refl, g1, hs]
  exact ⟨_, rfl⟩
end Go.Proofs.Ytchapaejdgnihaa
