/- The example of the document holds. -/
import Derived.Test.YtkcaigagilpomaaQAuto
import Derived.Test.YtkcaigagilpomaaKSame
namespace Go.Proofs.Ytkcaigagilpomaa
open Go Go.Proofs.Ytkcaigagilpomaa.E
set_option linter.unusedVariables false
set_option linter.unusedSimpArgs false
theorem wakes_is (μ : AMem) (hw : WF μ) : ∃ μ', overdublaw07_wakes [] μ = some (.s (.bool true), μ') := by
  rw [overdublaw07_wakes_eq]
  have hs := Same.bumpSet hw (n := 7) (a := 0) (by omega) (rowObj [.int .i64 1, .int .i64 2, .int .i64 3] 1 3 (some 3))
  have hx : IsRow ((μ.bump 7).set (μ.next + 0) (rowObj [.int .i64 1, .int .i64 2, .int .i64 3] 1 3 (some 3))) .i64 (.slice (μ.next + 0) 0 0 3) [1, 2, 3] :=
    IsRow.made (o := rowObj [.int .i64 1, .int .i64 2, .int .i64 3] 1 3 (some 3)) (by simp) rfl rfl rfl
  obtain ⟨y, μ1, g1, g2, g3⟩ := auto_is hs.wf hx (by show (3 : Nat) ≤ _; omega) (lags := 1) (by omega)
  have e1 : autoE [1, 2, 3] 1 = 0 := by decide
  have e2 : autoZ [1, 2, 3] 1 = [14, 8] := by decide
  rw [e1] at g1
  rw [e2] at g3
  rw [g1]
  simp only [beq_self_eq_true, Option.bind_some, decide_true, decide_false, cond_true, cond_false, seqJ_n, seqJ_r, seqJ_e, headK_c, asB_bool, asI_int, asS_s, asN_int, extrK_0, extrK_1, extrK_2, Bool.not_true, Bool.not_false, Nat.beq_refl]
  have hs2 := Same.bumpSet g2.wf (n := 8) (a := 4) (by omega) (rowObj [.int .i64 14, .int .i64 8] 1 3 (some 2))
  have hy : IsRow ((μ1.bump 8).set (μ1.next + 4) (rowObj [.int .i64 14, .int .i64 8] 1 3 (some 2))) .i64 (.slice (μ1.next + 4) 0 0 2) [14, 8] :=
    IsRow.made (o := rowObj [.int .i64 14, .int .i64 8] 1 3 (some 2)) (by simp) rfl rfl rfl
  rw [same_is (g3.row.same hs2) hy (by show (2 : Nat) ≤ _; omega)]
  simp only [Option.bind_some, decide_true, decide_false, cond_true, cond_false, seqJ_n, seqJ_r, seqJ_e, headK_c, asB_bool, asI_int, asS_s, asN_int, extrK_0, extrK_1, extrK_2, Bool.not_true, Bool.not_false, Nat.beq_refl]
  exact ⟨_, rfl⟩
end Go.Proofs.Ytkcaigagilpomaa
