/- The example of the document holds. -/
import Derived.Test.YtmmikeabacodnaaQTab
namespace Go.Proofs.Ytmmikeabacodnaa
open Go Go.Proofs.Ytmmikeabacodnaa.E
set_option linter.unusedVariables false
set_option linter.unusedSimpArgs false
theorem wakes_is (μ : AMem) (hw : WF μ) : ∃ μ', overdublaw12_wakes [] μ = some (.s (.bool true), μ') := by
  obtain ⟨x, s, m1, e1, k1, t1⟩ := new_is hw (n := 3) (by omega)
  have c3 : ((3 : Nat) : Int) = 3 := rfl
  rw [c3] at e1
  have k2 := Same.bumpSet k1.wf (n := 12) (a := 8) (by omega) (rowObj [.int .i64 1, .int .i64 1] 1 3 (some 2))
  have hy : IsRow ((m1.bump 12).set (m1.next + 8) (rowObj [.int .i64 1, .int .i64 1] 1 3 (some 2))) .i64 (.slice (m1.next + 8) 0 0 2) [1, 1] := IsRow.made (o := rowObj [.int .i64 1, .int .i64 1] 1 3 (some 2)) (by simp) rfl rfl rfl
  obtain ⟨m2, e2, k3, t2, _⟩ := (addS hw (k1.trans k2) (t1.same k2) hy (apart_fresh k1.wf t1.row _ _ _ _) (by simp) (fits_zero _ _ (by simp))).2 (by decide)
  obtain ⟨m3, e3, k4, t3, _⟩ := dropS hw k3 t2 (fits_add _ _ (fits_zero _ _ (by simp)) (by simp)) 1 (by decide)
  have hof : ofI (addZ (List.replicate 3 0) [1, 1]) 1 - 1 = 1 := by decide
  rw [hof] at e3
  have ne00 : ((0 : Int) != 0) = false := rfl
  have t11 : ((1 : Int) == 1) = true := rfl
  rw [overdublaw12_wakes_eq]
  simp -implicitDefEqProofs only [e1, ne00, t1.nn, e2, e3, t11, Option.bind_some, decide_true, decide_false, cond_true, cond_false, seqJ_n, seqJ_r, seqJ_e, headK_c, asB_bool, asI_int, asS_s, asN_int, extrK_0, extrK_1, extrK_2, Bool.not_true, Bool.not_false, Nat.beq_refl]
  exact ⟨_, rfl⟩
end Go.Proofs.Ytmmikeabacodnaa
