/- The example of the document holds. -/
import Derived.Test.YtepdjffnjfdklaaQMapUse
namespace Go.Proofs.Ytepdjffnjfdklaa
open Go Go.Proofs.Ytepdjffnjfdklaa.E
set_option linter.unusedVariables false
set_option linter.unusedSimpArgs false
theorem wakes_is (μ : AMem) (hw : WF μ) : ∃ μ', overdublaw11_wakes [] μ = some (.s (.bool true), μ') := by
  obtain ⟨x, rs, ws, m1, e1, k1, t1, u1⟩ := mapNew_w hw (n := 3) (by omega) (by omega)
  rw [show ((3 : Nat) : Int) = 3 from rfl] at e1
  obtain ⟨m2, e2, k2, t2⟩ := (mapTake_is k1.wf t1 (by omega)).2 0 (by omega) (u1 0 (by omega)) (fun j hj => by omega)
  have u2 := U_setW t1 (i := 0) (by omega) true
  obtain ⟨m3, e3, k3, t3⟩ := (mapTake_is k2.wf t2 (by omega)).2 1 (by omega) (by rw [u2, if_neg (by omega)]; exact u1 1 (by omega)) (fun j hj => by rw [u2, if_pos (by omega)])
  have u3 := U_setW t2 (i := 1) (by omega) true
  have e4 := mapCount_is t3 (by omega)
  have hc : cntF (U (setWd (setWd ws 0 true) 1 true)) 3 = 2 := by
    simp only [cntF, u3, u2, u1 2 (by omega)]
    simp
  rw [hc] at e4
  rw [n0] at e2
  rw [show ((1 : Nat) : Int) = 1 from rfl] at e3
  rw [overdublaw11_wakes_eq]
  simp -implicitDefEqProofs only [e1, t1.nn, e2, e3, e4, eq_t (rfl : (0 : Int) = 0), eq_t (rfl : (1 : Int) = 1), eq_t (rfl : (2 : Int) = 2), Option.bind_some, decide_true, decide_false, cond_true, cond_false, seqJ_n, seqJ_r, seqJ_e, headK_c, asB_bool, asI_int, asS_s, asN_int, extrK_0, extrK_1, extrK_2, Bool.not_true, Bool.not_false, Nat.beq_refl]
  exact ⟨_, rfl⟩
end Go.Proofs.Ytepdjffnjfdklaa
