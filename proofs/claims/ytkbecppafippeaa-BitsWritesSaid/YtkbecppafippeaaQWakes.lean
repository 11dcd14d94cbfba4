/- The example of the document holds. -/
import Derived.Test.YtkbecppafippeaaQDigits
import Derived.Test.YtkbecppafippeaaKSameB
namespace Go.Proofs.Ytkbecppafippeaa
open Go Go.Proofs.Ytkbecppafippeaa.E
set_option linter.unusedVariables false
set_option linter.unusedSimpArgs false
theorem holds_50 : holds [80] (putD 5 4) := by
  refine ⟨rfl, fun v hv => by rw [List.mem_singleton.mp hv]; omega, fun j => ?_⟩
  by_cases h : j < 8
  · have : ∀ j : Fin 8, digB [80] j.val = (putD 5 4).getD j.val 0 := by decide
    exact this ⟨j, h⟩
  · unfold digB
    rw [getD_out (by simp; omega), digV_zero, getD_out (by rw [putD_len]; omega)]
theorem wakes_is (μ : AMem) (hw : WF μ) : ∃ μ', overdublaw01_wakes [] μ = some (.s (.bool true), μ') := by
  obtain ⟨x, F, m1, e1, k1, w1⟩ := newWriter_is hw
  have k18 := bumpS (Keep.refl k1.wf) 18
  obtain ⟨F2, m2, e2, k2, w2, f2⟩ := (Put_is k18.wf (w1.same k18) (by simp) 5 4).2 (by omega)
  have e3 := Len_is w2
  have hl : (([] ++ putD 5 (4 : Int).toNat : List Int).length : Int) = 4 := rfl
  rw [hl] at e3
  obtain ⟨y, bs, m3, e4, k4, o4, hh⟩ := Bytes_is k2.wf w2 (by simp [putD_len])
  have hbs : bs = [80] := holds_ext hh holds_50
  subst hbs
  have hn2 := k2.next
  have hn3 := k4.next
  simp only [bump_next] at hn2
  have k5 : Same m2 m3 := k4
  have hy : IsRow (m3.set (m1.next + 14) (rowObj [.int .u8 80] 1 5 (some 1))) .u8 y [80] := (o4.old fun id o ho hi => by
    have := (own_lives o4 hi).1
    rw [set_obj, if_neg (by omega)]; exact ho).row
  have hz : IsRow (m3.set (m1.next + 14) (rowObj [.int .u8 80] 1 5 (some 1))) .u8 (.slice (m1.next + 14) 0 0 1) [80] := IsRow.made (o := rowObj [.int .u8 80] 1 5 (some 1)) (by simp) rfl rfl rfl
  have e5 := sameB_is hy hz (by simp)
  rw [decide_eq_true rfl] at e5
  have t4 : ((4 : Int) == 4) = true := rfl
  rw [overdublaw01_wakes_eq]
  simp -implicitDefEqProofs only [e1, w1.nn, e2, e3, t4, e4, e5, Option.bind_some, decide_true, decide_false, cond_true, cond_false, seqJ_n, seqJ_r, seqJ_e, headK_c, asB_bool, asI_int, asS_s, asN_int, extrK_0, extrK_1, extrK_2, Bool.not_true, Bool.not_false, Nat.beq_refl]
  exact ⟨_, rfl⟩
end Go.Proofs.Ytkbecppafippeaa
