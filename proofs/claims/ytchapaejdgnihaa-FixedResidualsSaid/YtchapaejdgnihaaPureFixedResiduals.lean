/- The plain answer of FixedResiduals. -/
import Derived.Test.YtchapaejdgnihaaQWakes
import Derived.Test.YtchapaejdgnihaaQFixR
import Derived.Test.YtchapaejdgnihaaKRuin
import Derived.Test.YtchapaejdgnihaaKSamples
namespace Go.Proofs.Ytchapaejdgnihaa
open Go Go.Proofs.Ytchapaejdgnihaa.E
set_option linter.unusedVariables false
set_option linter.unusedSimpArgs false
theorem pureFixedResiduals (x0 : Arg) (z0 : List Int) (s0 : Arg.isRow .i64 z0 x0) (w0 : ∀ n ∈ z0, (Lit.int .i64 n).wf = true) (y0 : z0.length * 8 ≤ 140737488351232) (a1 : Int) (w1 : (Lit.int .i64 a1).wf = true) (a2 : Bool) :
    ∃ μ', overdublaw05_FixedResiduals (argVals 0 [x0, .i .i64 a1, .tf a2]) (argMem [x0, .i .i64 a1, .tf a2]) = some (.s (.bool true), μ') := by
  obtain ⟨a, ha, hx⟩ := IsRow.arg (l := [x0, .i .i64 a1, .tf a2]) (j := 0) s0 rfl
  have hw := WF.args [x0, .i .i64 a1, .tf a2]
  show ∃ μ', overdublaw05_FixedResiduals [x0.val 0, .s (.int .i64 a1), .s (.bool a2)] _ = _
  rw [ha]
  generalize argMem [x0, .i .i64 a1, .tf a2] = μ at *
  obtain ⟨X, m1, e1, k1, o1⟩ := samples_is hw 70 a2 hx w0 (by omega)
  rw [show ((70 : Nat) : Int) = 70 from rfl] at e1
  have lx : ((z0.take 70).map (sampleZ a2)).length ≤ 70 := by simp; omega
  generalize (z0.take 70).map (sampleZ a2) = xs at *
  obtain ⟨Y, m2, e2, k2, o2⟩ := copy_is k1.wf o1.row (by omega)
  obtain ⟨L, m3, e3, k3, o3⟩ := fixRes_is k2.wf a1 o2.row (by omega)
  have k13 := k2.trans k3
  obtain ⟨M, m4, e4, k4, o4⟩ := refRes_is k3.wf a1 (o1.row.same k13) (by omega)
  have hll : (fresZ xs a1).length ≤ 70 := by
    unfold fresZ; split
    · simp [leftZ]; omega
    · simp
  have o3' : OwnRow m2.next m4 .i64 3 L (fresZ xs a1) := ownKeep o3 k4 fun _ h => h.elim
  have e5 := same_is o3'.row o4.row (by omega)
  rw [decide_eq_true rfl] at e5
  obtain ⟨c, m5, e6, k5, o5⟩ := fixCoef_is k4.wf a1
  obtain ⟨d, m6, e7, k6, o6⟩ := refFixed_is k5.wf a1
  have hcl := fixC_le a1
  have e8 := same_is (o5.row.same k6) o6.row (by omega)
  rw [decide_eq_true rfl] at e8
  have o3'' : OwnRow m2.next m6 .i64 3 L (fresZ xs a1) := ownKeep (ownKeep o3' k5 fun _ h => h.elim) k6 fun _ h => h.elim
  obtain ⟨m7, e9, k9⟩ := ruin_is k6.wf o3''
  have k26 := ((k3.trans k4).trans k5).trans k6
  have hLn : ∀ j, isId L j → m2.next ≤ j := fun j hj => (own_lives o3'' hj).1
  have hY : IsRow m7 .i64 Y xs := rowKeep (o2.row.same k26) k9 fun j hj hy => by
    obtain ⟨o, ho⟩ := row_lives o2.row hy
    have := k2.wf.lt ho
    have := hLn j hj
    omega
  have hX : IsRow m7 .i64 X xs := rowKeep (o1.row.same (k2.trans k26)) k9 fun j hj hy => by
    obtain ⟨o, ho⟩ := row_lives o1.row hy
    have := k1.wf.lt ho
    have := k2.next
    have := hLn j hj
    omega
  have e10 := same_is hY hX (by omega)
  rw [decide_eq_true rfl] at e10
  obtain ⟨mw, w⟩ := wakes_is m7 k9.wf
  refine ⟨mw, ?_⟩
  rw [overdublaw05_FixedResiduals_eq]
  simp -implicitDefEqProofs only [e1, e2, e3, e4, BEq.rfl, e5, e6, e7, e8, e9, e10, w, Option.bind_some, decide_true, decide_false, cond_true, cond_false, seqJ_n, seqJ_r, seqJ_e, headK_c, asB_bool, asI_int, asS_s, asN_int, extrK_0, extrK_1, extrK_2, Bool.not_true, Bool.not_false, Nat.beq_refl]
end Go.Proofs.Ytchapaejdgnihaa
