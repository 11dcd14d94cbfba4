/- The plain answer of LevinAutos. -/
import Derived.Test.YtkcaigagilpomaaQWakes
import Derived.Test.YtkcaigagilpomaaKSamples
namespace Go.Proofs.Ytkcaigagilpomaa
open Go Go.Proofs.Ytkcaigagilpomaa.E
set_option linter.unusedVariables false
set_option linter.unusedSimpArgs false
theorem pureLevinAutos (x0 : Arg) (z0 : List Int) (s0 : Arg.isRow .i64 z0 x0) (w0 : ∀ n ∈ z0, (Lit.int .i64 n).wf = true) (y0 : z0.length * 8 ≤ 140737488351232) (a1 : Int) (w1 : (Lit.int .i64 a1).wf = true) (a2 : Bool) :
    ∃ μ', overdublaw07_LevinAutos (argVals 0 [x0, .i .i64 a1, .tf a2]) (argMem [x0, .i .i64 a1, .tf a2]) = some (.s (.bool true), μ') := by
  obtain ⟨a, ha, hx⟩ := IsRow.arg (l := [x0, .i .i64 a1, .tf a2]) (j := 0) s0 rfl
  have hw := WF.args [x0, .i .i64 a1, .tf a2]
  show ∃ μ', overdublaw07_LevinAutos [x0.val 0, .s (.int .i64 a1), .s (.bool a2)] _ = _
  rw [ha]
  generalize argMem [x0, .i .i64 a1, .tf a2] = μ at *
  obtain ⟨y, μ1, g1, g2, g3⟩ := samples_is hw 70 a2 hx w0 (by omega)
  have h70 : (((70 : Nat) : Int)) = 70 := rfl
  rw [h70] at g1
  have hl : ((z0.take 70).map (sampleZ a2)).length ≤ 4611686018427387904 := by simp; omega
  rw [overdublaw07_LevinAutos_eq, g1]
  generalize (z0.take 70).map (sampleZ a2) = zs at *
  obtain ⟨r, μ2, p1, p2, p3⟩ := auto_is g2.wf g3.row hl (wf64 w1)
  obtain ⟨s, μ3, q1, q2, q3⟩ := refAuto_is p2.wf (g3.row.same p2) hl (wf64 w1)
  simp only [p1, q1, Option.bind_some, decide_true, decide_false, cond_true, cond_false, seqJ_n, seqJ_r, seqJ_e, headK_c, asB_bool, asI_int, asS_s, asN_int, extrK_0, extrK_1, extrK_2, Bool.not_true, Bool.not_false, Nat.beq_refl]
  have hlen : (autoZ zs a1).length ≤ 4611686018427387904 := by
    unfold autoZ
    split
    · simp
    · split
      · simp
      · simp; omega
  rw [same_is (p3.row.same q2) q3.row hlen]
  obtain ⟨μ4, hk⟩ := wakes_is μ3 q2.wf
  simp only [beq_self_eq_true, hk, Option.bind_some, decide_true, decide_false, cond_true, cond_false, seqJ_n, seqJ_r, seqJ_e, headK_c, asB_bool, asI_int, asS_s, asN_int, extrK_0, extrK_1, extrK_2, Bool.not_true, Bool.not_false, Nat.beq_refl]
  exact ⟨_, rfl⟩
end Go.Proofs.Ytkcaigagilpomaa
