/- The plain answer of LevinScales. -/
import Derived.Test.YtkcaigagilpomaaQWakes
import Derived.Test.YtkcaigagilpomaaQScaled
import Derived.Test.YtkcaigagilpomaaKCut
namespace Go.Proofs.Ytkcaigagilpomaa
open Go Go.Proofs.Ytkcaigagilpomaa.E
set_option linter.unusedVariables false
set_option linter.unusedSimpArgs false
theorem scaledZ_len (zs : List Int) : (scaledZ zs).length ≤ zs.length := by
  unfold scaledZ; split <;> simp
theorem pureLevinScales (x0 : Arg) (z0 : List Int) (s0 : Arg.isRow .i64 z0 x0) (w0 : ∀ n ∈ z0, (Lit.int .i64 n).wf = true) (y0 : z0.length * 8 ≤ 140737488351232) :
    ∃ μ', overdublaw07_LevinScales (argVals 0 [x0]) (argMem [x0]) = some (.s (.bool true), μ') := by
  obtain ⟨a, ha, hx⟩ := IsRow.arg (l := [x0]) (j := 0) s0 rfl
  have hw := WF.args [x0]
  show ∃ μ', overdublaw07_LevinScales [x0.val 0] _ = _
  rw [ha]
  generalize argMem [x0] = μ at *
  obtain ⟨y, g1, g2⟩ := cutN_is hx 14
  have h14 : (((14 : Nat) : Int)) = 14 := rfl
  rw [h14] at g1
  have hl : (z0.take 14).length ≤ 1000000 := by simp; omega
  rw [overdublaw07_LevinScales_eq, g1]
  generalize z0.take 14 = zs at *
  obtain ⟨r, μ2, p1, p2, p3⟩ := scaled_is hw g2 hl
  obtain ⟨s, μ3, q1, q2, q3⟩ := refScaled_is p2.wf (g2.same p2) hl
  simp only [p1, q1, Option.bind_some, decide_true, decide_false, cond_true, cond_false, seqJ_n, seqJ_r, seqJ_e, headK_c, asB_bool, asI_int, asS_s, asN_int, extrK_0, extrK_1, extrK_2, Bool.not_true, Bool.not_false, Nat.beq_refl]
  rw [same_is (p3.row.same q2) q3.row (by have := scaledZ_len zs; omega)]
  obtain ⟨μ4, hk⟩ := wakes_is μ3 q2.wf
  simp only [beq_self_eq_true, hk, Option.bind_some, decide_true, decide_false, cond_true, cond_false, seqJ_n, seqJ_r, seqJ_e, headK_c, asB_bool, asI_int, asS_s, asN_int, extrK_0, extrK_1, extrK_2, Bool.not_true, Bool.not_false, Nat.beq_refl]
  exact ⟨_, rfl⟩
end Go.Proofs.Ytkcaigagilpomaa
