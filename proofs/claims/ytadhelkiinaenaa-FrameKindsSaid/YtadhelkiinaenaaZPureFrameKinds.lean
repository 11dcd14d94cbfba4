/- The plain answer of FrameKinds. -/
import Derived.Test.YtadhelkiinaenaaZkc
/- The plain answer of FrameKinds. -/
namespace Go.Proofs.Ytadhelkiinaenaa
open Go Go.Proofs.Ytadhelkiinaenaa.E
set_option linter.unusedVariables false
set_option linter.unusedSimpArgs false
theorem wrap_in (n : Int) : -9223372036854775808 ≤ IntKind.wrap .i64 n ∧ IntKind.wrap .i64 n ≤ 9223372036854775807 := by rw [IntKind.wrap_i64]; omega
theorem pureFrameKinds (x0 : Arg) (z0 : List Int) (s0 : Arg.isRow .i64 z0 x0) (w0 : ∀ n ∈ z0, (Lit.int .i64 n).wf = true) (y0 : z0.length * 8 ≤ 140737488351232) (a1 : Int) (w1 : (Lit.int .i64 a1).wf = true) (a2 : Bool) (a3 : Bool) (a4 : Int) (w4 : (Lit.int .i64 a4).wf = true) :
    ∃ μ', overdublaw08_FrameKinds (argVals 0 [x0, .i .i64 a1, .tf a2, .tf a3, .i .i64 a4]) (argMem [x0, .i .i64 a1, .tf a2, .tf a3, .i .i64 a4]) = some (.s (.bool true), μ') := by
  obtain ⟨a, ha, hx⟩ := IsRow.arg (l := [x0, .i .i64 a1, .tf a2, .tf a3, .i .i64 a4]) (j := 0) s0 rfl
  have hw := WF.args [x0, .i .i64 a1, .tf a2, .tf a3, .i .i64 a4]
  show ∃ μ', overdublaw08_FrameKinds [x0.val 0, .s (.int .i64 a1), .s (.bool a2), .s (.bool a3), .s (.int .i64 a4)] _ = _
  rw [ha]
  generalize argMem [x0, .i .i64 a1, .tf a2, .tf a3, .i .i64 a4] = μ at *
  have key : ∀ (m : AMem) (y : SV) (xs : List Int), WF m → IsRow m .i64 y xs → xs.length ≤ 1000 → ∃ z w b m1 m2 m3, frame_As [.s (.int .i64 a1), .s y] m = some (.tuple [.s z, .s (.bool b)], m1) ∧ overdubref05_As [.s (.int .i64 a1), .s y] m1 = some (.tuple [.s w, .s (.bool b)], m2) ∧ overdubkeep_Same_byte [.s z, .s w] m2 = some (.s (.bool true), m2) ∧ overdublaw08_wakes [] m2 = some (.s (.bool true), m3) := by
    intro m y xs hm hy hl
    cases hD : asD a1 xs with
    | none =>
      obtain ⟨m1, e1, k1⟩ := (frameAs_is hm hy (by omega) a1).1 hD
      obtain ⟨m2, e2, k2⟩ := (refAs_is k1.wf (hy.same k1) (by omega) a1).1 hD
      have e3 := sameB_is (μ := m2) (x := .nilSlice) (y := .nilSlice) (.inl ⟨rfl, rfl⟩) (.inl ⟨rfl, rfl⟩) (by simp)
      rw [decide_eq_true rfl] at e3
      obtain ⟨m3, w⟩ := wakes_is m2 k2.wf
      exact ⟨_, _, false, m1, m2, m3, e1, e2, e3, w⟩
    | some ds =>
      obtain ⟨ht, hl2, hf⟩ := asD_some hD
      obtain ⟨bs, z, m1, hh, e1, k1, o1⟩ := (frameAs_is hm hy (by omega) a1).2 ds hD
      obtain ⟨cs, w, m2, hh2, e2, k2, o2⟩ := (refAs_is k1.wf (hy.same k1) (by omega) a1).2 ds hD
      obtain rfl := holds_ext hh hh2
      have hbl := holds_len hh (frameD_small ht hl2.2 hf).2.1
      have e3 := sameB_is (o1.row.same k2) o2.row (by omega)
      rw [decide_eq_true rfl] at e3
      obtain ⟨m3, w⟩ := wakes_is m2 k2.wf
      exact ⟨_, _, true, m1, m2, m3, e1, e2, e3, w⟩
  rw [overdublaw08_FrameKinds_eq]
  cases a3
  · obtain ⟨X, m1, e1, k1, o1⟩ := samples_is hw 66 a2 hx w0 (by omega)
    rw [show ((66 : Nat) : Int) = 66 from rfl] at e1
    obtain ⟨z, w, b, m2, m3, m4, f1, f2, f3, f4⟩ := key m1 X _ k1.wf o1.row (by simp; omega)
    refine ⟨m4, ?_⟩
    simp -implicitDefEqProofs only [e1, f1, f2, BEq.rfl, f3, f4, Option.bind_some, decide_true, decide_false, cond_true, cond_false, seqJ_n, seqJ_r, seqJ_e, headK_c, asB_bool, asI_int, asS_s, asN_int, extrK_0, extrK_1, extrK_2, Bool.not_true, Bool.not_false, Nat.beq_refl]
  · obtain ⟨X, m1, xs, e1, k1, o1, hl, ht⟩ := tone_is hw hx w0 (n := a4) (s2 := a1) (p3 := IntKind.wrap .i64 (a4 * 37)) (wf64 w4) (wf64 w1) (wrap_in _)
    have hm2 := Int.emod_lt_of_pos a4 (show (0 : Int) < 65 by omega)
    obtain ⟨z, w, b, m2, m3, m4, f1, f2, f3, f4⟩ := key m1 X _ k1.wf o1.row (by omega)
    refine ⟨m4, ?_⟩
    simp -implicitDefEqProofs only [e1, f1, f2, BEq.rfl, f3, f4, Option.bind_some, decide_true, decide_false, cond_true, cond_false, seqJ_n, seqJ_r, seqJ_e, headK_c, asB_bool, asI_int, asS_s, asN_int, extrK_0, extrK_1, extrK_2, Bool.not_true, Bool.not_false, Nat.beq_refl]
end Go.Proofs.Ytadhelkiinaenaa
