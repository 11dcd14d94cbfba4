/- The plain answer of SpacePlays. -/
import Derived.Test.YtkikncdhmifkaaaZkb
/- The plain answer of SpacePlays. -/
namespace Go.Proofs.Ytkikncdhmifkaaa
open Go Go.Proofs.Ytkikncdhmifkaaa.E
set_option linter.unusedVariables false
set_option linter.unusedSimpArgs false
theorem sNew_no {μ : AMem} {n f : Int} (h : n < 1 ∨ n > 4096 ∨ f < 0 ∨ f > n) : space_New [.s (.int .i64 n), .s (.int .i64 f)] μ = some (.tuple [.s .nilPtr, .s (.int .i64 1)], μ) := by
  rw [space_New_eq]
  by_cases h1 : n < 1
  · simp -implicitDefEqProofs only [lt_t h1, Option.bind_some, decide_true, decide_false, cond_true, cond_false, seqJ_n, seqJ_r, seqJ_e, headK_c, asB_bool, asI_int, asS_s, asN_int, extrK_0, extrK_1, extrK_2, Bool.not_true, Bool.not_false, Nat.beq_refl]
  · by_cases h2 : n > 4096
    · simp -implicitDefEqProofs only [lt_f (show 1 ≤ n by omega), gt_t (show 4096 < n by omega), Option.bind_some, decide_true, decide_false, cond_true, cond_false, seqJ_n, seqJ_r, seqJ_e, headK_c, asB_bool, asI_int, asS_s, asN_int, extrK_0, extrK_1, extrK_2, Bool.not_true, Bool.not_false, Nat.beq_refl]
    · by_cases h3 : f < 0
      · simp -implicitDefEqProofs only [lt_f (show 1 ≤ n by omega), gt_f (show n ≤ 4096 by omega), lt_t h3, Option.bind_some, decide_true, decide_false, cond_true, cond_false, seqJ_n, seqJ_r, seqJ_e, headK_c, asB_bool, asI_int, asS_s, asN_int, extrK_0, extrK_1, extrK_2, Bool.not_true, Bool.not_false, Nat.beq_refl]
      · simp -implicitDefEqProofs only [lt_f (show 1 ≤ n by omega), gt_f (show n ≤ 4096 by omega), lt_f (show 0 ≤ f by omega), gt_t (show n < f by omega), Option.bind_some, decide_true, decide_false, cond_true, cond_false, seqJ_n, seqJ_r, seqJ_e, headK_c, asB_bool, asI_int, asS_s, asN_int, extrK_0, extrK_1, extrK_2, Bool.not_true, Bool.not_false, Nat.beq_refl]
/-- The size and the fixed ones, cut. -/
def cutTo (M lim a : Int) : Int := if a > M ∧ a ≤ lim then a % M else a
theorem pureSpacePlays (a0 : Int) (w0 : (Lit.int .i64 a0).wf = true) (a1 : Int) (w1 : (Lit.int .i64 a1).wf = true) (x2 : ArgN) (t2 : List Cell) (u2 : Nat) (s2 : ArgN.isRecs t2 u2 x2) (q2 : CellsOK [.i .i64, .i .i64, .r .i64] t2 u2) (x3 : ArgN) (t3 : List Cell) (u3 : Nat) (s3 : ArgN.isRecs t3 u3 x3) (q3 : CellsOK [.i .i64, .i .i64, .r .i64] t3 u3) :
    ∃ μ', overdublaw13_SpacePlays (argValsN 0 [.cell (.leaf (.int .i64 a0)), .cell (.leaf (.int .i64 a1)), x2, x3]) (argMemN [.cell (.leaf (.int .i64 a0)), .cell (.leaf (.int .i64 a1)), x2, x3]) = some (.s (.bool true), μ') := by
  obtain ⟨A, hA, ha⟩ := IsActs.arg (al := [.cell (.leaf (.int .i64 a0)), .cell (.leaf (.int .i64 a1)), x2, x3]) (j := 2) s2 q2 rfl
  obtain ⟨B, hB, hb⟩ := IsActs.arg (al := [.cell (.leaf (.int .i64 a0)), .cell (.leaf (.int .i64 a1)), x2, x3]) (j := 3) s3 q3 rfl
  have hw : WF (argMemN [.cell (.leaf (.int .i64 a0)), .cell (.leaf (.int .i64 a1)), x2, x3]) := WF.argsN _
  show ∃ μ', overdublaw13_SpacePlays [.s (.int .i64 a0), .s (.int .i64 a1), x2.val 2, x3.val 3] _ = _
  rw [hA, hB]
  generalize argMemN [.cell (.leaf (.int .i64 a0)), .cell (.leaf (.int .i64 a1)), x2, x3] = μ at *
  have key : ∀ q g : Int, (q = a0 % 20 ∧ a0 > 20 ∧ a0 ≤ 4096) ∨ (q = a0 ∧ a0 > 20 ∧ ¬ a0 ≤ 4096) ∨ (q = a0 ∧ ¬ a0 > 20) → (g = a1 % 5 ∧ a1 > 5 ∧ a1 ≤ q) ∨ (g = a1 ∧ a1 > 5 ∧ ¬ a1 ≤ q) ∨ (g = a1 ∧ ¬ a1 > 5) → ∃ μ', overdublaw13_SpacePlays [.s (.int .i64 a0), .s (.int .i64 a1), .s A, .s B] μ = some (.s (.bool true), μ') := by
    intro q g hq hg
    have e0 := within_is a0 20 (wf64 w0) (by omega) (by omega) μ
    have e00 := within_is a1 5 (wf64 w1) (by omega) (by omega) μ
    by_cases hbad : q < 1 ∨ q > 4096 ∨ g < 0 ∨ g > q
    · have e1 := sNew_no (μ := μ) hbad
      have e2 := dNew_no (μ := μ) hbad
      obtain ⟨m, e3⟩ := wakes_is μ hw
      have en : isNil (.s .nilPtr) = some true := rfl
      refine ⟨m, ?_⟩
      rw [overdublaw13_SpacePlays_eq]
      rcases hq with ⟨h1, h2, h3⟩ | ⟨h1, h2, h3⟩ | ⟨h1, h2⟩ <;> rcases hg with ⟨h4, h5, h6⟩ | ⟨h4, h5, h6⟩ | ⟨h4, h5⟩ <;> subst h1 <;> subst h4
      · simp -implicitDefEqProofs only [gt_t h2, le_t h3, gt_t h5, le_t h6, e0, e00, e1, e2, BEq.rfl, en, e3, Option.bind_some, decide_true, decide_false, cond_true, cond_false, seqJ_n, seqJ_r, seqJ_e, headK_c, asB_bool, asI_int, asS_s, asN_int, extrK_0, extrK_1, extrK_2, Bool.not_true, Bool.not_false, Nat.beq_refl]
      · simp -implicitDefEqProofs only [gt_t h2, le_t h3, gt_t h5, decide_eq_false h6, e0, e00, e1, e2, BEq.rfl, en, e3, Option.bind_some, decide_true, decide_false, cond_true, cond_false, seqJ_n, seqJ_r, seqJ_e, headK_c, asB_bool, asI_int, asS_s, asN_int, extrK_0, extrK_1, extrK_2, Bool.not_true, Bool.not_false, Nat.beq_refl]
      · simp -implicitDefEqProofs only [gt_t h2, le_t h3, decide_eq_false h5, e0, e00, e1, e2, BEq.rfl, en, e3, Option.bind_some, decide_true, decide_false, cond_true, cond_false, seqJ_n, seqJ_r, seqJ_e, headK_c, asB_bool, asI_int, asS_s, asN_int, extrK_0, extrK_1, extrK_2, Bool.not_true, Bool.not_false, Nat.beq_refl]
      · simp -implicitDefEqProofs only [gt_t h2, decide_eq_false h3, gt_t h5, le_t h6, e0, e00, e1, e2, BEq.rfl, en, e3, Option.bind_some, decide_true, decide_false, cond_true, cond_false, seqJ_n, seqJ_r, seqJ_e, headK_c, asB_bool, asI_int, asS_s, asN_int, extrK_0, extrK_1, extrK_2, Bool.not_true, Bool.not_false, Nat.beq_refl]
      · simp -implicitDefEqProofs only [gt_t h2, decide_eq_false h3, gt_t h5, decide_eq_false h6, e0, e00, e1, e2, BEq.rfl, en, e3, Option.bind_some, decide_true, decide_false, cond_true, cond_false, seqJ_n, seqJ_r, seqJ_e, headK_c, asB_bool, asI_int, asS_s, asN_int, extrK_0, extrK_1, extrK_2, Bool.not_true, Bool.not_false, Nat.beq_refl]
      · simp -implicitDefEqProofs only [gt_t h2, decide_eq_false h3, decide_eq_false h5, e0, e00, e1, e2, BEq.rfl, en, e3, Option.bind_some, decide_true, decide_false, cond_true, cond_false, seqJ_n, seqJ_r, seqJ_e, headK_c, asB_bool, asI_int, asS_s, asN_int, extrK_0, extrK_1, extrK_2, Bool.not_true, Bool.not_false, Nat.beq_refl]
      · simp -implicitDefEqProofs only [decide_eq_false h2, gt_t h5, le_t h6, e0, e00, e1, e2, BEq.rfl, en, e3, Option.bind_some, decide_true, decide_false, cond_true, cond_false, seqJ_n, seqJ_r, seqJ_e, headK_c, asB_bool, asI_int, asS_s, asN_int, extrK_0, extrK_1, extrK_2, Bool.not_true, Bool.not_false, Nat.beq_refl]
      · simp -implicitDefEqProofs only [decide_eq_false h2, gt_t h5, decide_eq_false h6, e0, e00, e1, e2, BEq.rfl, en, e3, Option.bind_some, decide_true, decide_false, cond_true, cond_false, seqJ_n, seqJ_r, seqJ_e, headK_c, asB_bool, asI_int, asS_s, asN_int, extrK_0, extrK_1, extrK_2, Bool.not_true, Bool.not_false, Nat.beq_refl]
      · simp -implicitDefEqProofs only [decide_eq_false h2, decide_eq_false h5, e0, e00, e1, e2, BEq.rfl, en, e3, Option.bind_some, decide_true, decide_false, cond_true, cond_false, seqJ_n, seqJ_r, seqJ_e, headK_c, asB_bool, asI_int, asS_s, asN_int, extrK_0, extrK_1, extrK_2, Bool.not_true, Bool.not_false, Nat.beq_refl]
    · obtain ⟨n, hn⟩ : ∃ n : Nat, q = n := ⟨q.toNat, by omega⟩
      obtain ⟨f, hf⟩ : ∃ f : Nat, g = f := ⟨g.toNat, by omega⟩
      subst hn
      subst hf
      obtain ⟨x, sid, m1, m2, T, e1, e2, k2, b2⟩ := both_new hw (n := n) (f := f) (by omega) (by omega) (by omega)
      obtain ⟨s0, rfl⟩ := both_ptr b2
      obtain ⟨m3, T3, cs1, bs1, e3, k3, hT3, b3, f3⟩ := play_is hw ha (r := 80) k2 b2 (fits_zero _ _ (by omega)) (by omega)
      have hs3 : Same μ m3 := keepSame hw k2 k3 fun j hj => (both_low k2.wf b2 hj).1
      obtain ⟨q', sid', m4, m5, T5, e4, e5, k4, k5, b5⟩ := both_copy hs3.wf b3
      obtain ⟨m6, T6, cs2, bs2, e6, k6, hT6, b6, f6⟩ := play_is hs3.wf (hb.same hs3) (r := 0) k5 b5 (fits_less f3 (by omega)) (by omega)
      have hs36 : Same m3 m6 := keepSame hs3.wf k5 k6 fun j hj => (both_low k5.wf b5 hj).1
      obtain ⟨m7, T7, cs3, bs3, e7, k7, hT7, b7, f7⟩ := play_is hw ha (r := 0) (hs3.trans hs36) (both_same b3 hs36) (fits_less f3 (by omega)) (by omega)
      obtain ⟨m8, e8⟩ := wakes_is m7 k7.wf
      refine ⟨m8, ?_⟩
      have en1 : isNil (.s (.ptr s0 0 0)) = some false := rfl
      have en2 : isNil (.s (.ptr q' 0 0)) = some false := rfl
      rw [overdublaw13_SpacePlays_eq]
      rcases hq with ⟨h1, h2, h3⟩ | ⟨h1, h2, h3⟩ | ⟨h1, h2⟩
      · rw [← h1] at e0
        rcases hg with ⟨h4, h5, h6⟩ | ⟨h4, h5, h6⟩ | ⟨h4, h5⟩
        · rw [← h4] at e00
          simp -implicitDefEqProofs only [gt_t h2, le_t h3, e0, gt_t h5, le_t h6, e00, e1, ne_f (rfl : (0 : Int) = 0), en1, e2, e3, e4, e5, en2, e6, e7, e8, Option.bind_some, decide_true, decide_false, cond_true, cond_false, seqJ_n, seqJ_r, seqJ_e, headK_c, asB_bool, asI_int, asS_s, asN_int, extrK_0, extrK_1, extrK_2, Bool.not_true, Bool.not_false, Nat.beq_refl]
        · subst h4
          simp -implicitDefEqProofs only [gt_t h2, le_t h3, e0, gt_t h5, decide_eq_false h6, e1, ne_f (rfl : (0 : Int) = 0), en1, e2, e3, e4, e5, en2, e6, e7, e8, Option.bind_some, decide_true, decide_false, cond_true, cond_false, seqJ_n, seqJ_r, seqJ_e, headK_c, asB_bool, asI_int, asS_s, asN_int, extrK_0, extrK_1, extrK_2, Bool.not_true, Bool.not_false, Nat.beq_refl]
        · subst h4
          simp -implicitDefEqProofs only [gt_t h2, le_t h3, e0, decide_eq_false h5, e1, ne_f (rfl : (0 : Int) = 0), en1, e2, e3, e4, e5, en2, e6, e7, e8, Option.bind_some, decide_true, decide_false, cond_true, cond_false, seqJ_n, seqJ_r, seqJ_e, headK_c, asB_bool, asI_int, asS_s, asN_int, extrK_0, extrK_1, extrK_2, Bool.not_true, Bool.not_false, Nat.beq_refl]
      · subst h1
        rcases hg with ⟨h4, h5, h6⟩ | ⟨h4, h5, h6⟩ | ⟨h4, h5⟩
        · rw [← h4] at e00
          simp -implicitDefEqProofs only [gt_t h2, decide_eq_false h3, gt_t h5, le_t h6, e00, e1, ne_f (rfl : (0 : Int) = 0), en1, e2, e3, e4, e5, en2, e6, e7, e8, Option.bind_some, decide_true, decide_false, cond_true, cond_false, seqJ_n, seqJ_r, seqJ_e, headK_c, asB_bool, asI_int, asS_s, asN_int, extrK_0, extrK_1, extrK_2, Bool.not_true, Bool.not_false, Nat.beq_refl]
        · subst h4
          simp -implicitDefEqProofs only [gt_t h2, decide_eq_false h3, gt_t h5, decide_eq_false h6, e1, ne_f (rfl : (0 : Int) = 0), en1, e2, e3, e4, e5, en2, e6, e7, e8, Option.bind_some, decide_true, decide_false, cond_true, cond_false, seqJ_n, seqJ_r, seqJ_e, headK_c, asB_bool, asI_int, asS_s, asN_int, extrK_0, extrK_1, extrK_2, Bool.not_true, Bool.not_false, Nat.beq_refl]
        · subst h4
          simp -implicitDefEqProofs only [gt_t h2, decide_eq_false h3, decide_eq_false h5, e1, ne_f (rfl : (0 : Int) = 0), en1, e2, e3, e4, e5, en2, e6, e7, e8, Option.bind_some, decide_true, decide_false, cond_true, cond_false, seqJ_n, seqJ_r, seqJ_e, headK_c, asB_bool, asI_int, asS_s, asN_int, extrK_0, extrK_1, extrK_2, Bool.not_true, Bool.not_false, Nat.beq_refl]
      · subst h1
        rcases hg with ⟨h4, h5, h6⟩ | ⟨h4, h5, h6⟩ | ⟨h4, h5⟩
        · rw [← h4] at e00
          simp -implicitDefEqProofs only [decide_eq_false h2, gt_t h5, le_t h6, e00, e1, ne_f (rfl : (0 : Int) = 0), en1, e2, e3, e4, e5, en2, e6, e7, e8, Option.bind_some, decide_true, decide_false, cond_true, cond_false, seqJ_n, seqJ_r, seqJ_e, headK_c, asB_bool, asI_int, asS_s, asN_int, extrK_0, extrK_1, extrK_2, Bool.not_true, Bool.not_false, Nat.beq_refl]
        · subst h4
          simp -implicitDefEqProofs only [decide_eq_false h2, gt_t h5, decide_eq_false h6, e1, ne_f (rfl : (0 : Int) = 0), en1, e2, e3, e4, e5, en2, e6, e7, e8, Option.bind_some, decide_true, decide_false, cond_true, cond_false, seqJ_n, seqJ_r, seqJ_e, headK_c, asB_bool, asI_int, asS_s, asN_int, extrK_0, extrK_1, extrK_2, Bool.not_true, Bool.not_false, Nat.beq_refl]
        · subst h4
          simp -implicitDefEqProofs only [decide_eq_false h2, decide_eq_false h5, e1, ne_f (rfl : (0 : Int) = 0), en1, e2, e3, e4, e5, en2, e6, e7, e8, Option.bind_some, decide_true, decide_false, cond_true, cond_false, seqJ_n, seqJ_r, seqJ_e, headK_c, asB_bool, asI_int, asS_s, asN_int, extrK_0, extrK_1, extrK_2, Bool.not_true, Bool.not_false, Nat.beq_refl]
  have k1 : ∀ q : Int, (q = a0 % 20 ∧ a0 > 20 ∧ a0 ≤ 4096) ∨ (q = a0 ∧ a0 > 20 ∧ ¬ a0 ≤ 4096) ∨ (q = a0 ∧ ¬ a0 > 20) → ∃ μ', overdublaw13_SpacePlays [.s (.int .i64 a0), .s (.int .i64 a1), .s A, .s B] μ = some (.s (.bool true), μ') := by
    intro q hq
    by_cases h1 : a1 > 5
    · by_cases h2 : a1 ≤ q
      · exact key q (a1 % 5) hq (.inl ⟨rfl, h1, h2⟩)
      · exact key q a1 hq (.inr (.inl ⟨rfl, h1, h2⟩))
    · exact key q a1 hq (.inr (.inr ⟨rfl, h1⟩))
  by_cases h1 : a0 > 20
  · by_cases h2 : a0 ≤ 4096
    · exact k1 (a0 % 20) (.inl ⟨rfl, h1, h2⟩)
    · exact k1 a0 (.inr (.inl ⟨rfl, h1, h2⟩))
  · exact k1 a0 (.inr (.inr ⟨rfl, h1⟩))
end Go.Proofs.Ytkikncdhmifkaaa
