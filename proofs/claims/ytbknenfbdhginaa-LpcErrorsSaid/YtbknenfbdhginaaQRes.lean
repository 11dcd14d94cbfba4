/- What is left of samples by coefficients: the program's answer and the document's. -/
import Derived.Test.YtbknenfbdhginaaQMayC
import Derived.Test.YtbknenfbdhginaaQCut
import Derived.Test.YtbknenfbdhginaaKCheck
import Derived.Test.YtbknenfbdhginaaKMay
namespace Go.Proofs.Ytbknenfbdhginaa
open Go Go.Proofs.Ytbknenfbdhginaa.E
set_option linter.unusedVariables false
set_option linter.unusedSimpArgs false
def resE (xs cs : List Int) : Int := if mayC cs = true ∧ cs.length ≤ xs.length then checkZ xs else 1
def resZ (xs cs : List Int) : List Int := if resE xs cs = 0 then leftZ (fun l => guessZ l cs) cs.length xs else []
theorem lpcRes_loop {μ0 : AMem} (h0 : WF μ0) {x c : SV} {xs cs : List Int} (hx : IsRow μ0 .i64 x xs) (hc : IsRow μ0 .i64 c cs) (hb : xs.length ≤ 1000000000) (hz : ∀ v ∈ xs, -8388608 ≤ v ∧ v ≤ 8388607) :
    ∀ (k i : Nat) (μ : AMem) (y : SV) (zs : List Int), i + k = xs.length → zs.length ≤ i → Same μ0 μ → OwnRow μ0.next μ .i64 3 y zs →
      ∃ y' μ', lpc_Residual_L1 [.s x, .s c] [.s y, .s (.int .i64 i)] μ = some (.exit 0, [.s y'], μ') ∧ Same μ0 μ' ∧ OwnRow μ0.next μ' .i64 3 y' (zs ++ (List.range' i k).map fun j => xs.getD j 0 - guessZ (xs.take j) cs)
  | 0, i, μ, y, zs, h, hl, hs, hy => by
    rw [lpc_Residual_L1_eq, lpc_Residual_L1_B_eq, (hx.same hs).len]
    simp (disch := omega) only [lt_t, lt_f, gt_t, gt_f, le_t, le_f, ge_t, ge_f, ne_t, ne_f, eq_t, eq_f, w64, chk_true, Option.bind_some, decide_true, decide_false, cond_true, cond_false, seqJ_n, seqJ_r, seqJ_e, headK_c, asB_bool, asI_int, asS_s, asN_int, extrK_0, extrK_1, extrK_2, Bool.not_true, Bool.not_false, Nat.beq_refl]
    exact ⟨y, μ, rfl, hs, by rw [show (List.range' i 0).map _ = [] from rfl, List.append_nil]; exact hy⟩
  | k + 1, i, μ, y, zs, h, hl, hs, hy => by
    have hi : i < xs.length := by omega
    have hx1 := hx.same hs
    have hx2 := hx.same (bumpS hs 14)
    have hv := hz _ (getD_mem hi)
    have hg := guessZ_le (xs.take i) cs
    obtain ⟨z, f1, f2⟩ := hx2.front (n := i) (by omega)
    have gu := guess_is f2 (hc.same (bumpS hs 14)) (by simp; omega)
    obtain ⟨y', μ', p1, p2, p3⟩ := pushS (B := 8) (a := 11) (b := 12) (n := 14) (q := some 1) h0 hs hy (xs.getD i 0 - guessZ (xs.take i) cs) (by omega) (by omega) (by omega) (by omega) (by omega)
    obtain ⟨y2, μ2, q1, q2, q3⟩ := lpcRes_loop h0 hx hc hb hz k (i + 1) μ' y' _ (by omega) (by simp; omega) p2 p3
    rw [nsu] at q1
    rw [List.append_assoc] at q3
    refine ⟨y2, μ2, ?_, q2, q3⟩
    rw [lpc_Residual_L1_eq, lpc_Residual_L1_B_eq, hx1.len]
    simp (disch := omega) only [lt_t, lt_f, gt_t, gt_f, le_t, le_f, ge_t, ge_f, ne_t, ne_f, eq_t, eq_f, w64, chk_true, Option.bind_some, decide_true, decide_false, cond_true, cond_false, seqJ_n, seqJ_r, seqJ_e, headK_c, asB_bool, asI_int, asS_s, asN_int, extrK_0, extrK_1, extrK_2, Bool.not_true, Bool.not_false, Nat.beq_refl, hx2.ind, hx2.load, nat_toNat, f1, gu, chk_rfl, freshB hs.wf, p1]
    exact q1
theorem lpcRes_is {μ : AMem} (h0 : WF μ) {x c : SV} {xs cs : List Int} (hx : IsRow μ .i64 x xs) (hc : IsRow μ .i64 c cs) (hb : xs.length ≤ 1000000000) (hb2 : cs.length ≤ 1000000000) :
    ∃ y μ', lpc_Residual [.s x, .s c] μ = some (.tuple [.s y, .s (.int .i64 (resE xs cs))], μ') ∧ Same μ μ' ∧ OwnRow μ.next μ' .i64 3 y (resZ xs cs) := by
  rw [lpc_Residual_eq]
  unfold resZ
  have hm := lpcMay_is hc (by omega)
  by_cases c1 : mayC cs = true ∧ cs.length ≤ xs.length
  · have hE : resE xs cs = checkZ xs := by unfold resE; rw [if_pos c1]
    have hk := check_is hx (by omega)
    rw [hE]
    obtain ⟨c1, c2⟩ := c1
    by_cases c3 : checkZ xs = 0
    · have hz := checkZ_ok c3
      obtain ⟨y, μ', r1, r2, r3⟩ := lpcRes_loop h0 hx hc hb hz.1 (xs.length - cs.length) cs.length μ .nilSlice [] (by omega) (by simp) (Keep.refl h0) (OwnRow.nil _ _ _ _)
      simp (disch := omega) only [lt_t, lt_f, gt_t, gt_f, le_t, le_f, ge_t, ge_f, ne_t, ne_f, eq_t, eq_f, w64, chk_true, Option.bind_some, decide_true, decide_false, cond_true, cond_false, seqJ_n, seqJ_r, seqJ_e, headK_c, asB_bool, asI_int, asS_s, asN_int, extrK_0, extrK_1, extrK_2, Bool.not_true, Bool.not_false, Nat.beq_refl, hm, c1, hx.len, hc.len, hk, c3, r1, if_true]
      rw [List.nil_append] at r3
      exact ⟨_, _, rfl, r2, r3⟩
    · simp (disch := omega) only [lt_t, lt_f, gt_t, gt_f, le_t, le_f, ge_t, ge_f, ne_t, ne_f, eq_t, eq_f, w64, chk_true, Option.bind_some, decide_true, decide_false, cond_true, cond_false, seqJ_n, seqJ_r, seqJ_e, headK_c, asB_bool, asI_int, asS_s, asN_int, extrK_0, extrK_1, extrK_2, Bool.not_true, Bool.not_false, Nat.beq_refl, hm, c1, hx.len, hc.len, hk, if_neg c3]
      exact ⟨_, _, rfl, Keep.refl h0, OwnRow.nil _ _ _ _⟩
  · have hE : resE xs cs = 1 := by unfold resE; rw [if_neg c1]
    rw [hE, if_neg (by omega)]
    cases c4 : mayC cs
    · simp (disch := omega) only [lt_t, lt_f, gt_t, gt_f, le_t, le_f, ge_t, ge_f, ne_t, ne_f, eq_t, eq_f, w64, chk_true, Option.bind_some, decide_true, decide_false, cond_true, cond_false, seqJ_n, seqJ_r, seqJ_e, headK_c, asB_bool, asI_int, asS_s, asN_int, extrK_0, extrK_1, extrK_2, Bool.not_true, Bool.not_false, Nat.beq_refl, hm, c4]
      exact ⟨_, _, rfl, Keep.refl h0, OwnRow.nil _ _ _ _⟩
    · have : xs.length < cs.length := by
        rcases Nat.lt_or_ge xs.length cs.length with h | h
        · exact h
        · exact absurd ⟨c4, h⟩ c1
      simp (disch := omega) only [lt_t, lt_f, gt_t, gt_f, le_t, le_f, ge_t, ge_f, ne_t, ne_f, eq_t, eq_f, w64, chk_true, Option.bind_some, decide_true, decide_false, cond_true, cond_false, seqJ_n, seqJ_r, seqJ_e, headK_c, asB_bool, asI_int, asS_s, asN_int, extrK_0, extrK_1, extrK_2, Bool.not_true, Bool.not_false, Nat.beq_refl, hm, c4, hx.len, hc.len]
      exact ⟨_, _, rfl, Keep.refl h0, OwnRow.nil _ _ _ _⟩
theorem refLpcRes_loop {μ0 : AMem} (h0 : WF μ0) {x c : SV} {xs cs : List Int} (hx : IsRow μ0 .i64 x xs) (hc : IsRow μ0 .i64 c cs) (hb : xs.length ≤ 1000000000) (hz : ∀ v ∈ xs, -8388608 ≤ v ∧ v ≤ 8388607) :
    ∀ (k i : Nat) (μ : AMem) (y : SV) (zs : List Int), i + k = xs.length → zs.length ≤ i → Same μ0 μ → OwnRow μ0.next μ .i64 3 y zs →
      ∃ y' μ', overdubref05_LpcResidual_L1 [.s x, .s c] [.s y, .s (.int .i64 i)] μ = some (.exit 0, [.s y'], μ') ∧ Same μ0 μ' ∧ OwnRow μ0.next μ' .i64 3 y' (zs ++ (List.range' i k).map fun j => xs.getD j 0 - guessZ (xs.take j) cs)
  | 0, i, μ, y, zs, h, hl, hs, hy => by
    rw [overdubref05_LpcResidual_L1_eq, overdubref05_LpcResidual_L1_B_eq, (hx.same hs).len]
    simp (disch := omega) only [lt_t, lt_f, gt_t, gt_f, le_t, le_f, ge_t, ge_f, ne_t, ne_f, eq_t, eq_f, w64, chk_true, Option.bind_some, decide_true, decide_false, cond_true, cond_false, seqJ_n, seqJ_r, seqJ_e, headK_c, asB_bool, asI_int, asS_s, asN_int, extrK_0, extrK_1, extrK_2, Bool.not_true, Bool.not_false, Nat.beq_refl]
    exact ⟨y, μ, rfl, hs, by rw [show (List.range' i 0).map _ = [] from rfl, List.append_nil]; exact hy⟩
  | k + 1, i, μ, y, zs, h, hl, hs, hy => by
    have hi : i < xs.length := by omega
    have hx1 := hx.same hs
    have hx2 := hx.same (bumpS hs 14)
    have hv := hz _ (getD_mem hi)
    have hg := guessZ_le (xs.take i) cs
    obtain ⟨z, f1, f2⟩ := hx2.front (n := i) (by omega)
    have gu := refGuess_is f2 (hc.same (bumpS hs 14)) (by simp; omega)
    obtain ⟨y', μ', p1, p2, p3⟩ := pushS (B := 8) (a := 11) (b := 12) (n := 14) (q := some 1) h0 hs hy (xs.getD i 0 - guessZ (xs.take i) cs) (by omega) (by omega) (by omega) (by omega) (by omega)
    obtain ⟨y2, μ2, q1, q2, q3⟩ := refLpcRes_loop h0 hx hc hb hz k (i + 1) μ' y' _ (by omega) (by simp; omega) p2 p3
    rw [nsu] at q1
    rw [List.append_assoc] at q3
    refine ⟨y2, μ2, ?_, q2, q3⟩
    rw [overdubref05_LpcResidual_L1_eq, overdubref05_LpcResidual_L1_B_eq, hx1.len]
    simp (disch := omega) only [lt_t, lt_f, gt_t, gt_f, le_t, le_f, ge_t, ge_f, ne_t, ne_f, eq_t, eq_f, w64, chk_true, Option.bind_some, decide_true, decide_false, cond_true, cond_false, seqJ_n, seqJ_r, seqJ_e, headK_c, asB_bool, asI_int, asS_s, asN_int, extrK_0, extrK_1, extrK_2, Bool.not_true, Bool.not_false, Nat.beq_refl, hx2.ind, hx2.load, nat_toNat, f1, gu, chk_rfl, freshB hs.wf, p1]
    exact q1
theorem refLpcRes_is {μ : AMem} (h0 : WF μ) {x c : SV} {xs cs : List Int} (hx : IsRow μ .i64 x xs) (hc : IsRow μ .i64 c cs) (hb : xs.length ≤ 1000000000) (hb2 : cs.length ≤ 1000000000) :
    ∃ y μ', overdubref05_LpcResidual [.s x, .s c] μ = some (.tuple [.s y, .s (.int .i64 (resE xs cs))], μ') ∧ Same μ μ' ∧ OwnRow μ.next μ' .i64 3 y (resZ xs cs) := by
  rw [overdubref05_LpcResidual_eq]
  unfold resZ
  have hm := refMayC_is hc (by omega)
  by_cases c1 : mayC cs = true ∧ cs.length ≤ xs.length
  · have hE : resE xs cs = checkZ xs := by unfold resE; rw [if_pos c1]
    have hk := refMay_is hx (by omega)
    rw [hE]
    obtain ⟨c1, c2⟩ := c1
    by_cases c3 : checkZ xs = 0
    · have hz := checkZ_ok c3
      obtain ⟨y, μ', r1, r2, r3⟩ := refLpcRes_loop h0 hx hc hb hz.1 (xs.length - cs.length) cs.length μ .nilSlice [] (by omega) (by simp) (Keep.refl h0) (OwnRow.nil _ _ _ _)
      simp (disch := omega) only [lt_t, lt_f, gt_t, gt_f, le_t, le_f, ge_t, ge_f, ne_t, ne_f, eq_t, eq_f, w64, chk_true, Option.bind_some, decide_true, decide_false, cond_true, cond_false, seqJ_n, seqJ_r, seqJ_e, headK_c, asB_bool, asI_int, asS_s, asN_int, extrK_0, extrK_1, extrK_2, Bool.not_true, Bool.not_false, Nat.beq_refl, hm, c1, hx.len, hc.len, hk, c3, r1, if_true]
      rw [List.nil_append] at r3
      exact ⟨_, _, rfl, r2, r3⟩
    · simp (disch := omega) only [lt_t, lt_f, gt_t, gt_f, le_t, le_f, ge_t, ge_f, ne_t, ne_f, eq_t, eq_f, w64, chk_true, Option.bind_some, decide_true, decide_false, cond_true, cond_false, seqJ_n, seqJ_r, seqJ_e, headK_c, asB_bool, asI_int, asS_s, asN_int, extrK_0, extrK_1, extrK_2, Bool.not_true, Bool.not_false, Nat.beq_refl, hm, c1, hx.len, hc.len, hk, if_neg c3]
      exact ⟨_, _, rfl, Keep.refl h0, OwnRow.nil _ _ _ _⟩
  · have hE : resE xs cs = 1 := by unfold resE; rw [if_neg c1]
    rw [hE, if_neg (by omega)]
    cases c4 : mayC cs
    · simp (disch := omega) only [lt_t, lt_f, gt_t, gt_f, le_t, le_f, ge_t, ge_f, ne_t, ne_f, eq_t, eq_f, w64, chk_true, Option.bind_some, decide_true, decide_false, cond_true, cond_false, seqJ_n, seqJ_r, seqJ_e, headK_c, asB_bool, asI_int, asS_s, asN_int, extrK_0, extrK_1, extrK_2, Bool.not_true, Bool.not_false, Nat.beq_refl, hm, c4]
      exact ⟨_, _, rfl, Keep.refl h0, OwnRow.nil _ _ _ _⟩
    · have : xs.length < cs.length := by
        rcases Nat.lt_or_ge xs.length cs.length with h | h
        · exact h
        · exact absurd ⟨c4, h⟩ c1
      simp (disch := omega) only [lt_t, lt_f, gt_t, gt_f, le_t, le_f, ge_t, ge_f, ne_t, ne_f, eq_t, eq_f, w64, chk_true, Option.bind_some, decide_true, decide_false, cond_true, cond_false, seqJ_n, seqJ_r, seqJ_e, headK_c, asB_bool, asI_int, asS_s, asN_int, extrK_0, extrK_1, extrK_2, Bool.not_true, Bool.not_false, Nat.beq_refl, hm, c4, hx.len, hc.len]
      exact ⟨_, _, rfl, Keep.refl h0, OwnRow.nil _ _ _ _⟩
end Go.Proofs.Ytbknenfbdhginaa
