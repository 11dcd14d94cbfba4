/- What the document's fixed predictors come to. -/
import Derived.Test.YtchapaejdgnihaaKCopy
import Derived.Test.YtchapaejdgnihaaKMay
import Derived.Test.YtchapaejdgnihaaQTame
namespace Go.Proofs.Ytchapaejdgnihaa
open Go Go.Proofs.Ytchapaejdgnihaa.E
set_option linter.unusedVariables false
set_option linter.unusedSimpArgs false
theorem refFixed_is {μ : AMem} (h0 : WF μ) (p : Int) : ∃ y μ', overdubref05_Fixed [.s (.int .i64 p)] μ = some (.s y, μ') ∧ Same μ μ' ∧ OwnRow μ.next μ' .i64 3 y (fixC p) := by
  rw [overdubref05_Fixed_eq]
  unfold fixC
  by_cases c1 : p = 1
  · rw [if_pos c1]
    simp -implicitDefEqProofs (disch := omega) only [lt_t, lt_f, gt_t, gt_f, le_t, le_f, ge_t, ge_f, ne_t, ne_f, eq_t, eq_f, w64, chk_true, Option.bind_some, decide_true, decide_false, cond_true, cond_false, seqJ_n, seqJ_r, seqJ_e, headK_c, asB_bool, asI_int, asS_s, asN_int, extrK_0, extrK_1, extrK_2, Bool.not_true, Bool.not_false, Nat.beq_refl]
    exact ⟨_, _, rfl, Same.bumpSet h0 (by omega) _, OwnRow.new (o := rowObj [.int .i64 1] 1 3 (some 1)) (by simp) (by omega) rfl rfl rfl rfl rfl rfl⟩
  · rw [if_neg c1]
    by_cases c2 : p = 2
    · rw [if_pos c2]
      simp -implicitDefEqProofs (disch := omega) only [lt_t, lt_f, gt_t, gt_f, le_t, le_f, ge_t, ge_f, ne_t, ne_f, eq_t, eq_f, w64, chk_true, Option.bind_some, decide_true, decide_false, cond_true, cond_false, seqJ_n, seqJ_r, seqJ_e, headK_c, asB_bool, asI_int, asS_s, asN_int, extrK_0, extrK_1, extrK_2, Bool.not_true, Bool.not_false, Nat.beq_refl]
      exact ⟨_, _, rfl, Same.bumpSet h0 (by omega) _, OwnRow.new (o := rowObj [.int .i64 2, .int .i64 (-1)] 1 3 (some 2)) (by simp) (by omega) rfl rfl rfl rfl rfl rfl⟩
    · rw [if_neg c2]
      by_cases c3 : p = 3
      · rw [if_pos c3]
        simp -implicitDefEqProofs (disch := omega) only [lt_t, lt_f, gt_t, gt_f, le_t, le_f, ge_t, ge_f, ne_t, ne_f, eq_t, eq_f, w64, chk_true, Option.bind_some, decide_true, decide_false, cond_true, cond_false, seqJ_n, seqJ_r, seqJ_e, headK_c, asB_bool, asI_int, asS_s, asN_int, extrK_0, extrK_1, extrK_2, Bool.not_true, Bool.not_false, Nat.beq_refl]
        exact ⟨_, _, rfl, Same.bumpSet h0 (by omega) _, OwnRow.new (o := rowObj [.int .i64 3, .int .i64 (-3), .int .i64 1] 1 3 (some 3)) (by simp) (by omega) rfl rfl rfl rfl rfl rfl⟩
      · rw [if_neg c3]
        by_cases c4 : p = 4
        · rw [if_pos c4]
          simp -implicitDefEqProofs (disch := omega) only [lt_t, lt_f, gt_t, gt_f, le_t, le_f, ge_t, ge_f, ne_t, ne_f, eq_t, eq_f, w64, chk_true, Option.bind_some, decide_true, decide_false, cond_true, cond_false, seqJ_n, seqJ_r, seqJ_e, headK_c, asB_bool, asI_int, asS_s, asN_int, extrK_0, extrK_1, extrK_2, Bool.not_true, Bool.not_false, Nat.beq_refl]
          exact ⟨_, _, rfl, Same.bumpSet h0 (by omega) _, OwnRow.new (o := rowObj [.int .i64 4, .int .i64 (-6), .int .i64 4, .int .i64 (-1)] 1 3 (some 4)) (by simp) (by omega) rfl rfl rfl rfl rfl rfl⟩
        · rw [if_neg c4]
          simp -implicitDefEqProofs (disch := omega) only [lt_t, lt_f, gt_t, gt_f, le_t, le_f, ge_t, ge_f, ne_t, ne_f, eq_t, eq_f, w64, chk_true, Option.bind_some, decide_true, decide_false, cond_true, cond_false, seqJ_n, seqJ_r, seqJ_e, headK_c, asB_bool, asI_int, asS_s, asN_int, extrK_0, extrK_1, extrK_2, Bool.not_true, Bool.not_false, Nat.beq_refl]
          exact ⟨_, _, rfl, Keep.refl h0, OwnRow.nil _ _ _ _⟩
theorem told_loop {μ : AMem} {x c : SV} {zs cs : List Int} (hx : IsRow μ .i64 x zs) (hc : IsRow μ .i64 c cs) (hl : cs.length ≤ zs.length) (hl4 : cs.length ≤ 4) (hb : zs.length ≤ 1000000000000) (hz : tame zs) (hcs : ∀ v ∈ cs, -6 ≤ v ∧ v ≤ 6) :
    ∀ k i : Nat, i + k = cs.length → overdubref05_told_L1 [.s x, .s c, .s (.int .i64 cs.length)] [.s (.int .i64 (fsum zs cs i)), .s (.int .i64 i)] μ = some (.exit 0, [.s (.int .i64 (fsum zs cs cs.length))], μ)
  | 0, i, h => by
    obtain rfl : i = cs.length := by omega
    rw [overdubref05_told_L1_eq, overdubref05_told_L1_B_eq]
    simp -implicitDefEqProofs (disch := omega) only [lt_t, lt_f, gt_t, gt_f, le_t, le_f, ge_t, ge_f, ne_t, ne_f, eq_t, eq_f, w64, chk_true, Option.bind_some, decide_true, decide_false, cond_true, cond_false, seqJ_n, seqJ_r, seqJ_e, headK_c, asB_bool, asI_int, asS_s, asN_int, extrK_0, extrK_1, extrK_2, Bool.not_true, Bool.not_false, Nat.beq_refl]
  | k + 1, i, h => by
    have ih := told_loop hx hc hl hl4 hb hz hcs k (i + 1) (by omega)
    rw [nsu] at ih
    have hs := fsum_le hz hcs i
    have ht := fterm_le hz hcs i
    have e1 : (((zs.length : Nat) : Int) - 1 - (i : Int)).toNat = zs.length - 1 - i := by omega
    rw [overdubref05_told_L1_eq, overdubref05_told_L1_B_eq]
    simp -implicitDefEqProofs (disch := omega) only [lt_t, lt_f, gt_t, gt_f, le_t, le_f, ge_t, ge_f, ne_t, ne_f, eq_t, eq_f, w64, chk_true, Option.bind_some, decide_true, decide_false, cond_true, cond_false, seqJ_n, seqJ_r, seqJ_e, headK_c, asB_bool, asI_int, asS_s, asN_int, extrK_0, extrK_1, extrK_2, Bool.not_true, Bool.not_false, Nat.beq_refl, hc.ind, hc.load, hx.ind, hx.load, hx.len, nat_toNat, e1]
    exact ih
theorem told_is {μ : AMem} (h0 : WF μ) {x : SV} {zs : List Int} {p : Int} (hx : IsRow μ .i64 x zs) (hl : (fixC p).length ≤ zs.length) (hb : zs.length ≤ 1000000000000) (hz : tame zs) :
    ∃ μ', overdubref05_told [.s x, .s (.int .i64 p)] μ = some (.s (.int .i64 (fguess p zs)), μ') ∧ Same μ μ' := by
  obtain ⟨c, m, g1, g2, g3⟩ := refFixed_is h0 p
  have := told_loop (hx.same g2) g3.row hl (fixC_le p) hb hz (fixC_six p) _ 0 (Nat.zero_add _)
  rw [n0, show fsum zs (fixC p) 0 = 0 from rfl] at this
  rw [overdubref05_told_eq]
  simp -implicitDefEqProofs (disch := omega) only [lt_t, lt_f, gt_t, gt_f, le_t, le_f, ge_t, ge_f, ne_t, ne_f, eq_t, eq_f, w64, chk_true, Option.bind_some, decide_true, decide_false, cond_true, cond_false, seqJ_n, seqJ_r, seqJ_e, headK_c, asB_bool, asI_int, asS_s, asN_int, extrK_0, extrK_1, extrK_2, Bool.not_true, Bool.not_false, Nat.beq_refl, g1, g3.row.len, this]
  exact ⟨_, rfl, g2⟩
theorem refRes_loop {μ0 : AMem} (h0 : WF μ0) {x : SV} {xs : List Int} {p : Int} (hp : 0 ≤ p ∧ p ≤ 4) (hx : IsRow μ0 .i64 x xs) (hb : xs.length ≤ 1000000000) (hz : tame xs) :
    ∀ (k i : Nat) (μ : AMem) (y : SV) (zs : List Int), i + k = xs.length → p ≤ i → zs.length ≤ i → Same μ0 μ → OwnRow μ0.next μ .i64 3 y zs →
      ∃ y' μ', overdubref05_Residual_L1 [.s x, .s (.int .i64 p)] [.s y, .s (.int .i64 i)] μ = some (.exit 0, [.s y'], μ') ∧ Same μ0 μ' ∧ OwnRow μ0.next μ' .i64 3 y' (zs ++ (List.range' i k).map fun j => xs.getD j 0 - fguess p (xs.take j))
  | 0, i, μ, y, zs, h, hpi, hl, hs, hy => by
    rw [overdubref05_Residual_L1_eq, overdubref05_Residual_L1_B_eq, (hx.same hs).len]
    simp -implicitDefEqProofs (disch := omega) only [lt_t, lt_f, gt_t, gt_f, le_t, le_f, ge_t, ge_f, ne_t, ne_f, eq_t, eq_f, w64, chk_true, Option.bind_some, decide_true, decide_false, cond_true, cond_false, seqJ_n, seqJ_r, seqJ_e, headK_c, asB_bool, asI_int, asS_s, asN_int, extrK_0, extrK_1, extrK_2, Bool.not_true, Bool.not_false, Nat.beq_refl]
    exact ⟨y, μ, rfl, hs, by rw [show (List.range' i 0).map _ = [] from rfl, List.append_nil]; exact hy⟩
  | k + 1, i, μ, y, zs, h, hpi, hl, hs, hy => by
    have hi : i < xs.length := by omega
    have hx1 := hx.same hs
    have hx2 := hx.same (bumpS hs 14)
    have hv := hz _ (getD_mem hi)
    have hg := fguess_le (p := p) (tame_take hz i)
    obtain ⟨z, f1, f2⟩ := hx2.front (n := i) (by omega)
    obtain ⟨m, gu, hm⟩ := told_is (bumpS hs 14).wf f2 (p := p) (by rw [fixC_len hp]; simp; omega) (by simp; omega) (tame_take hz i)
    have hx3 := hx2.same hm
    obtain ⟨y', μ', p1, p2, p3⟩ := pushM (B := 8) (a := 11) (b := 12) (n := 14) (q := some 1) h0 hs hm hy (xs.getD i 0 - fguess p (xs.take i)) (by omega) (by omega) (by omega) (by omega) (by omega)
    obtain ⟨y2, μ2, q1, q2, q3⟩ := refRes_loop h0 hp hx hb hz k (i + 1) μ' y' _ (by omega) (by omega) (by simp; omega) p2 p3
    rw [nsu] at q1
    rw [List.append_assoc] at q3
    refine ⟨y2, μ2, ?_, q2, q3⟩
    rw [overdubref05_Residual_L1_eq, overdubref05_Residual_L1_B_eq, hx1.len]
    simp -implicitDefEqProofs (disch := omega) only [lt_t, lt_f, gt_t, gt_f, le_t, le_f, ge_t, ge_f, ne_t, ne_f, eq_t, eq_f, w64, chk_true, Option.bind_some, decide_true, decide_false, cond_true, cond_false, seqJ_n, seqJ_r, seqJ_e, headK_c, asB_bool, asI_int, asS_s, asN_int, extrK_0, extrK_1, extrK_2, Bool.not_true, Bool.not_false, Nat.beq_refl, hx2.ind, hx2.load, hx3.load, nat_toNat, f1, gu, freshS hs.wf (n := 14) (a := 11) (by omega) hm, p1]
    exact q1
theorem refRes_is {μ : AMem} (h0 : WF μ) {x : SV} {xs : List Int} (p : Int) (hx : IsRow μ .i64 x xs) (hb : xs.length ≤ 1000000000) :
    ∃ y μ', overdubref05_Residual [.s x, .s (.int .i64 p)] μ = some (.tuple [.s y, .s (.int .i64 (fresE xs p))], μ') ∧ Same μ μ' ∧ OwnRow μ.next μ' .i64 3 y (fresZ xs p) := by
  rw [overdubref05_Residual_eq]
  unfold fresZ
  by_cases c1 : 0 ≤ p ∧ p ≤ 4 ∧ p ≤ xs.length
  · have hE : fresE xs p = checkZ xs := by unfold fresE; rw [if_pos c1]
    have hk := refMay_is hx (by omega)
    rw [hE]
    by_cases c3 : checkZ xs = 0
    · have hz := checkZ_ok c3
      have hpn : ((p.toNat : Nat) : Int) = p := by omega
      obtain ⟨y, μ', r1, r2, r3⟩ := refRes_loop h0 (p := p) (by omega) hx hb hz.1 (xs.length - p.toNat) p.toNat μ .nilSlice [] (by omega) (by omega) (by simp) (Keep.refl h0) (OwnRow.nil _ _ _ _)
      rw [hpn] at r1
      simp -implicitDefEqProofs (disch := omega) only [lt_t, lt_f, gt_t, gt_f, le_t, le_f, ge_t, ge_f, ne_t, ne_f, eq_t, eq_f, w64, chk_true, Option.bind_some, decide_true, decide_false, cond_true, cond_false, seqJ_n, seqJ_r, seqJ_e, headK_c, asB_bool, asI_int, asS_s, asN_int, extrK_0, extrK_1, extrK_2, Bool.not_true, Bool.not_false, Nat.beq_refl, hx.len, hk, c3, r1, if_true]
      rw [List.nil_append] at r3
      exact ⟨_, _, rfl, r2, r3⟩
    · simp -implicitDefEqProofs (disch := omega) only [lt_t, lt_f, gt_t, gt_f, le_t, le_f, ge_t, ge_f, ne_t, ne_f, eq_t, eq_f, w64, chk_true, Option.bind_some, decide_true, decide_false, cond_true, cond_false, seqJ_n, seqJ_r, seqJ_e, headK_c, asB_bool, asI_int, asS_s, asN_int, extrK_0, extrK_1, extrK_2, Bool.not_true, Bool.not_false, Nat.beq_refl, hx.len, hk, if_neg c3]
      exact ⟨_, _, rfl, Keep.refl h0, OwnRow.nil _ _ _ _⟩
  · have hE : fresE xs p = 1 := by unfold fresE; rw [if_neg c1]
    rw [hE, if_neg (by omega)]
    by_cases d1 : p < 0
    · simp -implicitDefEqProofs (disch := omega) only [lt_t, lt_f, gt_t, gt_f, le_t, le_f, ge_t, ge_f, ne_t, ne_f, eq_t, eq_f, w64, chk_true, Option.bind_some, decide_true, decide_false, cond_true, cond_false, seqJ_n, seqJ_r, seqJ_e, headK_c, asB_bool, asI_int, asS_s, asN_int, extrK_0, extrK_1, extrK_2, Bool.not_true, Bool.not_false, Nat.beq_refl]
      exact ⟨_, _, rfl, Keep.refl h0, OwnRow.nil _ _ _ _⟩
    · by_cases d2 : p > 4
      · simp -implicitDefEqProofs (disch := omega) only [lt_t, lt_f, gt_t, gt_f, le_t, le_f, ge_t, ge_f, ne_t, ne_f, eq_t, eq_f, w64, chk_true, Option.bind_some, decide_true, decide_false, cond_true, cond_false, seqJ_n, seqJ_r, seqJ_e, headK_c, asB_bool, asI_int, asS_s, asN_int, extrK_0, extrK_1, extrK_2, Bool.not_true, Bool.not_false, Nat.beq_refl]
        exact ⟨_, _, rfl, Keep.refl h0, OwnRow.nil _ _ _ _⟩
      · have d3 : ¬ p ≤ xs.length := fun h => c1 ⟨by omega, by omega, h⟩
        simp -implicitDefEqProofs (disch := omega) only [lt_t, lt_f, gt_t, gt_f, le_t, le_f, ge_t, ge_f, ne_t, ne_f, eq_t, eq_f, w64, chk_true, Option.bind_some, decide_true, decide_false, cond_true, cond_false, seqJ_n, seqJ_r, seqJ_e, headK_c, asB_bool, asI_int, asS_s, asN_int, extrK_0, extrK_1, extrK_2, Bool.not_true, Bool.not_false, Nat.beq_refl, hx.len]
        exact ⟨_, _, rfl, Keep.refl h0, OwnRow.nil _ _ _ _⟩
end Go.Proofs.Ytchapaejdgnihaa
