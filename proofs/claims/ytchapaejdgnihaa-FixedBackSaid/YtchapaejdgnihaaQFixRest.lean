/- The samples again, by fixed predictors: the program's answer and the document's. -/
import Derived.Test.YtchapaejdgnihaaKRun
import Derived.Test.YtchapaejdgnihaaQFix
import Derived.Test.YtchapaejdgnihaaQFixR
namespace Go.Proofs.Ytchapaejdgnihaa
open Go Go.Proofs.Ytchapaejdgnihaa.E
set_option linter.unusedVariables false
set_option linter.unusedSimpArgs false
def frestE (ws rs : List Int) : Int := if ws.length ≤ 4 then runE (fguess ws.length) ws rs else 1
def frestZ (ws rs : List Int) : List Int := if ws.length ≤ 4 then runZ (fguess ws.length) ws rs else []
theorem fixRest_is {μ : AMem} (h0 : WF μ) {w r : SV} {ws rs : List Int} (hw : IsRow μ .i64 w ws) (hr : IsRow μ .i64 r rs) (hb : ws.length ≤ 1000000000) (hb1 : rs.length ≤ 1000000000) :
    ∃ y μ', fixed_Restore [.s w, .s r] μ = some (.tuple [.s y, .s (.int .i64 (frestE ws rs))], μ') ∧ Same μ μ' ∧ OwnRow μ.next μ' .i64 3 y (frestZ ws rs) := by
  rw [fixed_Restore_eq, hw.len]
  unfold frestE frestZ
  by_cases c1 : ws.length ≤ 4
  · rw [if_pos c1, if_pos c1]
    have k5 := bumpS (Keep.refl h0) 5
    obtain ⟨c, m1, g1, g2, g3⟩ := fixCoef_is k5.wf (ws.length : Int)
    have hn1 := g2.next
    simp only [bump_next] at hn1
    have k6 : Same μ (m1.set (μ.next + 3) (rowObj [.nilSlice] 1 22 (some 1))) := Keep.setS h0 (k5.trans g2) (by omega) (by omega)
    obtain ⟨m5, hst, hs5, hb5, hc5⟩ : ∃ m5, (m1.set (μ.next + 3) (rowObj [.nilSlice] 1 22 (some 1))).store (μ.next + 3) 0 0 [c] = some m5 ∧ Same μ m5 ∧ m5.obj (μ.next + 3) = some (rowObj [c] 1 22 (some 1)) ∧ IsRow m5 .i64 c (fixC (ws.length : Int)) := by
      refine ⟨(m1.set (μ.next + 3) (rowObj [.nilSlice] 1 22 (some 1))).set (μ.next + 3) (rowObj [c] 1 22 (some 1)), ?_, Keep.setS h0 k6 (by omega) (by simp; omega), by simp, ?_⟩
      · simp only [AMem.store, set_obj, if_true, Option.bind_some]; rfl
      · refine ((g3.old fun id o ho hi => ?_).row)
        have : ¬ id = μ.next + 3 := fun e => g3.notOld (id := id) (by simp; omega) hi
        rw [set_obj, if_neg this, set_obj, if_neg this]; exact ho
    have hnx := hs5.next
    have hcell : ∀ m, Same m5 m → m.cell (μ.next + 3) 0 0 = some c := fun m hm => by
      simp only [AMem.cell, hm.old _ _ hb5 (fun h => h), Option.bind_some]; rfl
    have hpl : (fixC (ws.length : Int)).length = ws.length := by rw [fixC_len (by omega)]; rfl
    have hg : ∀ {R : Type} (m : AMem) (y : SV) (zs : List Int) (K : AV → AMem → Option R), Same m5 m → IsRow m .i64 y zs → zs.length ≤ 2000000000 → (ws.length ≤ zs.length ∧ tame zs) → callV G26 (.s (.func 27 [((μ.next + 3), 0, 0)])) [.s y] m K = K (.s (.int .i64 (fguess ws.length zs))) m := by
      intro R m y zs K hm' hy hl hP
      have hq := fixGuess_is hy (hc5.same hm') (by omega) (by omega) hP.2
      show (G26 27 [.s y, .s (.ptr (μ.next + 3) 0 0)] m).bind (fun r => K r.1 r.2) = _
      rw [G26_27, fixed_Restore_1_eq, hcell m hm']
      simp -implicitDefEqProofs (disch := omega) only [lt_t, lt_f, gt_t, gt_f, le_t, le_f, ge_t, ge_f, ne_t, ne_f, eq_t, eq_f, w64, chk_true, Option.bind_some, decide_true, decide_false, cond_true, cond_false, seqJ_n, seqJ_r, seqJ_e, headK_c, asB_bool, asI_int, asS_s, asN_int, extrK_0, extrK_1, extrK_2, Bool.not_true, Bool.not_false, Nat.beq_refl, hq]
    have hPw : checkZ (ws.take 64) = 0 → ws.length ≤ ws.length ∧ tame ws := by
      intro h
      rw [List.take_of_length_le (by omega)] at h
      exact ⟨Nat.le_refl _, (checkZ_ok h).1⟩
    obtain ⟨y, μ2, r1, r2, r3⟩ := run_is hs5.wf (hw.same hs5) (hr.same hs5) (by omega) (by omega) (g := fguess ws.length) (P := fun zs => ws.length ≤ zs.length ∧ tame zs) (fun zs v h hv => ⟨by simp; omega, tame_snoc h.2 hv⟩) hPw hg
    simp -implicitDefEqProofs (disch := omega) only [lt_t, lt_f, gt_t, gt_f, le_t, le_f, ge_t, ge_f, ne_t, ne_f, eq_t, eq_f, w64, chk_true, Option.bind_some, decide_true, decide_false, cond_true, cond_false, seqJ_n, seqJ_r, seqJ_e, headK_c, asB_bool, asI_int, asS_s, asN_int, extrK_0, extrK_1, extrK_2, Bool.not_true, Bool.not_false, Nat.beq_refl, g1, hst, r1]
    exact ⟨_, _, rfl, hs5.trans r2, r3.less hnx⟩
  · rw [if_neg c1, if_neg c1]
    simp -implicitDefEqProofs (disch := omega) only [lt_t, lt_f, gt_t, gt_f, le_t, le_f, ge_t, ge_f, ne_t, ne_f, eq_t, eq_f, w64, chk_true, Option.bind_some, decide_true, decide_false, cond_true, cond_false, seqJ_n, seqJ_r, seqJ_e, headK_c, asB_bool, asI_int, asS_s, asN_int, extrK_0, extrK_1, extrK_2, Bool.not_true, Bool.not_false, Nat.beq_refl]
    exact ⟨_, _, rfl, Keep.refl h0, OwnRow.nil _ _ _ _⟩
theorem refFix_loop {μ0 : AMem} (h0 : WF μ0) {w r : SV} {ws rs : List Int} {W : Nat} (hW : W ≤ 1000000000) (hw : IsRow μ0 .i64 w ws) (hw4 : ws.length ≤ 4) (hr : IsRow μ0 .i64 r rs) (hb : rs.length ≤ 1000000000) :
    ∀ (k i : Nat) (μ : AMem) (y : SV) (zs : List Int), i + k = rs.length → zs.length ≤ i + W → ws.length ≤ zs.length → tame zs → Same μ0 μ → OwnRow μ0.next μ .i64 3 y zs →
      (runL (fguess ws.length) zs (rs.drop i) = none → ∃ μ', overdubref05_Restore_L1 [.s w, .s r, .s (.int .i64 rs.length)] [.s y, .s (.int .i64 i)] μ = some (.ret, [.s .nilSlice, .s (.int .i64 8)], μ') ∧ Same μ0 μ') ∧
      (∀ out, runL (fguess ws.length) zs (rs.drop i) = some out → ∃ y' μ', overdubref05_Restore_L1 [.s w, .s r, .s (.int .i64 rs.length)] [.s y, .s (.int .i64 i)] μ = some (.exit 0, [.s y'], μ') ∧ Same μ0 μ' ∧ OwnRow μ0.next μ' .i64 3 y' out)
  | 0, i, μ, y, zs, h, hl, hwz, ht, hs, hy => by
    rw [overdubref05_Restore_L1_eq, overdubref05_Restore_L1_B_eq, List.drop_eq_nil_of_le (by omega)]
    refine ⟨fun h => by simp [runL] at h, fun out h => ?_⟩
    simp only [runL, Option.some.injEq] at h
    subst h
    simp -implicitDefEqProofs (disch := omega) only [lt_t, lt_f, gt_t, gt_f, le_t, le_f, ge_t, ge_f, ne_t, ne_f, eq_t, eq_f, w64, chk_true, Option.bind_some, decide_true, decide_false, cond_true, cond_false, seqJ_n, seqJ_r, seqJ_e, headK_c, asB_bool, asI_int, asS_s, asN_int, extrK_0, extrK_1, extrK_2, Bool.not_true, Bool.not_false, Nat.beq_refl]
    exact ⟨y, μ, rfl, hs, hy⟩
  | k + 1, i, μ, y, zs, h, hl, hwz, ht, hs, hy => by
    have hi : i < rs.length := by omega
    have hr1 := hr.same hs
    rw [overdubref05_Restore_L1_eq, overdubref05_Restore_L1_B_eq, drop_cons hi, runL]
    have hwl := (hw.same hs).len
    have hpl : (fixC (ws.length : Int)).length = ws.length := by rw [fixC_len (by omega)]; rfl
    obtain ⟨m, hq, hm⟩ := told_is hs.wf (p := (ws.length : Int)) hy.row (by omega) (by omega) ht
    have hr2 := hr1.same hm
    have hsm := hs.trans hm
    obtain ⟨y', μ', p1, p2, p3⟩ := pushS (B := 8) (a := 2) (b := 3) (n := 5) (q := some 1) h0 hsm (hy.old fun id o ho _ => hm.old id o ho fun h => h) (IntKind.wrap .i64 (fguess ws.length zs + rs.getD i 0)) (by omega) (by omega) (by omega) (by omega) (by omega)
    by_cases c1 : rs.getD i 0 < -1099511627776
    · rw [if_pos (Or.inl c1)]
      refine ⟨fun _ => ?_, fun out h => by cases h⟩
      simp -implicitDefEqProofs (disch := omega) only [lt_t, lt_f, gt_t, gt_f, le_t, le_f, ge_t, ge_f, ne_t, ne_f, eq_t, eq_f, w64, chk_true, Option.bind_some, decide_true, decide_false, cond_true, cond_false, seqJ_n, seqJ_r, seqJ_e, headK_c, asB_bool, asI_int, asS_s, asN_int, extrK_0, extrK_1, extrK_2, Bool.not_true, Bool.not_false, Nat.beq_refl, hr1.ind, hr1.load, nat_toNat]
      exact ⟨μ, rfl, hs⟩
    · by_cases c2 : rs.getD i 0 > 1099511627776
      · rw [if_pos (Or.inr c2)]
        refine ⟨fun _ => ?_, fun out h => by cases h⟩
        simp -implicitDefEqProofs (disch := omega) only [lt_t, lt_f, gt_t, gt_f, le_t, le_f, ge_t, ge_f, ne_t, ne_f, eq_t, eq_f, w64, chk_true, Option.bind_some, decide_true, decide_false, cond_true, cond_false, seqJ_n, seqJ_r, seqJ_e, headK_c, asB_bool, asI_int, asS_s, asN_int, extrK_0, extrK_1, extrK_2, Bool.not_true, Bool.not_false, Nat.beq_refl, hr1.ind, hr1.load, nat_toNat]
        exact ⟨μ, rfl, hs⟩
      · rw [if_neg (by omega)]
        by_cases c3 : IntKind.wrap .i64 (fguess ws.length zs + rs.getD i 0) < -8388608
        · have e3 : okS (IntKind.wrap .i64 (fguess ws.length zs + rs.getD i 0)) = false := by unfold okS; rw [decide_eq_false (by omega)]; rfl
          rw [if_neg (by rw [e3]; exact Bool.false_ne_true)]
          refine ⟨fun _ => ?_, fun out h => by cases h⟩
          simp -implicitDefEqProofs (disch := omega) only [lt_t, lt_f, gt_t, gt_f, le_t, le_f, ge_t, ge_f, ne_t, ne_f, eq_t, eq_f, w64, chk_true, Option.bind_some, decide_true, decide_false, cond_true, cond_false, seqJ_n, seqJ_r, seqJ_e, headK_c, asB_bool, asI_int, asS_s, asN_int, extrK_0, extrK_1, extrK_2, Bool.not_true, Bool.not_false, Nat.beq_refl, hr1.ind, hr1.load, nat_toNat, hwl, hq, hr2.load, lt_t c3]
          exact ⟨m, rfl, hsm⟩
        · have c3f := lt_f (a := IntKind.wrap .i64 (fguess ws.length zs + rs.getD i 0)) (b := -8388608) (by omega)
          by_cases c4 : IntKind.wrap .i64 (fguess ws.length zs + rs.getD i 0) > 8388607
          · have e3 : okS (IntKind.wrap .i64 (fguess ws.length zs + rs.getD i 0)) = false := by unfold okS; rw [decide_eq_false (p := IntKind.wrap .i64 (fguess ws.length zs + rs.getD i 0) ≤ 8388607) (by omega), Bool.and_false]
            rw [if_neg (by rw [e3]; exact Bool.false_ne_true)]
            refine ⟨fun _ => ?_, fun out h => by cases h⟩
            simp -implicitDefEqProofs (disch := omega) only [lt_t, lt_f, gt_t, gt_f, le_t, le_f, ge_t, ge_f, ne_t, ne_f, eq_t, eq_f, w64, chk_true, Option.bind_some, decide_true, decide_false, cond_true, cond_false, seqJ_n, seqJ_r, seqJ_e, headK_c, asB_bool, asI_int, asS_s, asN_int, extrK_0, extrK_1, extrK_2, Bool.not_true, Bool.not_false, Nat.beq_refl, hr1.ind, hr1.load, nat_toNat, hwl, hq, hr2.load, c3f, gt_t c4]
            exact ⟨m, rfl, hsm⟩
          · have c4f := gt_f (a := IntKind.wrap .i64 (fguess ws.length zs + rs.getD i 0)) (b := 8388607) (by omega)
            have e3 : okS (IntKind.wrap .i64 (fguess ws.length zs + rs.getD i 0)) = true := by unfold okS; rw [decide_eq_true (p := IntKind.wrap .i64 (fguess ws.length zs + rs.getD i 0) ≤ 8388607) (by omega), decide_eq_true (by omega)]; rfl
            obtain ⟨i1, i2⟩ := refFix_loop h0 hW hw hw4 hr hb k (i + 1) μ' y' _ (by omega) (by simp; omega) (by simp; omega) (tame_snoc ht e3) p2 p3
            rw [nsu] at i1 i2
            rw [if_pos e3]
            refine ⟨fun h => ?_, fun out h => ?_⟩
            · obtain ⟨μ2, q1, q2⟩ := i1 h
              refine ⟨μ2, ?_, q2⟩
              simp -implicitDefEqProofs (disch := omega) only [lt_t, lt_f, gt_t, gt_f, le_t, le_f, ge_t, ge_f, ne_t, ne_f, eq_t, eq_f, w64, chk_true, Option.bind_some, decide_true, decide_false, cond_true, cond_false, seqJ_n, seqJ_r, seqJ_e, headK_c, asB_bool, asI_int, asS_s, asN_int, extrK_0, extrK_1, extrK_2, Bool.not_true, Bool.not_false, Nat.beq_refl, hr1.ind, hr1.load, nat_toNat, hwl, hq, hr2.load, c3f, c4f, p1]
              exact q1
            · obtain ⟨y2, μ2, q1, q2, q3⟩ := i2 out h
              refine ⟨y2, μ2, ?_, q2, q3⟩
              simp -implicitDefEqProofs (disch := omega) only [lt_t, lt_f, gt_t, gt_f, le_t, le_f, ge_t, ge_f, ne_t, ne_f, eq_t, eq_f, w64, chk_true, Option.bind_some, decide_true, decide_false, cond_true, cond_false, seqJ_n, seqJ_r, seqJ_e, headK_c, asB_bool, asI_int, asS_s, asN_int, extrK_0, extrK_1, extrK_2, Bool.not_true, Bool.not_false, Nat.beq_refl, hr1.ind, hr1.load, nat_toNat, hwl, hq, hr2.load, c3f, c4f, p1]
              exact q1
theorem refFixRest_is {μ : AMem} (h0 : WF μ) {w r : SV} {ws rs : List Int} (hw : IsRow μ .i64 w ws) (hr : IsRow μ .i64 r rs) (hb : ws.length ≤ 1000000000) (hb1 : rs.length ≤ 1000000000) :
    ∃ y μ', overdubref05_Restore [.s w, .s r] μ = some (.tuple [.s y, .s (.int .i64 (frestE ws rs))], μ') ∧ Same μ μ' ∧ OwnRow μ.next μ' .i64 3 y (frestZ ws rs) := by
  rw [overdubref05_Restore_eq, hw.len]
  unfold frestE frestZ
  by_cases c1 : ws.length ≤ 4
  · rw [if_pos c1, if_pos c1]
    have ht : ws.take 64 = ws := List.take_of_length_le (by omega)
    have hk := refMay_is hw (by omega)
    obtain ⟨y, m, g1, g2, g3⟩ := copyS (e := 3) (B := 8) (b := 1) (n := 3) h0 (Keep.refl h0) hw (by omega) (by omega) (by omega)
    unfold runE runZ
    rw [ht]
    by_cases c1' : checkZ ws = 0
    · rw [if_pos c1', if_pos c1']
      obtain ⟨i1, i2⟩ := refFix_loop (W := ws.length) h0 hb hw c1 hr hb1 _ 0 m y ws (Nat.zero_add _) (by omega) (by omega) (checkZ_ok c1').1 g2 g3
      rw [n0, List.drop_zero] at i1 i2
      cases c2' : runL (fguess ws.length) ws rs with
      | none =>
        obtain ⟨μ2, q1, q2⟩ := i1 c2'
        simp -implicitDefEqProofs (disch := omega) only [lt_t, lt_f, gt_t, gt_f, le_t, le_f, ge_t, ge_f, ne_t, ne_f, eq_t, eq_f, w64, chk_true, Option.bind_some, decide_true, decide_false, cond_true, cond_false, seqJ_n, seqJ_r, seqJ_e, headK_c, asB_bool, asI_int, asS_s, asN_int, extrK_0, extrK_1, extrK_2, Bool.not_true, Bool.not_false, Nat.beq_refl, hk, c1', g1, hr.len, q1]
        exact ⟨_, _, rfl, q2, OwnRow.nil _ _ _ _⟩
      | some out =>
        obtain ⟨y2, μ2, q1, q2, q3⟩ := i2 out c2'
        by_cases c3 : out.length > 64
        · simp -implicitDefEqProofs (disch := omega) only [lt_t, lt_f, gt_t, gt_f, le_t, le_f, ge_t, ge_f, ne_t, ne_f, eq_t, eq_f, w64, chk_true, Option.bind_some, decide_true, decide_false, cond_true, cond_false, seqJ_n, seqJ_r, seqJ_e, headK_c, asB_bool, asI_int, asS_s, asN_int, extrK_0, extrK_1, extrK_2, Bool.not_true, Bool.not_false, Nat.beq_refl, hk, c1', g1, hr.len, q1, q3.row.len, c3, if_true]
          exact ⟨_, _, rfl, q2, OwnRow.nil _ _ _ _⟩
        · simp -implicitDefEqProofs (disch := omega) only [lt_t, lt_f, gt_t, gt_f, le_t, le_f, ge_t, ge_f, ne_t, ne_f, eq_t, eq_f, w64, chk_true, Option.bind_some, decide_true, decide_false, cond_true, cond_false, seqJ_n, seqJ_r, seqJ_e, headK_c, asB_bool, asI_int, asS_s, asN_int, extrK_0, extrK_1, extrK_2, Bool.not_true, Bool.not_false, Nat.beq_refl, hk, c1', g1, hr.len, q1, q3.row.len, c3, if_false]
          exact ⟨_, _, rfl, q2, q3⟩
    · rw [if_neg c1', if_neg c1']
      simp -implicitDefEqProofs (disch := omega) only [lt_t, lt_f, gt_t, gt_f, le_t, le_f, ge_t, ge_f, ne_t, ne_f, eq_t, eq_f, w64, chk_true, Option.bind_some, decide_true, decide_false, cond_true, cond_false, seqJ_n, seqJ_r, seqJ_e, headK_c, asB_bool, asI_int, asS_s, asN_int, extrK_0, extrK_1, extrK_2, Bool.not_true, Bool.not_false, Nat.beq_refl, hk]
      exact ⟨_, _, rfl, Keep.refl h0, OwnRow.nil _ _ _ _⟩
  · rw [if_neg c1, if_neg c1]
    simp -implicitDefEqProofs (disch := omega) only [lt_t, lt_f, gt_t, gt_f, le_t, le_f, ge_t, ge_f, ne_t, ne_f, eq_t, eq_f, w64, chk_true, Option.bind_some, decide_true, decide_false, cond_true, cond_false, seqJ_n, seqJ_r, seqJ_e, headK_c, asB_bool, asI_int, asS_s, asN_int, extrK_0, extrK_1, extrK_2, Bool.not_true, Bool.not_false, Nat.beq_refl]
    exact ⟨_, _, rfl, Keep.refl h0, OwnRow.nil _ _ _ _⟩
end Go.Proofs.Ytchapaejdgnihaa
