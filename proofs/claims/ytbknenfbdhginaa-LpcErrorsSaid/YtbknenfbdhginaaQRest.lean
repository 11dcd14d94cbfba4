/- The samples again, by coefficients: the program's answer and the document's. -/
import Derived.Test.YtbknenfbdhginaaKRun
import Derived.Test.YtbknenfbdhginaaQRes
namespace Go.Proofs.Ytbknenfbdhginaa
open Go Go.Proofs.Ytbknenfbdhginaa.E
set_option linter.unusedVariables false
set_option linter.unusedSimpArgs false
def restE (ws rs cs : List Int) : Int := if mayC cs = true ∧ ws.length = cs.length then runE (fun l => guessZ l cs) ws rs else 1
def restZ (ws rs cs : List Int) : List Int := if mayC cs = true ∧ ws.length = cs.length then runZ (fun l => guessZ l cs) ws rs else []
theorem lpcRest_is {μ : AMem} (h0 : WF μ) {w r c : SV} {ws rs cs : List Int} (hw : IsRow μ .i64 w ws) (hr : IsRow μ .i64 r rs) (hc : IsRow μ .i64 c cs) (hb : ws.length ≤ 1000000000) (hb1 : rs.length ≤ 1000000000) (hb2 : cs.length ≤ 1000000000) :
    ∃ y μ', lpc_Restore [.s w, .s r, .s c] μ = some (.tuple [.s y, .s (.int .i64 (restE ws rs cs))], μ') ∧ Same μ μ' ∧ OwnRow μ.next μ' .i64 3 y (restZ ws rs cs) := by
  rw [lpc_Restore_eq]
  have hs1 : Same μ ((μ.bump 3).set (μ.next + 0) (rowObj [c] 1 24 (some 1))) := Same.bumpSet h0 (by omega) _
  have hbox : ((μ.bump 3).set (μ.next + 0) (rowObj [c] 1 24 (some 1))).obj (μ.next + 0) = some (rowObj [c] 1 24 (some 1)) := by simp
  have hnx : μ.next ≤ ((μ.bump 3).set (μ.next + 0) (rowObj [c] 1 24 (some 1))).next := by simp
  generalize ((μ.bump 3).set (μ.next + 0) (rowObj [c] 1 24 (some 1))) = μ1 at *
  have hcell : ∀ m, Same μ1 m → m.cell (μ.next + 0) 0 0 = some c := fun m hm => by
    simp only [AMem.cell, hm.old _ _ hbox (fun h => h), Option.bind_some]; rfl
  have hcl1 := hcell μ1 (Keep.refl hs1.wf)
  have hm := lpcMay_is (hc.same hs1) (by omega)
  have hlw := (hw.same hs1).len
  have hlc := (hc.same hs1).len
  by_cases c1 : mayC cs = true ∧ ws.length = cs.length
  · have hg : ∀ {R : Type} (m : AMem) (y : SV) (zs : List Int) (K : AV → AMem → Option R), Same μ1 m → IsRow m .i64 y zs → zs.length ≤ 2000000000 → True → callV G30 (.s (.func 31 [((μ.next + 0), 0, 0)])) [.s y] m K = K (.s (.int .i64 (guessZ zs cs))) m := by
      intro R m y zs K hm' hy hl _
      have hq := guess_is hy ((hc.same hs1).same hm') (by omega)
      show (G30 31 [.s y, .s (.ptr (μ.next + 0) 0 0)] m).bind (fun r => K r.1 r.2) = _
      rw [G30_31, lpc_Restore_1_eq, hcell m hm']
      simp (disch := omega) only [lt_t, lt_f, gt_t, gt_f, le_t, le_f, ge_t, ge_f, ne_t, ne_f, eq_t, eq_f, w64, chk_true, Option.bind_some, decide_true, decide_false, cond_true, cond_false, seqJ_n, seqJ_r, seqJ_e, headK_c, asB_bool, asI_int, asS_s, asN_int, extrK_0, extrK_1, extrK_2, Bool.not_true, Bool.not_false, Nat.beq_refl, hq]
    obtain ⟨y, μ2, r1, r2, r3⟩ := run_is hs1.wf (hw.same hs1) (hr.same hs1) (by omega) (by omega) (g := fun l => guessZ l cs) (P := fun _ => True) (fun _ _ _ _ => trivial) (fun _ => trivial) hg
    unfold restE restZ
    rw [if_pos c1, if_pos c1]
    obtain ⟨c1, c2⟩ := c1
    simp (disch := omega) only [lt_t, lt_f, gt_t, gt_f, le_t, le_f, ge_t, ge_f, ne_t, ne_f, eq_t, eq_f, w64, chk_true, Option.bind_some, decide_true, decide_false, cond_true, cond_false, seqJ_n, seqJ_r, seqJ_e, headK_c, asB_bool, asI_int, asS_s, asN_int, extrK_0, extrK_1, extrK_2, Bool.not_true, Bool.not_false, Nat.beq_refl, hcl1, hm, c1, hlw, hlc, r1]
    exact ⟨_, _, rfl, hs1.trans r2, r3.less hnx⟩
  · unfold restE restZ
    rw [if_neg c1, if_neg c1]
    cases c4 : mayC cs
    · simp (disch := omega) only [lt_t, lt_f, gt_t, gt_f, le_t, le_f, ge_t, ge_f, ne_t, ne_f, eq_t, eq_f, w64, chk_true, Option.bind_some, decide_true, decide_false, cond_true, cond_false, seqJ_n, seqJ_r, seqJ_e, headK_c, asB_bool, asI_int, asS_s, asN_int, extrK_0, extrK_1, extrK_2, Bool.not_true, Bool.not_false, Nat.beq_refl, hcl1, hm, c4]
      exact ⟨_, _, rfl, hs1, OwnRow.nil _ _ _ _⟩
    · have : ¬ ws.length = cs.length := fun h => c1 ⟨c4, h⟩
      simp (disch := omega) only [lt_t, lt_f, gt_t, gt_f, le_t, le_f, ge_t, ge_f, ne_t, ne_f, eq_t, eq_f, w64, chk_true, Option.bind_some, decide_true, decide_false, cond_true, cond_false, seqJ_n, seqJ_r, seqJ_e, headK_c, asB_bool, asI_int, asS_s, asN_int, extrK_0, extrK_1, extrK_2, Bool.not_true, Bool.not_false, Nat.beq_refl, hcl1, hm, c4, hlw, hlc]
      exact ⟨_, _, rfl, hs1, OwnRow.nil _ _ _ _⟩
theorem refRest_loop {μ0 : AMem} (h0 : WF μ0) {c r : SV} {cs rs : List Int} {W : Nat} (hW : W ≤ 1000000000) (hc : IsRow μ0 .i64 c cs) (hr : IsRow μ0 .i64 r rs) (hb : rs.length ≤ 1000000000) :
    ∀ (k i : Nat) (μ : AMem) (y : SV) (zs : List Int), i + k = rs.length → zs.length ≤ i + W → Same μ0 μ → OwnRow μ0.next μ .i64 3 y zs →
      (runL (fun l => guessZ l cs) zs (rs.drop i) = none → ∃ μ', overdubref05_LpcRestore_L1 [.s r, .s c, .s (.int .i64 rs.length)] [.s y, .s (.int .i64 i)] μ = some (.ret, [.s .nilSlice, .s (.int .i64 8)], μ') ∧ Same μ0 μ') ∧
      (∀ out, runL (fun l => guessZ l cs) zs (rs.drop i) = some out → ∃ y' μ', overdubref05_LpcRestore_L1 [.s r, .s c, .s (.int .i64 rs.length)] [.s y, .s (.int .i64 i)] μ = some (.exit 0, [.s y'], μ') ∧ Same μ0 μ' ∧ OwnRow μ0.next μ' .i64 3 y' out)
  | 0, i, μ, y, zs, h, hl, hs, hy => by
    rw [overdubref05_LpcRestore_L1_eq, overdubref05_LpcRestore_L1_B_eq, List.drop_eq_nil_of_le (by omega)]
    refine ⟨fun h => by simp [runL] at h, fun out h => ?_⟩
    simp only [runL, Option.some.injEq] at h
    subst h
    simp (disch := omega) only [lt_t, lt_f, gt_t, gt_f, le_t, le_f, ge_t, ge_f, ne_t, ne_f, eq_t, eq_f, w64, chk_true, Option.bind_some, decide_true, decide_false, cond_true, cond_false, seqJ_n, seqJ_r, seqJ_e, headK_c, asB_bool, asI_int, asS_s, asN_int, extrK_0, extrK_1, extrK_2, Bool.not_true, Bool.not_false, Nat.beq_refl]
    exact ⟨y, μ, rfl, hs, hy⟩
  | k + 1, i, μ, y, zs, h, hl, hs, hy => by
    have hi : i < rs.length := by omega
    have hr1 := hr.same hs
    rw [overdubref05_LpcRestore_L1_eq, overdubref05_LpcRestore_L1_B_eq, drop_cons hi, runL]
    have hq := refGuess_is hy.row (hc.same hs) (by omega)
    obtain ⟨y', μ', p1, p2, p3⟩ := pushS (B := 8) (a := 2) (b := 3) (n := 5) (q := some 1) h0 hs hy (IntKind.wrap .i64 (guessZ zs cs + rs.getD i 0)) (by omega) (by omega) (by omega) (by omega) (by omega)
    obtain ⟨i1, i2⟩ := refRest_loop h0 hW hc hr hb k (i + 1) μ' y' _ (by omega) (by simp; omega) p2 p3
    rw [nsu] at i1 i2
    by_cases c1 : rs.getD i 0 < -1099511627776
    · rw [if_pos (Or.inl c1)]
      refine ⟨fun _ => ?_, fun out h => by cases h⟩
      simp (disch := omega) only [lt_t, lt_f, gt_t, gt_f, le_t, le_f, ge_t, ge_f, ne_t, ne_f, eq_t, eq_f, w64, chk_true, Option.bind_some, decide_true, decide_false, cond_true, cond_false, seqJ_n, seqJ_r, seqJ_e, headK_c, asB_bool, asI_int, asS_s, asN_int, extrK_0, extrK_1, extrK_2, Bool.not_true, Bool.not_false, Nat.beq_refl, hr1.ind, hr1.load, nat_toNat]
      exact ⟨μ, rfl, hs⟩
    · by_cases c2 : rs.getD i 0 > 1099511627776
      · rw [if_pos (Or.inr c2)]
        refine ⟨fun _ => ?_, fun out h => by cases h⟩
        simp (disch := omega) only [lt_t, lt_f, gt_t, gt_f, le_t, le_f, ge_t, ge_f, ne_t, ne_f, eq_t, eq_f, w64, chk_true, Option.bind_some, decide_true, decide_false, cond_true, cond_false, seqJ_n, seqJ_r, seqJ_e, headK_c, asB_bool, asI_int, asS_s, asN_int, extrK_0, extrK_1, extrK_2, Bool.not_true, Bool.not_false, Nat.beq_refl, hr1.ind, hr1.load, nat_toNat]
        exact ⟨μ, rfl, hs⟩
      · rw [if_neg (by omega)]
        by_cases c3 : IntKind.wrap .i64 (guessZ zs cs + rs.getD i 0) < -8388608
        · have e3 : okS (IntKind.wrap .i64 (guessZ zs cs + rs.getD i 0)) = false := by unfold okS; rw [decide_eq_false (by omega)]; rfl
          rw [if_neg (by rw [e3]; exact Bool.false_ne_true)]
          refine ⟨fun _ => ?_, fun out h => by cases h⟩
          simp (disch := omega) only [lt_t, lt_f, gt_t, gt_f, le_t, le_f, ge_t, ge_f, ne_t, ne_f, eq_t, eq_f, w64, chk_true, Option.bind_some, decide_true, decide_false, cond_true, cond_false, seqJ_n, seqJ_r, seqJ_e, headK_c, asB_bool, asI_int, asS_s, asN_int, extrK_0, extrK_1, extrK_2, Bool.not_true, Bool.not_false, Nat.beq_refl, hr1.ind, hr1.load, nat_toNat, hq, chk_rfl, lt_t c3]
          exact ⟨μ, rfl, hs⟩
        · have c3f := lt_f (a := IntKind.wrap .i64 (guessZ zs cs + rs.getD i 0)) (b := -8388608) (by omega)
          by_cases c4 : IntKind.wrap .i64 (guessZ zs cs + rs.getD i 0) > 8388607
          · have e3 : okS (IntKind.wrap .i64 (guessZ zs cs + rs.getD i 0)) = false := by unfold okS; rw [decide_eq_false (p := IntKind.wrap .i64 (guessZ zs cs + rs.getD i 0) ≤ 8388607) (by omega), Bool.and_false]
            rw [if_neg (by rw [e3]; exact Bool.false_ne_true)]
            refine ⟨fun _ => ?_, fun out h => by cases h⟩
            simp (disch := omega) only [lt_t, lt_f, gt_t, gt_f, le_t, le_f, ge_t, ge_f, ne_t, ne_f, eq_t, eq_f, w64, chk_true, Option.bind_some, decide_true, decide_false, cond_true, cond_false, seqJ_n, seqJ_r, seqJ_e, headK_c, asB_bool, asI_int, asS_s, asN_int, extrK_0, extrK_1, extrK_2, Bool.not_true, Bool.not_false, Nat.beq_refl, hr1.ind, hr1.load, nat_toNat, hq, chk_rfl, c3f, gt_t c4]
            exact ⟨μ, rfl, hs⟩
          · have c4f := gt_f (a := IntKind.wrap .i64 (guessZ zs cs + rs.getD i 0)) (b := 8388607) (by omega)
            have e3 : okS (IntKind.wrap .i64 (guessZ zs cs + rs.getD i 0)) = true := by unfold okS; rw [decide_eq_true (p := IntKind.wrap .i64 (guessZ zs cs + rs.getD i 0) ≤ 8388607) (by omega), decide_eq_true (by omega)]; rfl
            rw [if_pos e3]
            refine ⟨fun h => ?_, fun out h => ?_⟩
            · obtain ⟨μ2, q1, q2⟩ := i1 h
              refine ⟨μ2, ?_, q2⟩
              simp (disch := omega) only [lt_t, lt_f, gt_t, gt_f, le_t, le_f, ge_t, ge_f, ne_t, ne_f, eq_t, eq_f, w64, chk_true, Option.bind_some, decide_true, decide_false, cond_true, cond_false, seqJ_n, seqJ_r, seqJ_e, headK_c, asB_bool, asI_int, asS_s, asN_int, extrK_0, extrK_1, extrK_2, Bool.not_true, Bool.not_false, Nat.beq_refl, hr1.ind, hr1.load, nat_toNat, hq, chk_rfl, c3f, c4f, p1]
              exact q1
            · obtain ⟨y2, μ2, q1, q2, q3⟩ := i2 out h
              refine ⟨y2, μ2, ?_, q2, q3⟩
              simp (disch := omega) only [lt_t, lt_f, gt_t, gt_f, le_t, le_f, ge_t, ge_f, ne_t, ne_f, eq_t, eq_f, w64, chk_true, Option.bind_some, decide_true, decide_false, cond_true, cond_false, seqJ_n, seqJ_r, seqJ_e, headK_c, asB_bool, asI_int, asS_s, asN_int, extrK_0, extrK_1, extrK_2, Bool.not_true, Bool.not_false, Nat.beq_refl, hr1.ind, hr1.load, nat_toNat, hq, chk_rfl, c3f, c4f, p1]
              exact q1
theorem refRest_is {μ : AMem} (h0 : WF μ) {w r c : SV} {ws rs cs : List Int} (hw : IsRow μ .i64 w ws) (hr : IsRow μ .i64 r rs) (hc : IsRow μ .i64 c cs) (hb : ws.length ≤ 1000000000) (hb1 : rs.length ≤ 1000000000) (hb2 : cs.length ≤ 1000000000) :
    ∃ y μ', overdubref05_LpcRestore [.s w, .s r, .s c] μ = some (.tuple [.s y, .s (.int .i64 (restE ws rs cs))], μ') ∧ Same μ μ' ∧ OwnRow μ.next μ' .i64 3 y (restZ ws rs cs) := by
  rw [overdubref05_LpcRestore_eq]
  unfold restE restZ
  have hm := refMayC_is hc (by omega)
  by_cases c1 : mayC cs = true ∧ ws.length = cs.length
  · rw [if_pos c1, if_pos c1]
    obtain ⟨c1, c2⟩ := c1
    have hl := mayC_spec c1
    have ht : ws.take 64 = ws := List.take_of_length_le (by omega)
    have hk := refMay_is hw (by omega)
    obtain ⟨y, m, g1, g2, g3⟩ := copyS (e := 3) (B := 8) (b := 1) (n := 3) h0 (Keep.refl h0) hw (by omega) (by omega) (by omega)
    unfold runE runZ
    rw [ht]
    by_cases c1' : checkZ ws = 0
    · rw [if_pos c1', if_pos c1']
      obtain ⟨i1, i2⟩ := refRest_loop (W := ws.length) h0 hb hc hr hb1 _ 0 m y ws (Nat.zero_add _) (by omega) g2 g3
      rw [n0, List.drop_zero] at i1 i2
      cases c2' : runL (fun l => guessZ l cs) ws rs with
      | none =>
        obtain ⟨μ2, q1, q2⟩ := i1 c2'
        simp (disch := omega) only [lt_t, lt_f, gt_t, gt_f, le_t, le_f, ge_t, ge_f, ne_t, ne_f, eq_t, eq_f, w64, chk_true, Option.bind_some, decide_true, decide_false, cond_true, cond_false, seqJ_n, seqJ_r, seqJ_e, headK_c, asB_bool, asI_int, asS_s, asN_int, extrK_0, extrK_1, extrK_2, Bool.not_true, Bool.not_false, Nat.beq_refl, hm, c1, hw.len, hc.len, hk, c1', g1, hr.len, q1]
        exact ⟨_, _, rfl, q2, OwnRow.nil _ _ _ _⟩
      | some out =>
        obtain ⟨y2, μ2, q1, q2, q3⟩ := i2 out c2'
        by_cases c3 : out.length > 64
        · simp (disch := omega) only [lt_t, lt_f, gt_t, gt_f, le_t, le_f, ge_t, ge_f, ne_t, ne_f, eq_t, eq_f, w64, chk_true, Option.bind_some, decide_true, decide_false, cond_true, cond_false, seqJ_n, seqJ_r, seqJ_e, headK_c, asB_bool, asI_int, asS_s, asN_int, extrK_0, extrK_1, extrK_2, Bool.not_true, Bool.not_false, Nat.beq_refl, hm, c1, hw.len, hc.len, hk, c1', g1, hr.len, q1, q3.row.len, c3, if_true]
          exact ⟨_, _, rfl, q2, OwnRow.nil _ _ _ _⟩
        · simp (disch := omega) only [lt_t, lt_f, gt_t, gt_f, le_t, le_f, ge_t, ge_f, ne_t, ne_f, eq_t, eq_f, w64, chk_true, Option.bind_some, decide_true, decide_false, cond_true, cond_false, seqJ_n, seqJ_r, seqJ_e, headK_c, asB_bool, asI_int, asS_s, asN_int, extrK_0, extrK_1, extrK_2, Bool.not_true, Bool.not_false, Nat.beq_refl, hm, c1, hw.len, hc.len, hk, c1', g1, hr.len, q1, q3.row.len, c3, if_false]
          exact ⟨_, _, rfl, q2, q3⟩
    · rw [if_neg c1', if_neg c1']
      simp (disch := omega) only [lt_t, lt_f, gt_t, gt_f, le_t, le_f, ge_t, ge_f, ne_t, ne_f, eq_t, eq_f, w64, chk_true, Option.bind_some, decide_true, decide_false, cond_true, cond_false, seqJ_n, seqJ_r, seqJ_e, headK_c, asB_bool, asI_int, asS_s, asN_int, extrK_0, extrK_1, extrK_2, Bool.not_true, Bool.not_false, Nat.beq_refl, hm, c1, hw.len, hc.len, hk]
      exact ⟨_, _, rfl, Keep.refl h0, OwnRow.nil _ _ _ _⟩
  · rw [if_neg c1, if_neg c1]
    cases c4 : mayC cs
    · simp (disch := omega) only [lt_t, lt_f, gt_t, gt_f, le_t, le_f, ge_t, ge_f, ne_t, ne_f, eq_t, eq_f, w64, chk_true, Option.bind_some, decide_true, decide_false, cond_true, cond_false, seqJ_n, seqJ_r, seqJ_e, headK_c, asB_bool, asI_int, asS_s, asN_int, extrK_0, extrK_1, extrK_2, Bool.not_true, Bool.not_false, Nat.beq_refl, hm, c4]
      exact ⟨_, _, rfl, Keep.refl h0, OwnRow.nil _ _ _ _⟩
    · have : ¬ ws.length = cs.length := fun h => c1 ⟨c4, h⟩
      simp (disch := omega) only [lt_t, lt_f, gt_t, gt_f, le_t, le_f, ge_t, ge_f, ne_t, ne_f, eq_t, eq_f, w64, chk_true, Option.bind_some, decide_true, decide_false, cond_true, cond_false, seqJ_n, seqJ_r, seqJ_e, headK_c, asB_bool, asI_int, asS_s, asN_int, extrK_0, extrK_1, extrK_2, Bool.not_true, Bool.not_false, Nat.beq_refl, hm, c4, hw.len, hc.len]
      exact ⟨_, _, rfl, Keep.refl h0, OwnRow.nil _ _ _ _⟩
end Go.Proofs.Ytbknenfbdhginaa
