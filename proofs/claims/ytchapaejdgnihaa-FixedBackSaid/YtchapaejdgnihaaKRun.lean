/- What Run comes to, whatever guesses. -/
import Derived.Test.YtchapaejdgnihaaKCopy
import Derived.Test.YtchapaejdgnihaaKCheck
namespace Go.Proofs.Ytchapaejdgnihaa
open Go Go.Proofs.Ytchapaejdgnihaa.E
set_option linter.unusedVariables false
set_option linter.unusedSimpArgs false
def runL (g : List Int → Int) : List Int → List Int → Option (List Int)
  | out, [] => some out
  | out, r :: rs => if r < -1099511627776 ∨ r > 1099511627776 then none else if okS (IntKind.wrap .i64 (g out + r)) = true then runL g (out ++ [IntKind.wrap .i64 (g out + r)]) rs else none
def runE (g : List Int → Int) (w rs : List Int) : Int :=
  if checkZ (w.take 64) = 0 then
    match runL g w rs with
    | none => 8
    | some out => if out.length > 64 then 4 else 0
  else checkZ (w.take 64)
def runZ (g : List Int → Int) (w rs : List Int) : List Int :=
  if checkZ (w.take 64) = 0 then
    match runL g w rs with
    | none => []
    | some out => if out.length > 64 then [] else out
  else []
theorem run_loop {μ0 : AMem} (h0 : WF μ0) {f r : SV} {rs : List Int} {W : Nat} (hW : W ≤ 1000000000) (hr : IsRow μ0 .i64 r rs) (hb : rs.length ≤ 1000000000) {g : List Int → Int} {P : List Int → Prop} (hP : ∀ zs v, P zs → okS v = true → P (zs ++ [v]))
    (hg : ∀ {R : Type} (m : AMem) (y : SV) (zs : List Int) (K : AV → AMem → Option R), Same μ0 m → IsRow m .i64 y zs → zs.length ≤ 2000000000 → P zs → callV G26 (.s f) [.s y] m K = K (.s (.int .i64 (g zs))) m) :
    ∀ (k i : Nat) (μ : AMem) (y : SV) (zs : List Int), i + k = rs.length → zs.length ≤ i + W → P zs → Same μ0 μ → OwnRow μ0.next μ .i64 3 y zs →
      (runL g zs (rs.drop i) = none → ∃ μ', fixed_Run_L1 [.s f, .s r, .s (.int .i64 rs.length)] [.s y, .s (.int .i64 i)] μ = some (.ret, [.s .nilSlice, .s (.int .i64 8)], μ') ∧ Same μ0 μ') ∧
      (∀ out, runL g zs (rs.drop i) = some out → ∃ y' μ', fixed_Run_L1 [.s f, .s r, .s (.int .i64 rs.length)] [.s y, .s (.int .i64 i)] μ = some (.exit 0, [.s y'], μ') ∧ Same μ0 μ' ∧ OwnRow μ0.next μ' .i64 3 y' out)
  | 0, i, μ, y, zs, h, hl, hp, hs, hy => by
    rw [fixed_Run_L1_eq, fixed_Run_L1_B_eq, List.drop_eq_nil_of_le (by omega)]
    refine ⟨fun h => by simp [runL] at h, fun out h => ?_⟩
    simp only [runL, Option.some.injEq] at h
    subst h
    simp -implicitDefEqProofs (disch := omega) only [lt_t, lt_f, gt_t, gt_f, le_t, le_f, ge_t, ge_f, ne_t, ne_f, eq_t, eq_f, w64, chk_true, Option.bind_some, decide_true, decide_false, cond_true, cond_false, seqJ_n, seqJ_r, seqJ_e, headK_c, asB_bool, asI_int, asS_s, asN_int, extrK_0, extrK_1, extrK_2, Bool.not_true, Bool.not_false, Nat.beq_refl]
    exact ⟨y, μ, rfl, hs, hy⟩
  | k + 1, i, μ, y, zs, h, hl, hp, hs, hy => by
    have hi : i < rs.length := by omega
    have hr1 := hr.same hs
    rw [fixed_Run_L1_eq, fixed_Run_L1_B_eq, drop_cons hi, runL]
    have hgm : ∀ {R : Type} (K : AV → AMem → Option R), callV G26 (.s f) [.s y] μ K = K (.s (.int .i64 (g zs))) μ := fun K => hg μ y zs K hs hy.row (by omega) hp
    obtain ⟨y', μ', p1, p2, p3⟩ := pushS (B := 8) (a := 2) (b := 3) (n := 5) (q := some 1) h0 hs hy (IntKind.wrap .i64 (g zs + rs.getD i 0)) (by omega) (by omega) (by omega) (by omega) (by omega)
    by_cases c1 : rs.getD i 0 < -1099511627776
    · rw [if_pos (Or.inl c1)]
      refine ⟨fun _ => ?_, fun out h => by cases h⟩
      simp -implicitDefEqProofs (disch := omega) only [lt_t, lt_f, gt_t, gt_f, le_t, le_f, ge_t, ge_f, ne_t, ne_f, eq_t, eq_f, w64, chk_true, Option.bind_some, decide_true, decide_false, cond_true, cond_false, seqJ_n, seqJ_r, seqJ_e, headK_c, asB_bool, asI_int, asS_s, asN_int, extrK_0, extrK_1, extrK_2, Bool.not_true, Bool.not_false, Nat.beq_refl, hr1.ind, hr1.load, nat_toNat]
      exact ⟨μ, rfl, hs⟩
    · by_cases c2 : rs.getD i 0 > 1099511627776
      · rw [if_pos (Or.inr c2)]
        refine ⟨fun _ => ?_, fun out h => by cases h⟩
        simp -implicitDefEqProofs (disch := omega) only [lt_t, lt_f, gt_t, gt_f, le_t, le_f, ge_t, ge_f, ne_t, ne_f, eq_t, eq_f, w64, chk_true, Option.bind_some, decide_true, decide_false, cond_true, cond_false, seqJ_n, seqJ_r, seqJ_e, headK_c, asB_bool, asI_int, asS_s, asN_int, extrK_0, extrK_1, extrK_2, Bool.not_true, Bool.not_false, Nat.beq_refl, hr1.ind, hr1.load, nat_toNat]
        exact ⟨μ, rfl, hs⟩
      · rw [if_neg (by omega)]
        cases c3 : okS (IntKind.wrap .i64 (g zs + rs.getD i 0))
        · rw [if_neg (by simp)]
          refine ⟨fun _ => ?_, fun out h => by cases h⟩
          simp -implicitDefEqProofs (disch := omega) only [lt_t, lt_f, gt_t, gt_f, le_t, le_f, ge_t, ge_f, ne_t, ne_f, eq_t, eq_f, w64, chk_true, Option.bind_some, decide_true, decide_false, cond_true, cond_false, seqJ_n, seqJ_r, seqJ_e, headK_c, asB_bool, asI_int, asS_s, asN_int, extrK_0, extrK_1, extrK_2, Bool.not_true, Bool.not_false, Nat.beq_refl, hr1.ind, hr1.load, nat_toNat, hgm, sample_is, c3]
          exact ⟨μ, rfl, hs⟩
        · rw [if_pos rfl]
          obtain ⟨i1, i2⟩ := run_loop h0 hW hr hb hP hg k (i + 1) μ' y' _ (by omega) (by simp; omega) (hP _ _ hp c3) p2 p3
          rw [nsu] at i1 i2
          refine ⟨fun h => ?_, fun out h => ?_⟩
          · obtain ⟨μ2, q1, q2⟩ := i1 h
            refine ⟨μ2, ?_, q2⟩
            simp -implicitDefEqProofs (disch := omega) only [lt_t, lt_f, gt_t, gt_f, le_t, le_f, ge_t, ge_f, ne_t, ne_f, eq_t, eq_f, w64, chk_true, Option.bind_some, decide_true, decide_false, cond_true, cond_false, seqJ_n, seqJ_r, seqJ_e, headK_c, asB_bool, asI_int, asS_s, asN_int, extrK_0, extrK_1, extrK_2, Bool.not_true, Bool.not_false, Nat.beq_refl, hr1.ind, hr1.load, nat_toNat, hgm, sample_is, c3, p1]
            exact q1
          · obtain ⟨y2, μ2, q1, q2, q3⟩ := i2 out h
            refine ⟨y2, μ2, ?_, q2, q3⟩
            simp -implicitDefEqProofs (disch := omega) only [lt_t, lt_f, gt_t, gt_f, le_t, le_f, ge_t, ge_f, ne_t, ne_f, eq_t, eq_f, w64, chk_true, Option.bind_some, decide_true, decide_false, cond_true, cond_false, seqJ_n, seqJ_r, seqJ_e, headK_c, asB_bool, asI_int, asS_s, asN_int, extrK_0, extrK_1, extrK_2, Bool.not_true, Bool.not_false, Nat.beq_refl, hr1.ind, hr1.load, nat_toNat, hgm, sample_is, c3, p1]
            exact q1
theorem run_is {μ : AMem} (h0 : WF μ) {w f r : SV} {ws rs : List Int} (hw : IsRow μ .i64 w ws) (hr : IsRow μ .i64 r rs) (hb : rs.length ≤ 1000000000) (hb2 : ws.length ≤ 1000000000) {g : List Int → Int} {P : List Int → Prop} (hP : ∀ zs v, P zs → okS v = true → P (zs ++ [v])) (hPw : checkZ (ws.take 64) = 0 → P ws)
    (hg : ∀ {R : Type} (m : AMem) (y : SV) (zs : List Int) (K : AV → AMem → Option R), Same μ m → IsRow m .i64 y zs → zs.length ≤ 2000000000 → P zs → callV G26 (.s f) [.s y] m K = K (.s (.int .i64 (g zs))) m) :
    ∃ y μ', fixed_Run [.s w, .s r, .s f] μ = some (.tuple [.s y, .s (.int .i64 (runE g ws rs))], μ') ∧ Same μ μ' ∧ OwnRow μ.next μ' .i64 3 y (runZ g ws rs) := by
  obtain ⟨y, m, g1, g2, g3⟩ := copyS (e := 3) (B := 8) (b := 1) (n := 3) h0 (Keep.refl h0) hw (by omega) (by omega) (by omega)
  have e1 : (if (64 : Int) < ((ws.length : Nat) : Int) then (64 : Int) else ((ws.length : Nat) : Int)) = ((min 64 ws.length : Nat) : Int) := by split <;> omega
  obtain ⟨z, f1, f2⟩ := (hw.same g2).front (n := min 64 ws.length) (by omega)
  have ht : ws.take (min 64 ws.length) = ws.take 64 := take_min rfl
  rw [ht] at f2
  have hk := check_is f2 (by simp; omega)
  rw [fixed_Run_eq, g1]
  unfold runE runZ
  by_cases c1 : checkZ (ws.take 64) = 0
  · rw [if_pos c1, if_pos c1]
    obtain ⟨i1, i2⟩ := run_loop (W := ws.length) h0 hb2 hr hb hP hg _ 0 m y ws (Nat.zero_add _) (by omega) (hPw c1) g2 g3
    rw [n0, List.drop_zero] at i1 i2
    cases c2 : runL g ws rs with
    | none =>
      obtain ⟨μ2, q1, q2⟩ := i1 c2
      simp -implicitDefEqProofs (disch := omega) only [lt_t, lt_f, gt_t, gt_f, le_t, le_f, ge_t, ge_f, ne_t, ne_f, eq_t, eq_f, w64, chk_true, Option.bind_some, decide_true, decide_false, cond_true, cond_false, seqJ_n, seqJ_r, seqJ_e, headK_c, asB_bool, asI_int, asS_s, asN_int, extrK_0, extrK_1, extrK_2, Bool.not_true, Bool.not_false, Nat.beq_refl, hw.len, e1, f1, hk, c1, hr.len, q1]
      exact ⟨_, _, rfl, q2, OwnRow.nil _ _ _ _⟩
    | some out =>
      obtain ⟨y2, μ2, q1, q2, q3⟩ := i2 out c2
      by_cases c3 : out.length > 64
      · simp -implicitDefEqProofs (disch := omega) only [lt_t, lt_f, gt_t, gt_f, le_t, le_f, ge_t, ge_f, ne_t, ne_f, eq_t, eq_f, w64, chk_true, Option.bind_some, decide_true, decide_false, cond_true, cond_false, seqJ_n, seqJ_r, seqJ_e, headK_c, asB_bool, asI_int, asS_s, asN_int, extrK_0, extrK_1, extrK_2, Bool.not_true, Bool.not_false, Nat.beq_refl, hw.len, e1, f1, hk, c1, hr.len, q1, q3.row.len, c3, if_true]
        exact ⟨_, _, rfl, q2, OwnRow.nil _ _ _ _⟩
      · simp -implicitDefEqProofs (disch := omega) only [lt_t, lt_f, gt_t, gt_f, le_t, le_f, ge_t, ge_f, ne_t, ne_f, eq_t, eq_f, w64, chk_true, Option.bind_some, decide_true, decide_false, cond_true, cond_false, seqJ_n, seqJ_r, seqJ_e, headK_c, asB_bool, asI_int, asS_s, asN_int, extrK_0, extrK_1, extrK_2, Bool.not_true, Bool.not_false, Nat.beq_refl, hw.len, e1, f1, hk, c1, hr.len, q1, q3.row.len, c3, if_false]
        exact ⟨_, _, rfl, q2, q3⟩
  · rw [if_neg c1, if_neg c1]
    simp -implicitDefEqProofs (disch := omega) only [lt_t, lt_f, gt_t, gt_f, le_t, le_f, ge_t, ge_f, ne_t, ne_f, eq_t, eq_f, w64, chk_true, Option.bind_some, decide_true, decide_false, cond_true, cond_false, seqJ_n, seqJ_r, seqJ_e, headK_c, asB_bool, asI_int, asS_s, asN_int, extrK_0, extrK_1, extrK_2, Bool.not_true, Bool.not_false, Nat.beq_refl, hw.len, e1, f1, hk]
    exact ⟨_, _, rfl, g2, OwnRow.nil _ _ _ _⟩
end Go.Proofs.Ytchapaejdgnihaa
