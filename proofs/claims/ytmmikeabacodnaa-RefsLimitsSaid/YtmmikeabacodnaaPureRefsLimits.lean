/- The plain answer of RefsLimits. -/
import Derived.Test.YtmmikeabacodnaaQWakes
import Derived.Test.YtmmikeabacodnaaKWithin
namespace Go.Proofs.Ytmmikeabacodnaa
open Go Go.Proofs.Ytmmikeabacodnaa.E
set_option linter.unusedVariables false
set_option linter.unusedSimpArgs false
def lim (n : Nat) (k : Int) : List Int := (List.replicate n 0).set (n - 1) k
theorem lim_len (n : Nat) (k : Int) : (lim n k).length = n := by simp [lim]
theorem lim_get {n : Nat} (h : 1 ≤ n) (k : Int) : (lim n k).getD (n - 1) 0 = k := getD_set_self (by simp; omega) k
theorem lim_may {n : Nat} (h : 1 ≤ n) (k : Int) : mayI (lim n k) ((n : Int) - 1) = true := by
  unfold mayI; rw [lim_len, decide_eq_true (by omega), decide_eq_true (by omega)]; rfl
theorem lim_of {n : Nat} (h : 1 ≤ n) (k : Int) : ofI (lim n k) ((n : Int) - 1) = k := by
  unfold ofI; rw [if_pos (lim_may h k), show ((n : Int) - 1).toNat = n - 1 by omega, lim_get h]
theorem lim_inc {n : Nat} (h : 1 ≤ n) (k : Int) : incZ (lim n k) ((n : Int) - 1) = lim n (k + 1) := by
  unfold incZ; rw [show ((n : Int) - 1).toNat = n - 1 by omega, lim_get h]; unfold lim; rw [List.set_set]
theorem lim_dec {n : Nat} (h : 1 ≤ n) (k : Int) : decZ (lim n k) ((n : Int) - 1) = lim n (k - 1) := by
  unfold decZ; rw [show ((n : Int) - 1).toNat = n - 1 by omega, lim_get h]; unfold lim; rw [List.set_set]
theorem lim_fits {n : Nat} {k : Int} (hk : 0 ≤ k ∧ k ≤ 100) : fits (lim n k) 1 := by
  intro v hv
  rcases List.mem_or_eq_of_mem_set hv with h | h
  · rw [(List.mem_replicate.mp h).2]; omega
  · rw [h]; omega
theorem lim_zero (n : Nat) : lim n 0 = List.replicate n 0 := by
  unfold lim
  have : (List.replicate n (0 : Int)).getD (n - 1) 0 = 0 := by rw [List.getD_eq_getElem?_getD, List.getElem?_replicate]; split <;> rfl
  have h := set_getD (c := List.replicate n (0 : Int)) (i := n - 1)
  rw [this] at h; exact h
theorem up_loop {μ0 : AMem} (h0 : WF μ0) {x s : SV} {i : Int} {n t : Nat} (hn : 1 ≤ n ∧ n ≤ 30) (ht : t ≤ 9) :
    ∀ (k j : Nat) (m : AMem), j + k = t → Same μ0 m → Tab μ0.next m x s (lim n j) →
      ∃ m', overdublaw12_RefsLimits_L1 [.s (.int .i64 n), .s (.int .i64 i), .s (.int .i64 t), .s x] [.s (.int .i64 j)] m = some (.exit 0, [.s (.int .i64 n), .s (.int .i64 i), .s (.int .i64 t), .s x], m') ∧ Same μ0 m' ∧ Tab μ0.next m' x s (lim n t)
  | 0, j, m, h, hs, htab => by
    obtain rfl : j = t := by omega
    rw [overdublaw12_RefsLimits_L1_eq, overdublaw12_RefsLimits_L1_B_eq]
    simp -implicitDefEqProofs (disch := omega) only [lt_t, lt_f, gt_t, gt_f, le_t, le_f, ge_t, ge_f, ne_t, ne_f, eq_t, eq_f, w64, chk_true, Option.bind_some, decide_true, decide_false, cond_true, cond_false, seqJ_n, seqJ_r, seqJ_e, headK_c, asB_bool, asI_int, asS_s, asN_int, extrK_0, extrK_1, extrK_2, Bool.not_true, Bool.not_false, Nat.beq_refl]
    exact ⟨m, rfl, hs, htab⟩
  | k + 1, j, m, h, hs, htab => by
    obtain ⟨m1, e1, k1, t1⟩ := (add1 h0 hs htab (n := 6) (a := 3) (by omega) ((n : Int) - 1) (lim_fits (by omega))).2 (lim_may hn.1 _)
    rw [lim_inc hn.1, ← nsu] at t1
    obtain ⟨m', q1, q2, q3⟩ := up_loop (i := i) h0 hn ht k (j + 1) m1 (by omega) k1 t1
    rw [nsu] at q1
    refine ⟨m', ?_, q2, q3⟩
    rw [overdublaw12_RefsLimits_L1_eq, overdublaw12_RefsLimits_L1_B_eq]
    simp -implicitDefEqProofs (disch := omega) only [lt_t, lt_f, gt_t, gt_f, le_t, le_f, ge_t, ge_f, ne_t, ne_f, eq_t, eq_f, w64, chk_true, Option.bind_some, decide_true, decide_false, cond_true, cond_false, seqJ_n, seqJ_r, seqJ_e, headK_c, asB_bool, asI_int, asS_s, asN_int, extrK_0, extrK_1, extrK_2, Bool.not_true, Bool.not_false, Nat.beq_refl, e1]
    exact q1
theorem down_loop {μ0 : AMem} (h0 : WF μ0) {x s : SV} {i : Int} {n : Nat} (hn : 1 ≤ n ∧ n ≤ 30) :
    ∀ (t : Nat) (m : AMem), t ≤ 9 → Same μ0 m → Tab μ0.next m x s (lim n t) →
      ∃ m', overdublaw12_RefsLimits_L2 [.s (.int .i64 n), .s (.int .i64 i), .s x] [.s (.int .i64 ((t : Int) - 1))] m = some (.exit 2, [.s (.int .i64 n), .s (.int .i64 i), .s x], m') ∧ Same μ0 m' ∧ Tab μ0.next m' x s (lim n 0)
  | 0, m, ht9, hs, ht => by
    rw [overdublaw12_RefsLimits_L2_eq, overdublaw12_RefsLimits_L2_B_eq]
    simp -implicitDefEqProofs (disch := omega) only [lt_t, lt_f, gt_t, gt_f, le_t, le_f, ge_t, ge_f, ne_t, ne_f, eq_t, eq_f, w64, chk_true, Option.bind_some, decide_true, decide_false, cond_true, cond_false, seqJ_n, seqJ_r, seqJ_e, headK_c, asB_bool, asI_int, asS_s, asN_int, extrK_0, extrK_1, extrK_2, Bool.not_true, Bool.not_false, Nat.beq_refl]
    exact ⟨m, rfl, hs, ht⟩
  | t + 1, m, ht9, hs, ht => by
    have hof := lim_of hn.1 ((t + 1 : Nat) : Int)
    obtain ⟨m1, e1, k1, t1, _⟩ := dropS h0 hs ht (fits_less (lim_fits (by omega)) (by omega)) ((n : Int) - 1) (by rw [hof]; omega)
    rw [hof, nsu, show ((t : Int) + 1 - 1) = t by omega] at e1
    rw [lim_dec hn.1, nsu, show ((t : Int) + 1 - 1) = t by omega] at t1
    obtain ⟨m', q1, q2, q3⟩ := down_loop (i := i) h0 hn t m1 (by omega) k1 t1
    refine ⟨m', ?_, q2, q3⟩
    rw [nsu, show ((t : Int) + 1 - 1) = t by omega, overdublaw12_RefsLimits_L2_eq, overdublaw12_RefsLimits_L2_B_eq]
    simp -implicitDefEqProofs (disch := omega) only [lt_t, lt_f, gt_t, gt_f, le_t, le_f, ge_t, ge_f, ne_t, ne_f, eq_t, eq_f, w64, chk_true, Option.bind_some, decide_true, decide_false, cond_true, cond_false, seqJ_n, seqJ_r, seqJ_e, headK_c, asB_bool, asI_int, asS_s, asN_int, extrK_0, extrK_1, extrK_2, Bool.not_true, Bool.not_false, Nat.beq_refl, e1]
    exact q1
theorem pureRefsLimits (a0 : Int) (w0 : (Lit.int .i64 a0).wf = true) (a1 : Int) (w1 : (Lit.int .i64 a1).wf = true) (a2 : Int) (w2 : (Lit.int .i64 a2).wf = true) :
    ∃ μ', overdublaw12_RefsLimits (argVals 0 [.i .i64 a0, .i .i64 a1, .i .i64 a2]) (argMem [.i .i64 a0, .i .i64 a1, .i .i64 a2]) = some (.s (.bool true), μ') := by
  have hw := WF.args [.i .i64 a0, .i .i64 a1, .i .i64 a2]
  show ∃ μ', overdublaw12_RefsLimits [.s (.int .i64 a0), .s (.int .i64 a1), .s (.int .i64 a2)] _ = _
  generalize argMem [.i .i64 a0, .i .i64 a1, .i .i64 a2] = μ at *
  have e1 := within_is a0 30 (wf64 w0) (by omega) (by omega) μ
  have e2 := within_is a2 9 (wf64 w2) (by omega) (by omega) μ
  obtain ⟨n, hn, hn1⟩ : ∃ n : Nat, IntKind.wrap .i64 (1 + a0 % 30) = (n : Int) ∧ 1 ≤ n ∧ n ≤ 30 := ⟨(1 + a0 % 30).toNat, by rw [wr (by omega)]; omega, by omega, by omega⟩
  obtain ⟨t, ht, ht1⟩ : ∃ t : Nat, a2 % 9 = (t : Int) ∧ t ≤ 9 := ⟨(a2 % 9).toNat, by omega, by omega⟩
  obtain ⟨x, s, m1, e3, k1, t1⟩ := new_is hw (n := n) (by omega)
  rw [← lim_zero] at t1
  obtain ⟨m2, e4, k2, t2⟩ := up_loop (i := a1) hw hn1 ht1 t 0 m1 (by omega) k1 t1
  rw [n0] at e4
  obtain ⟨m3, e5, k3, t3⟩ := down_loop (i := a1) hw hn1 t m2 ht1 k2 t2
  have e6 := (drop_is k3.wf t3 (fits_less (lim_fits (by omega)) (by omega)) ((n : Int) - 1)).1 (lim_of hn1.1 0)
  have l0 := lim_zero n
  have no1 : mayI (lim n 0) (n : Int) = false := by unfold mayI; rw [lim_len, decide_eq_false (p := (n : Int) < n) (by omega), Bool.and_false]
  have no2 : mayI (lim n 0) (-1) = false := by unfold mayI; rw [decide_eq_false (by omega), Bool.false_and]
  have hadd1 := (add1 hw k3 t3 (n := 23) (a := 8) (by omega) (n : Int) (lim_fits (by omega))).1 no1
  obtain ⟨M, hM⟩ : ∃ M, M = (m3.bump 23).set (m3.next + 8) (rowObj [.int .i64 n] 1 3 (some 1)) := ⟨_, rfl⟩
  have kM : Same m3 M := hM ▸ Same.bumpSet k3.wf (by omega) _
  have nM : M.next = m3.next + 23 := by rw [hM]; rfl
  rw [← hM] at hadd1
  have kM2 : Same m3 (M.set (m3.next + 13) (rowObj [.int .i64 (-1)] 1 3 (some 1))) := Keep.setS k3.wf kM (by omega) (by omega)
  have hy2 : IsRow (M.set (m3.next + 13) (rowObj [.int .i64 (-1)] 1 3 (some 1))) .i64 (.slice (m3.next + 13) 0 0 1) [-1] := IsRow.made (o := rowObj [.int .i64 (-1)] 1 3 (some 1)) (by simp) rfl rfl rfl
  have hadd2 := (addS hw (k3.trans kM2) (t3.same kM2) hy2 (apart_fresh k3.wf t3.row _ _ _ _) (by simp) (lim_fits (by omega))).1 (by simp [no2])
  have t4 := t3.same kM2
  have k4 := k3.trans kM2
  obtain ⟨m4, hm4⟩ : ∃ M', M' = (M.set (m3.next + 13) (rowObj [.int .i64 (-1)] 1 3 (some 1))) := ⟨_, rfl⟩
  rw [← hm4] at kM2 hadd2 t4 k4
  have e7 := of_is t4 ((n : Int) - 1)
  rw [lim_of hn1.1] at e7
  have ne00 : ((0 : Int) != 0) = false := rfl
  have t11 : ((1 : Int) == 1) = true := rfl
  have t00 : ((0 : Int) == 0) = true := rfl
  have hwn : IntKind.wrap .i64 ((n : Int) - 1) = (n : Int) - 1 := wr (by omega)
  have hwt : IntKind.wrap .i64 ((t : Int) - 1) = (t : Int) - 1 := wr (by omega)
  rw [overdublaw12_RefsLimits_eq]
  simp -implicitDefEqProofs only [e1, e2, hn, ht, e3, ne00, t1.nn, e4, hwt, e5, hwn, e6, Option.bind_some, decide_true, decide_false, cond_true, cond_false, seqJ_n, seqJ_r, seqJ_e, headK_c, asB_bool, asI_int, asS_s, asN_int, extrK_0, extrK_1, extrK_2, Bool.not_true, Bool.not_false, Nat.beq_refl]
  rw [← hM]
  simp -implicitDefEqProofs only [hadd1, Option.bind_some, decide_true, decide_false, cond_true, cond_false, seqJ_n, seqJ_r, seqJ_e, headK_c, asB_bool, asI_int, asS_s, asN_int, extrK_0, extrK_1, extrK_2, Bool.not_true, Bool.not_false, Nat.beq_refl]
  rw [← hm4]
  simp -implicitDefEqProofs only [hadd2, e7, ne00, Option.bind_some, decide_true, decide_false, cond_true, cond_false, seqJ_n, seqJ_r, seqJ_e, headK_c, asB_bool, asI_int, asS_s, asN_int, extrK_0, extrK_1, extrK_2, Bool.not_true, Bool.not_false, Nat.beq_refl]
  by_cases c1 : 0 ≤ a1 ∧ a1 < n
  · have hm : mayI (lim n 0) a1 = true := by unfold mayI; rw [lim_len, decide_eq_true c1.1, decide_eq_true c1.2]; rfl
    obtain ⟨m5, e8, k5, t5⟩ := (add1 hw k4 t4 (n := 14) (a := 2) (by omega) a1 (lim_fits (by omega))).2 hm
    have e9 := of_is t5 a1
    have hof : ofI (incZ (lim n 0) a1) a1 = 1 := by
      unfold ofI
      have hm2 : mayI (incZ (lim n 0) a1) a1 = true := by unfold mayI; rw [incZ_len, lim_len, decide_eq_true c1.1, decide_eq_true c1.2]; rfl
      rw [if_pos hm2]
      unfold incZ
      rw [getD_set_self (by rw [lim_len]; omega), l0]
      have : (List.replicate n (0 : Int)).getD a1.toNat 0 = 0 := by rw [List.getD_eq_getElem?_getD, List.getElem?_replicate]; split <;> rfl
      rw [this]; rfl
    rw [hof] at e9
    obtain ⟨μ', e10⟩ := wakes_is m5 k5.wf
    simp -implicitDefEqProofs only [ge_t c1.1, lt_t c1.2, e8, e9, t11, e10, Option.bind_some, decide_true, decide_false, cond_true, cond_false, seqJ_n, seqJ_r, seqJ_e, headK_c, asB_bool, asI_int, asS_s, asN_int, extrK_0, extrK_1, extrK_2, Bool.not_true, Bool.not_false, Nat.beq_refl]
    exact ⟨_, rfl⟩
  · have hm : mayI (lim n 0) a1 = false := by
      unfold mayI; rw [lim_len]
      by_cases h : 0 ≤ a1
      · rw [decide_eq_false (p := a1 < (n : Int)) (by omega), Bool.and_false]
      · rw [decide_eq_false h, Bool.false_and]
    have e8 := (add1 hw k4 t4 (n := 15) (a := 2) (by omega) a1 (lim_fits (by omega))).1 hm
    have kN := Same.bumpSet k4.wf (n := 15) (a := 2) (by omega) (rowObj [.int .i64 a1] 1 3 (some 1))
    have e9 := of_is (t4.same kN) a1
    have hof : ofI (lim n 0) a1 = 0 := by unfold ofI; rw [hm]; rfl
    rw [hof] at e9
    obtain ⟨μ', e10⟩ := wakes_is _ kN.wf
    by_cases h : 0 ≤ a1
    · simp -implicitDefEqProofs only [ge_t h, lt_f (show (n : Int) ≤ a1 by omega), e8, e9, t00, e10, Option.bind_some, decide_true, decide_false, cond_true, cond_false, seqJ_n, seqJ_r, seqJ_e, headK_c, asB_bool, asI_int, asS_s, asN_int, extrK_0, extrK_1, extrK_2, Bool.not_true, Bool.not_false, Nat.beq_refl]
      exact ⟨_, rfl⟩
    · simp -implicitDefEqProofs only [ge_f (show a1 < 0 by omega), e8, e9, t00, e10, Option.bind_some, decide_true, decide_false, cond_true, cond_false, seqJ_n, seqJ_r, seqJ_e, headK_c, asB_bool, asI_int, asS_s, asN_int, extrK_0, extrK_1, extrK_2, Bool.not_true, Bool.not_false, Nat.beq_refl]
      exact ⟨_, rfl⟩
end Go.Proofs.Ytmmikeabacodnaa
