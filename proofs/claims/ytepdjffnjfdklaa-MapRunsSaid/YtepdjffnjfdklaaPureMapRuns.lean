/- The plain answer of MapRuns. -/
import Derived.Test.YtepdjffnjfdklaaQWakes
import Derived.Test.YtepdjffnjfdklaaKWithin
namespace Go.Proofs.Ytepdjffnjfdklaa
open Go Go.Proofs.Ytepdjffnjfdklaa.E
set_option linter.unusedVariables false
set_option linter.unusedSimpArgs false
theorem runs_draw {μ0 : AMem} (h0 : WF μ0) {N : Nat} (hN : μ0.next ≤ N) {x t : SV} {k : Int} {n : Nat} (hn1 : 1 ≤ n) (hn : n ≤ 5000) {rs : List SV} {zs : List Int} (hx : IsRow μ0 .i64 t zs) (hz : ∀ v ∈ zs, (Lit.int .i64 v).wf = true) :
    ∀ (m i : Nat) (μ : AMem) (ws : List Int), i + m = min 60 zs.length → Same μ0 μ → Mw N μ x n rs ws →
      ∃ μ' ws', overdublaw11_MapRuns_L1 [.s (.int .i64 n), .s t, .s (.int .i64 k), .s x] [.s (.int .i64 i)] μ = some (.exit 0, [.s (.int .i64 n), .s (.int .i64 k), .s x], μ') ∧ Same μ0 μ' ∧ Mw N μ' x n rs ws'
  | 0, i, μ, ws, h, hs, hm => by
    refine ⟨μ, ws, ?_, hs, hm⟩
    rw [overdublaw11_MapRuns_L1_eq, overdublaw11_MapRuns_L1_B_eq, (hx.same hs).len]
    by_cases h1 : (i : Int) < (zs.length : Int)
    · simp -implicitDefEqProofs (disch := omega) only [lt_t, lt_f, gt_t, gt_f, le_t, le_f, ge_t, ge_f, ne_t, ne_f, eq_t, eq_f, w64, chk_true, Option.bind_some, decide_true, decide_false, cond_true, cond_false, seqJ_n, seqJ_r, seqJ_e, headK_c, asB_bool, asI_int, asS_s, asN_int, extrK_0, extrK_1, extrK_2, Bool.not_true, Bool.not_false, Nat.beq_refl]
    · simp -implicitDefEqProofs (disch := omega) only [lt_t, lt_f, gt_t, gt_f, le_t, le_f, ge_t, ge_f, ne_t, ne_f, eq_t, eq_f, w64, chk_true, Option.bind_some, decide_true, decide_false, cond_true, cond_false, seqJ_n, seqJ_r, seqJ_e, headK_c, asB_bool, asI_int, asS_s, asN_int, extrK_0, extrK_1, extrK_2, Bool.not_true, Bool.not_false, Nat.beq_refl]
  | m + 1, i, μ, ws, h, hs, hm => by
    have hi : i < zs.length := by omega
    have hx1 := hx.same hs
    have hw := within_is (zs.getD i 0) n (wf64 (hz _ (getD_mem hi))) (by omega) (by omega) μ
    obtain ⟨a, ws1, m1, e1, k1, t1⟩ := mapSet_any hs.wf hm hn (zs.getD i 0 % n) true
    obtain ⟨m2, ws2, q1, q2, q3⟩ := runs_draw (k := k) h0 hN hn1 hn hx hz m (i + 1) m1 ws1 (by omega) (keepSame h0 hs k1 fun j hj => Nat.le_trans hN (hm.ids hj)) t1
    rw [nsu] at q1
    refine ⟨m2, ws2, ?_, q2, q3⟩
    rw [overdublaw11_MapRuns_L1_eq, overdublaw11_MapRuns_L1_B_eq, hx1.len]
    simp -implicitDefEqProofs (disch := omega) only [lt_t, lt_f, gt_t, gt_f, le_t, le_f, ge_t, ge_f, ne_t, ne_f, eq_t, eq_f, w64, chk_true, Option.bind_some, decide_true, decide_false, cond_true, cond_false, seqJ_n, seqJ_r, seqJ_e, headK_c, asB_bool, asI_int, asS_s, asN_int, extrK_0, extrK_1, extrK_2, Bool.not_true, Bool.not_false, Nat.beq_refl, hx1.ind, hx1.load, nat_toNat, hw, e1]
    exact q1
theorem runs_look {N : Nat} {μ : AMem} (hw : WF μ) {x : SV} {n : Nat} {rs : List SV} {ws : List Int} {k at_ : Int} (h : Mw N μ x n rs ws) (hn : n ≤ 5000) (hk : 1 ≤ k ∧ k ≤ 5000) :
    ∀ (m i : Nat) (c : Int), i + m = n → 0 ≤ c ∧ c ≤ i → runF (U ws) k m i c = at_ →
      (∃ μ', overdublaw11_MapRuns_L2 [.s (.int .i64 n), .s (.int .i64 k), .s x, .s (.int .i64 at_)] [.s (.int .i64 c), .s (.int .i64 i)] μ = some (.ret, [.s (.bool true)], μ')) ∨
      (overdublaw11_MapRuns_L2 [.s (.int .i64 n), .s (.int .i64 k), .s x, .s (.int .i64 at_)] [.s (.int .i64 c), .s (.int .i64 i)] μ = some (.exit 2, [.s x, .s (.int .i64 at_)], μ) ∧ at_ = -1)
  | 0, i, c, h1, h2, h3 => by
    refine .inr ⟨?_, h3.symm⟩
    rw [overdublaw11_MapRuns_L2_eq, overdublaw11_MapRuns_L2_B_eq]
    simp -implicitDefEqProofs (disch := omega) only [lt_t, lt_f, gt_t, gt_f, le_t, le_f, ge_t, ge_f, ne_t, ne_f, eq_t, eq_f, w64, chk_true, Option.bind_some, decide_true, decide_false, cond_true, cond_false, seqJ_n, seqJ_r, seqJ_e, headK_c, asB_bool, asI_int, asS_s, asN_int, extrK_0, extrK_1, extrK_2, Bool.not_true, Bool.not_false, Nat.beq_refl]
  | m + 1, i, c, h1, h2, h3 => by
    have hus := used_is h (i : Int)
    rw [usedZ_in (n := n) (ws := ws) (i := i) (by omega)] at hus
    have ec : IntKind.wrap .i64 (c + 1) = c + 1 := wr (by omega)
    have ei : IntKind.wrap .i64 ((i : Int) + 1) = (i : Int) + 1 := wr (by omega)
    have er : IntKind.wrap .i64 (IntKind.wrap .i64 ((i : Int) - k) + 1) = (i : Int) - k + 1 := by rw [wr (n := (i : Int) - k) (by omega), wr (by omega)]
    have ci := lt_t (a := (i : Int)) (b := (n : Int)) (by omega)
    rw [overdublaw11_MapRuns_L2_eq, overdublaw11_MapRuns_L2_B_eq]
    rw [runF] at h3
    cases hU : U ws i
    · rw [hU] at hus
      simp only [hU, Bool.false_eq_true, if_false] at h3
      by_cases hc : c + 1 = k
      · rw [if_pos hc] at h3
        obtain ⟨f, f1, f2, _⟩ := first_run h hn
        obtain ⟨m', w⟩ := wakes_is μ hw
        refine .inl ⟨m', ?_⟩
        simp -implicitDefEqProofs only [ci, hus, ec, eq_t hc, er, eq_t h3.symm, f1, f2, eq_t (rfl : f = f), w, Option.bind_some, decide_true, decide_false, cond_true, cond_false, seqJ_n, seqJ_r, seqJ_e, headK_c, asB_bool, asI_int, asS_s, asN_int, extrK_0, extrK_1, extrK_2, Bool.not_true, Bool.not_false, Nat.beq_refl]
      · rw [if_neg hc] at h3
        have ih := runs_look hw h hn hk m (i + 1) (c + 1) (by omega) (by omega) h3
        rw [nsu] at ih
        simp -implicitDefEqProofs only [ci, hus, ec, eq_f hc, ei, Option.bind_some, decide_true, decide_false, cond_true, cond_false, seqJ_n, seqJ_r, seqJ_e, headK_c, asB_bool, asI_int, asS_s, asN_int, extrK_0, extrK_1, extrK_2, Bool.not_true, Bool.not_false, Nat.beq_refl]
        exact ih
    · rw [hU] at hus
      have hc : ¬ (0 : Int) = k := by omega
      simp only [hU, if_true] at h3
      rw [if_neg hc] at h3
      have ih := runs_look hw h hn hk m (i + 1) 0 (by omega) (by omega) h3
      rw [nsu] at ih
      simp -implicitDefEqProofs only [ci, hus, ei, Option.bind_some, decide_true, decide_false, cond_true, cond_false, seqJ_n, seqJ_r, seqJ_e, headK_c, asB_bool, asI_int, asS_s, asN_int, extrK_0, extrK_1, extrK_2, Bool.not_true, Bool.not_false, Nat.beq_refl]
      exact ih
theorem pureMapRuns (a0 : Int) (w0 : (Lit.int .i64 a0).wf = true) (x1 : Arg) (z1 : List Int) (s1 : Arg.isRow .i64 z1 x1) (w1 : ∀ n ∈ z1, (Lit.int .i64 n).wf = true) (y1 : z1.length * 8 ≤ 140737488351232) (a2 : Int) (w2 : (Lit.int .i64 a2).wf = true) :
    ∃ μ', overdublaw11_MapRuns (argVals 0 [.i .i64 a0, x1, .i .i64 a2]) (argMem [.i .i64 a0, x1, .i .i64 a2]) = some (.s (.bool true), μ') := by
  obtain ⟨a, ha, hx⟩ := IsRow.arg (l := [.i .i64 a0, x1, .i .i64 a2]) (j := 1) s1 rfl
  have hw := WF.args [.i .i64 a0, x1, .i .i64 a2]
  show ∃ μ', overdublaw11_MapRuns [.s (.int .i64 a0), x1.val 1, .s (.int .i64 a2)] _ = _
  rw [ha]
  generalize argMem [.i .i64 a0, x1, .i .i64 a2] = μ at *
  have hm1 := Int.emod_nonneg a0 (show ¬ (200 : Int) = 0 by omega)
  have hm2 := Int.emod_lt_of_pos a0 (show (0 : Int) < 200 by omega)
  obtain ⟨n, hn, hn1, hn2⟩ : ∃ n : Nat, IntKind.wrap .i64 (1 + a0 % 200) = (n : Int) ∧ 1 ≤ n ∧ n ≤ 200 := ⟨(1 + a0 % 200).toNat, by rw [wr (by omega)]; omega, by omega, by omega⟩
  have e0 := within_is a0 200 (wf64 w0) (by omega) (by omega) μ
  obtain ⟨x, rs, ws, m1, e1, k1, t1, u1⟩ := mapNew_w hw (n := n) hn1 (by omega)
  obtain ⟨m2, ws2, e2, k2, t2⟩ := runs_draw (k := a2) hw (N := μ.next) (x := x) (t := a) (n := n) (rs := rs) (zs := z1) (Nat.le_refl _) hn1 (by omega) hx w1 _ 0 m1 ws (Nat.zero_add _) k1 t1
  rw [n0] at e2
  have hm3 := Int.emod_nonneg a2 (show ¬ (30 : Int) = 0 by omega)
  have hm4 := Int.emod_lt_of_pos a2 (show (0 : Int) < 30 by omega)
  have e3 := within_is a2 30 (wf64 w2) (by omega) (by omega) m2
  obtain ⟨k, hk, hk1, hk2⟩ : ∃ k : Int, IntKind.wrap .i64 (1 + a2 % 30) = k ∧ 1 ≤ k ∧ k ≤ 30 := ⟨1 + a2 % 30, by rw [wr (by omega)], by omega, by omega⟩
  have e4 := mapRun_is (k := k) t2 (by omega) (by omega)
  obtain ⟨at_, hat⟩ : ∃ at_, runF (U ws2) k n 0 0 = at_ := ⟨_, rfl⟩
  rw [hat] at e4
  have e5 := runs_look k2.wf t2 (by omega) (k := k) (at_ := at_) (by omega) n 0 0 (by omega) (by omega) hat
  rw [n0] at e5
  obtain ⟨f, f1, f2, _⟩ := first_run t2 (by omega)
  obtain ⟨mw, w⟩ := wakes_is m2 k2.wf
  have c0 : ((0 : Int) != 0) = false := rfl
  rw [overdublaw11_MapRuns_eq]
  rcases e5 with ⟨mr, e5⟩ | ⟨e5, rfl⟩
  · refine ⟨mr, ?_⟩
    simp -implicitDefEqProofs only [e0, hn, e1, c0, t1.nn, e2, e3, hk, e4, e5, Option.bind_some, decide_true, decide_false, cond_true, cond_false, seqJ_n, seqJ_r, seqJ_e, headK_c, asB_bool, asI_int, asS_s, asN_int, extrK_0, extrK_1, extrK_2, Bool.not_true, Bool.not_false, Nat.beq_refl]
  · refine ⟨mw, ?_⟩
    simp -implicitDefEqProofs only [e0, hn, e1, c0, t1.nn, e2, e3, hk, e4, e5, f1, f2, eq_t (rfl : f = f), eq_t (rfl : (-1 : Int) = -1), w, Option.bind_some, decide_true, decide_false, cond_true, cond_false, seqJ_n, seqJ_r, seqJ_e, headK_c, asB_bool, asI_int, asS_s, asN_int, extrK_0, extrK_1, extrK_2, Bool.not_true, Bool.not_false, Nat.beq_refl]
end Go.Proofs.Ytepdjffnjfdklaa
