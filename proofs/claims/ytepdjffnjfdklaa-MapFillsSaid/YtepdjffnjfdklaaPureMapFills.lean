/- The plain answer of MapFills. -/
import Derived.Test.YtepdjffnjfdklaaQWakes
import Derived.Test.YtepdjffnjfdklaaKWithin
namespace Go.Proofs.Ytepdjffnjfdklaa
open Go Go.Proofs.Ytepdjffnjfdklaa.E
set_option linter.unusedVariables false
set_option linter.unusedSimpArgs false
theorem run_free {V : Nat → Bool} {k : Int} {n : Nat} : ∀ (m j : Nat) (h : Int), j + m = n → 1 ≤ m → 0 ≤ h → h + m = k → (∀ i, j ≤ i → i < n → V i = false) → runF V k m j h = n - k
  | 0, _, _, _, h1, _, _, _ => by omega
  | m + 1, j, h, h1, h2, h3, h4, h5 => by
    rw [runF, h5 j (Nat.le_refl _) (by omega)]
    simp only [Bool.false_eq_true, if_false]
    by_cases hm : m = 0
    · rw [if_pos (by omega)]; omega
    · rw [if_neg (by omega)]
      exact run_free m (j + 1) (h + 1) (by omega) (by omega) (by omega) (by omega) fun i hi hn => h5 i (by omega) hn
theorem run_used {V : Nat → Bool} {k : Int} (hk : 1 ≤ k) {n i : Nat} : ∀ (m j : Nat), j + m = n → j ≤ i → i < n → (n : Int) - i = k → (∀ l, l < i → V l = true) → (∀ l, i ≤ l → l < n → V l = false) → runF V k m j 0 = i
  | 0, j, h1, h2, h3, _, _, _ => by omega
  | m + 1, j, h1, h2, h3, h4, h5, h6 => by
    by_cases hj : j = i
    · rw [run_free (n := n) (m + 1) j 0 h1 (by omega) (by omega) (by omega) fun l hl hn => h6 l (by omega) hn]
      omega
    · rw [runF, h5 j (by omega)]
      simp only [if_true]
      rw [if_neg (by omega)]
      exact run_used hk m (j + 1) (by omega) (by omega) h3 h4 h5 h6
theorem fills_loop {μ0 : AMem} (h0 : WF μ0) {N : Nat} (hN : μ0.next ≤ N) {x : SV} {k : Int} {n : Nat} (hn : n ≤ 5000) {rs : List SV} :
    ∀ (m i : Nat) (μ : AMem) (ws : List Int), i + m = n → Same μ0 μ → Mw N μ x n rs ws → (∀ j, j < n → U ws j = decide (j < i)) →
      ∃ μ' ws', overdublaw11_MapFills_L1 [.s (.int .i64 n), .s (.int .i64 k), .s x] [.s (.int .i64 i)] μ = some (.exit 0, [.s (.int .i64 n), .s (.int .i64 k), .s x], μ') ∧ Same μ0 μ' ∧ Mw N μ' x n rs ws' ∧ ∀ j, j < n → U ws' j = true
  | 0, i, μ, ws, h, hs, hm, hU => by
    refine ⟨μ, ws, ?_, hs, hm, fun j hj => by rw [hU j hj, decide_eq_true (by omega)]⟩
    rw [overdublaw11_MapFills_L1_eq, overdublaw11_MapFills_L1_B_eq]
    simp -implicitDefEqProofs (disch := omega) only [lt_t, lt_f, gt_t, gt_f, le_t, le_f, ge_t, ge_f, ne_t, ne_f, eq_t, eq_f, w64, chk_true, Option.bind_some, decide_true, decide_false, cond_true, cond_false, seqJ_n, seqJ_r, seqJ_e, headK_c, asB_bool, asI_int, asS_s, asN_int, extrK_0, extrK_1, extrK_2, Bool.not_true, Bool.not_false, Nat.beq_refl]
  | m + 1, i, μ, ws, h, hs, hm, hU => by
    have e1 := mapRun_is (k := (n : Int) - i) hm hn (by omega)
    rw [run_used (by omega) (n := n) (i := i) n 0 (by omega) (by omega) (by omega) rfl (fun l hl => by rw [hU l (by omega), decide_eq_true hl]) (fun l hl hn => by rw [hU l hn, decide_eq_false (by omega)])] at e1
    obtain ⟨m1, e2, k1, t1⟩ := (mapTake_is hs.wf hm hn).2 i (by omega) (by rw [hU i (by omega), decide_eq_false (by omega)]) (fun j hj => by rw [hU j (by omega), decide_eq_true hj])
    obtain ⟨m2, ws2, q1, q2, q3, q4⟩ := fills_loop (k := k) h0 hN hn m (i + 1) m1 _ (by omega) (keepSame h0 hs k1 fun j hj => Nat.le_trans hN (hm.ids hj)) t1 (fun j hj => by
      rw [U_setW hm (by omega)]
      by_cases c : j = i
      · rw [if_pos c, decide_eq_true (by omega)]
      · rw [if_neg c, hU j hj]
        by_cases c2 : j < i
        · rw [decide_eq_true c2, decide_eq_true (by omega)]
        · rw [decide_eq_false c2, decide_eq_false (by omega)])
    rw [nsu] at q1
    have ek : IntKind.wrap .i64 ((n : Int) - i) = (n : Int) - i := wr (by omega)
    refine ⟨m2, ws2, ?_, q2, q3, q4⟩
    rw [overdublaw11_MapFills_L1_eq, overdublaw11_MapFills_L1_B_eq]
    simp -implicitDefEqProofs (disch := omega) only [lt_t, lt_f, gt_t, gt_f, le_t, le_f, ge_t, ge_f, ne_t, ne_f, eq_t, eq_f, w64, chk_true, Option.bind_some, decide_true, decide_false, cond_true, cond_false, seqJ_n, seqJ_r, seqJ_e, headK_c, asB_bool, asI_int, asS_s, asN_int, extrK_0, extrK_1, extrK_2, Bool.not_true, Bool.not_false, Nat.beq_refl, ek, e1, e2]
    exact q1
theorem pureMapFills (a0 : Int) (w0 : (Lit.int .i64 a0).wf = true) (a1 : Int) (w1 : (Lit.int .i64 a1).wf = true) :
    ∃ μ', overdublaw11_MapFills (argVals 0 [.i .i64 a0, .i .i64 a1]) (argMem [.i .i64 a0, .i .i64 a1]) = some (.s (.bool true), μ') := by
  have hw := WF.args [.i .i64 a0, .i .i64 a1]
  show ∃ μ', overdublaw11_MapFills [.s (.int .i64 a0), .s (.int .i64 a1)] _ = _
  generalize argMem [.i .i64 a0, .i .i64 a1] = μ at *
  have hm1 := Int.emod_nonneg a0 (show ¬ (300 : Int) = 0 by omega)
  have hm2 := Int.emod_lt_of_pos a0 (show (0 : Int) < 300 by omega)
  obtain ⟨n, hn, hn1, hn2⟩ : ∃ n : Nat, IntKind.wrap .i64 (1 + a0 % 300) = (n : Int) ∧ 1 ≤ n ∧ n ≤ 300 := ⟨(1 + a0 % 300).toNat, by rw [wr (by omega)]; omega, by omega, by omega⟩
  have e0 := within_is a0 300 (wf64 w0) (by omega) (by omega) μ
  obtain ⟨x, rs, ws, m1, e1, k1, t1, u1⟩ := mapNew_w hw (n := n) hn1 (by omega)
  obtain ⟨m2, ws2, e2, k2, t2, u2⟩ := fills_loop (k := a1) hw (N := μ.next) (x := x) (n := n) (rs := rs) (Nat.le_refl _) (by omega) n 0 m1 ws (by omega) k1 t1 (fun j hj => by rw [u1 j hj, decide_eq_false (by omega)])
  rw [n0] at e2
  have hm3 := Int.emod_nonneg a1 (show ¬ (n : Int) = 0 by omega)
  have hm4 := Int.emod_lt_of_pos a1 (show (0 : Int) < n by omega)
  have e3 := within_is a1 n (wf64 w1) (by omega) (by omega) m2
  obtain ⟨k, hk, hk1⟩ : ∃ k : Nat, a1 % (n : Int) = (k : Int) ∧ k < n := ⟨(a1 % (n : Int)).toNat, by omega, by omega⟩
  rw [hk] at e3
  have e4 := (mapTake_is k2.wf t2 (by omega)).1 u2
  obtain ⟨f, f1, f2, f3⟩ := first_run t2 (by omega)
  obtain rfl := f3.unique (.inl ⟨rfl, fun j _ hj => u2 j hj⟩)
  obtain ⟨m3, e5, k3, t3⟩ := (mapSet_is k2.wf t2 (by omega) (k : Int) false).2 (by omega) (by rw [usedZ_in hk1, u2 k hk1]; simp)
  rw [nat_toNat] at t3
  have u3 := U_setW t2 hk1 false
  have g3 : U (setWd ws2 k false) k = false := by rw [u3, if_pos rfl]
  have g4 : ∀ j, j < k → U (setWd ws2 k false) j = true := fun j hj => by rw [u3, if_neg (by omega)]; exact u2 j (by omega)
  obtain ⟨g, e6, h6⟩ := mapFirst_is t3 (by omega)
  obtain rfl := h6.unique (.inr ⟨k, rfl, by omega, hk1, g3, fun j _ hj => g4 j hj⟩)
  obtain ⟨m4, e7, k4, t4⟩ := (mapTake_is k3.wf t3 (by omega)).2 k hk1 g3 g4
  have u4 := U_setW t3 hk1 true
  have u5 : ∀ j, j < n → U (setWd (setWd ws2 k false) k true) j = true := fun j hj => by
    rw [u4]
    by_cases c : j = k
    · rw [if_pos c]
    · rw [if_neg c, u3, if_neg c]; exact u2 j hj
  have e8 := mapCount_is t4 (by omega)
  rw [cnt_all n u5] at e8
  have e9 := (mapSet_is k4.wf t4 (by omega) (k : Int) true).1 (.inr (by rw [usedZ_in hk1, u5 k hk1]))
  obtain ⟨mw, w⟩ := wakes_is m4 k4.wf
  have c0 : ((0 : Int) != 0) = false := rfl
  refine ⟨mw, ?_⟩
  rw [overdublaw11_MapFills_eq]
  simp -implicitDefEqProofs only [e0, hn, e1, c0, t1.nn, e2, e3, e4, f1, f2, e5, e6, e7, e8, e9, eq_t (rfl : (-1 : Int) = -1), eq_t (rfl : (k : Int) = k), eq_t (rfl : (n : Int) = n), w, Option.bind_some, decide_true, decide_false, cond_true, cond_false, seqJ_n, seqJ_r, seqJ_e, headK_c, asB_bool, asI_int, asS_s, asN_int, extrK_0, extrK_1, extrK_2, Bool.not_true, Bool.not_false, Nat.beq_refl]
end Go.Proofs.Ytepdjffnjfdklaa
