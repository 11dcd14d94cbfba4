/- Levinson's walk: the program's coefficients and the document's are one list. -/
import Derived.Test.YtkcaigagilpomaaQLevin
namespace Go.Proofs.Ytkcaigagilpomaa
open Go Go.Proofs.Ytkcaigagilpomaa.E
set_option linter.unusedVariables false
set_option linter.unusedSimpArgs false
theorem lev_loop {μ0 : AMem} (h0 : WF μ0) {r a : SV} {R : List Int} {p : Nat} (hp : p ≤ 12) (hr : IsRow μ0 .i64 r R) (hR : R.length = p + 1) :
    ∀ (n i : Nat) (e : Int) (m : AMem) (A : List Int), i + n = p + 1 → 1 ≤ i → A.length = p + 1 → (-9223372036854775808 ≤ e ∧ e ≤ 9223372036854775807) → Same μ0 m → OwnRow μ0.next m .i64 3 a A →
      (coefL R n i e A = none → ∃ m', levin_Coefficients_L1 [.s (.int .i64 p), .s r, .s a] [.s (.int .i64 e), .s (.int .i64 i)] m = some (.ret, [.s .nilSlice, .s (.bool false)], m') ∧ Same μ0 m') ∧
      (∀ B, coefL R n i e A = some B → ∃ m', levin_Coefficients_L1 [.s (.int .i64 p), .s r, .s a] [.s (.int .i64 e), .s (.int .i64 i)] m = some (.exit 0, [.s a], m') ∧ Same μ0 m' ∧ OwnRow μ0.next m' .i64 3 a B ∧ B.length = p + 1)
  | 0, i, e, m, A, h, h1, hA, he, hs, ha => by
    rw [levin_Coefficients_L1_eq, levin_Coefficients_L1_B_eq]
    refine ⟨fun h => by simp [coefL] at h, fun B hB => ?_⟩
    simp only [coefL, Option.some.injEq] at hB
    subst hB
    simp -implicitDefEqProofs (disch := omega) only [lt_t, lt_f, gt_t, gt_f, le_t, le_f, ge_t, ge_f, ne_t, ne_f, eq_t, eq_f, w64, chk_true, Option.bind_some, decide_true, decide_false, cond_true, cond_false, seqJ_n, seqJ_r, seqJ_e, headK_c, asB_bool, asI_int, asS_s, asN_int, extrK_0, extrK_1, extrK_2, Bool.not_true, Bool.not_false, Nat.beq_refl]
    exact ⟨m, rfl, hs, ha, hA⟩
  | n + 1, i, e, m, A, h, h1, hA, he, hs, ha => by
    rw [levin_Coefficients_L1_eq, levin_Coefficients_L1_B_eq, coefL]
    by_cases c1 : e < 1
    · rw [if_pos c1]
      refine ⟨fun _ => ?_, fun B hB => by cases hB⟩
      simp -implicitDefEqProofs (disch := omega) only [lt_t, lt_f, gt_t, gt_f, le_t, le_f, ge_t, ge_f, ne_t, ne_f, eq_t, eq_f, w64, chk_true, Option.bind_some, decide_true, decide_false, cond_true, cond_false, seqJ_n, seqJ_r, seqJ_e, headK_c, asB_bool, asI_int, asS_s, asN_int, extrK_0, extrK_1, extrK_2, Bool.not_true, Bool.not_false, Nat.beq_refl]
      exact ⟨m, rfl, hs⟩
    · rw [if_neg c1]
      have hr1 := hr.same hs
      have hnum := num_loop (p := (p : Int)) (e := e) (i := i) hr1 ha.row (by omega) (by omega) (by omega) (i - 1) 1 (IntKind.wrap .i64 (R.getD i 0 * 4096)) (by omega)
      rw [show ((1 : Nat) : Int) = 1 from rfl] at hnum
      have hfl := floor_is (numZ R A i (i - 1) 1 (IntKind.wrap .i64 (R.getD i 0 * 4096))) e (by omega) (numZ_le _ _ _ _ _ _ (w6_le _)) m
      have hkz : clampZ (numZ R A i (i - 1) 1 (IntKind.wrap .i64 (R.getD i 0 * 4096)) / e) = kZ R A i e := rfl
      have hkl := clampZ_le (numZ R A i (i - 1) 1 (IntKind.wrap .i64 (R.getD i 0 * 4096)) / e)
      rw [hkz] at hkl
      obtain ⟨o, m1, g1, g2, g3⟩ := copyS (e := 3) (B := 8) (b := 1) (n := 3) hs.wf (Keep.refl hs.wf) ha.row (by omega) (by omega) (by omega)
      have ha1 : OwnRow μ0.next m1 .i64 3 a A := ha.old fun id o ho _ => g2.old id o ho fun h => h
      have hao : Apart a o := (apart_old hs.wf g3 ha.row).symm
      obtain ⟨m2, u1, u2, u3⟩ := upd_loop (r := r) (p := (p : Int)) (e := e) (k := kZ R A i e) (i := i) h0 (by omega) (by omega) hao (i - 1) 1 m1 A (by omega) (by omega) (by omega) (hs.trans g2) ha1 g3.row
      rw [show ((1 : Nat) : Int) = 1 from rfl] at u1
      have hul := upd_len A (kZ R A i e) i (i - 1) 1 A
      obtain ⟨m3, s1, s2, s3, _⟩ := storeS h0 u2 u3 (i := i) (by omega) (kZ R A i e)
      obtain ⟨i1, i2⟩ := lev_loop h0 hp hr hR n (i + 1) (nextE (kZ R A i e) e) m3 _ (by omega) (by omega) (by simp; omega) (w6_le _) s2 s3
      rw [nsu] at i1 i2
      refine ⟨fun h => ?_, fun B hB => ?_⟩
      · obtain ⟨m', q1, q2⟩ := i1 h
        refine ⟨m', ?_, q2⟩
        simp -implicitDefEqProofs (disch := omega) only [lt_t, lt_f, gt_t, gt_f, le_t, le_f, ge_t, ge_f, ne_t, ne_f, eq_t, eq_f, w64, chk_true, Option.bind_some, decide_true, decide_false, cond_true, cond_false, seqJ_n, seqJ_r, seqJ_e, headK_c, asB_bool, asI_int, asS_s, asN_int, extrK_0, extrK_1, extrK_2, Bool.not_true, Bool.not_false, Nat.beq_refl, hr1.ind, hr1.load, nat_toNat, hnum, hfl, g1, clamp1, hkz, u1, u3.row.ind, s1, div4096]
        exact q1
      · obtain ⟨m', q1, q2⟩ := i2 B hB
        refine ⟨m', ?_, q2⟩
        simp -implicitDefEqProofs (disch := omega) only [lt_t, lt_f, gt_t, gt_f, le_t, le_f, ge_t, ge_f, ne_t, ne_f, eq_t, eq_f, w64, chk_true, Option.bind_some, decide_true, decide_false, cond_true, cond_false, seqJ_n, seqJ_r, seqJ_e, headK_c, asB_bool, asI_int, asS_s, asN_int, extrK_0, extrK_1, extrK_2, Bool.not_true, Bool.not_false, Nat.beq_refl, hr1.ind, hr1.load, nat_toNat, hnum, hfl, g1, clamp1, hkz, u1, u3.row.ind, s1, div4096]
        exact q1
theorem refLev_loop {μ0 : AMem} (h0 : WF μ0) {r a : SV} {R : List Int} {p : Nat} (hp : p ≤ 12) (hr : IsRow μ0 .i64 r R) (hR : R.length = p + 1) :
    ∀ (n i : Nat) (e : Int) (m : AMem) (A : List Int), i + n = p + 1 → 1 ≤ i → A.length = p + 1 → (-9223372036854775808 ≤ e ∧ e ≤ 9223372036854775807) → Same μ0 m → OwnRow μ0.next m .i64 3 a A →
      (coefL R n i e A = none → ∃ m', overdubref05_Coefficients_L1 [.s (.int .i64 p), .s r, .s a] [.s (.int .i64 e), .s (.int .i64 i)] m = some (.ret, [.s .nilSlice, .s (.bool false)], m') ∧ Same μ0 m') ∧
      (∀ B, coefL R n i e A = some B → ∃ m', overdubref05_Coefficients_L1 [.s (.int .i64 p), .s r, .s a] [.s (.int .i64 e), .s (.int .i64 i)] m = some (.exit 0, [.s a], m') ∧ Same μ0 m' ∧ OwnRow μ0.next m' .i64 3 a B ∧ B.length = p + 1)
  | 0, i, e, m, A, h, h1, hA, he, hs, ha => by
    rw [overdubref05_Coefficients_L1_eq, overdubref05_Coefficients_L1_B_eq]
    refine ⟨fun h => by simp [coefL] at h, fun B hB => ?_⟩
    simp only [coefL, Option.some.injEq] at hB
    subst hB
    simp -implicitDefEqProofs (disch := omega) only [lt_t, lt_f, gt_t, gt_f, le_t, le_f, ge_t, ge_f, ne_t, ne_f, eq_t, eq_f, w64, chk_true, Option.bind_some, decide_true, decide_false, cond_true, cond_false, seqJ_n, seqJ_r, seqJ_e, headK_c, asB_bool, asI_int, asS_s, asN_int, extrK_0, extrK_1, extrK_2, Bool.not_true, Bool.not_false, Nat.beq_refl]
    exact ⟨m, rfl, hs, ha, hA⟩
  | n + 1, i, e, m, A, h, h1, hA, he, hs, ha => by
    rw [overdubref05_Coefficients_L1_eq, overdubref05_Coefficients_L1_B_eq, coefL]
    by_cases c1 : e < 1
    · rw [if_pos c1]
      refine ⟨fun _ => ?_, fun B hB => by cases hB⟩
      simp -implicitDefEqProofs (disch := omega) only [lt_t, lt_f, gt_t, gt_f, le_t, le_f, ge_t, ge_f, ne_t, ne_f, eq_t, eq_f, w64, chk_true, Option.bind_some, decide_true, decide_false, cond_true, cond_false, seqJ_n, seqJ_r, seqJ_e, headK_c, asB_bool, asI_int, asS_s, asN_int, extrK_0, extrK_1, extrK_2, Bool.not_true, Bool.not_false, Nat.beq_refl]
      exact ⟨m, rfl, hs⟩
    · rw [if_neg c1]
      have hr1 := hr.same hs
      have hnum := refNum_loop (p := (p : Int)) (e := e) (i := i) hr1 ha.row (by omega) (by omega) (by omega) (i - 1) 1 (IntKind.wrap .i64 (R.getD i 0 * 4096)) (by omega)
      rw [show ((1 : Nat) : Int) = 1 from rfl] at hnum
      have hfl := down_wide (numZ R A i (i - 1) 1 (IntKind.wrap .i64 (R.getD i 0 * 4096))) e (by omega) (numZ_le _ _ _ _ _ _ (w6_le _)) m
      have hkz : clampZ (numZ R A i (i - 1) 1 (IntKind.wrap .i64 (R.getD i 0 * 4096)) / e) = kZ R A i e := rfl
      have hkl := clampZ_le (numZ R A i (i - 1) 1 (IntKind.wrap .i64 (R.getD i 0 * 4096)) / e)
      rw [hkz] at hkl
      obtain ⟨o, m1, g1, g2, g3⟩ := copyS (e := 3) (B := 8) (b := 1) (n := 3) hs.wf (Keep.refl hs.wf) ha.row (by omega) (by omega) (by omega)
      have ha1 : OwnRow μ0.next m1 .i64 3 a A := ha.old fun id o ho _ => g2.old id o ho fun h => h
      have hao : Apart a o := (apart_old hs.wf g3 ha.row).symm
      obtain ⟨m2, u1, u2, u3⟩ := refUpd_loop (r := r) (p := (p : Int)) (e := e) (k := kZ R A i e) (i := i) h0 (by omega) (by omega) hao (i - 1) 1 m1 A (by omega) (by omega) (by omega) (hs.trans g2) ha1 g3.row
      rw [show ((1 : Nat) : Int) = 1 from rfl] at u1
      have hul := upd_len A (kZ R A i e) i (i - 1) 1 A
      obtain ⟨m3, s1, s2, s3, _⟩ := storeS h0 u2 u3 (i := i) (by omega) (kZ R A i e)
      obtain ⟨i1, i2⟩ := refLev_loop h0 hp hr hR n (i + 1) (nextE (kZ R A i e) e) m3 _ (by omega) (by omega) (by simp; omega) (w6_le _) s2 s3
      rw [nsu] at i1 i2
      have d1 := down_wide (IntKind.wrap .i64 (kZ R A i e * kZ R A i e)) 4096 (by omega) (w6_le _) m3
      have d2 := down_wide (IntKind.wrap .i64 (IntKind.wrap .i64 (kZ R A i e * kZ R A i e) / 4096 * e)) 4096 (by omega) (w6_le _) m3
      refine ⟨fun h => ?_, fun B hB => ?_⟩
      · obtain ⟨m', q1, q2⟩ := i1 h
        refine ⟨m', ?_, q2⟩
        simp -implicitDefEqProofs (disch := omega) only [lt_t, lt_f, gt_t, gt_f, le_t, le_f, ge_t, ge_f, ne_t, ne_f, eq_t, eq_f, w64, chk_true, Option.bind_some, decide_true, decide_false, cond_true, cond_false, seqJ_n, seqJ_r, seqJ_e, headK_c, asB_bool, asI_int, asS_s, asN_int, extrK_0, extrK_1, extrK_2, Bool.not_true, Bool.not_false, Nat.beq_refl, hr1.ind, hr1.load, nat_toNat, hnum, hfl, g1, clamp2, hkz, u1, u3.row.ind, s1, d1, d2]
        exact q1
      · obtain ⟨m', q1, q2⟩ := i2 B hB
        refine ⟨m', ?_, q2⟩
        simp -implicitDefEqProofs (disch := omega) only [lt_t, lt_f, gt_t, gt_f, le_t, le_f, ge_t, ge_f, ne_t, ne_f, eq_t, eq_f, w64, chk_true, Option.bind_some, decide_true, decide_false, cond_true, cond_false, seqJ_n, seqJ_r, seqJ_e, headK_c, asB_bool, asI_int, asS_s, asN_int, extrK_0, extrK_1, extrK_2, Bool.not_true, Bool.not_false, Nat.beq_refl, hr1.ind, hr1.load, nat_toNat, hnum, hfl, g1, clamp2, hkz, u1, u3.row.ind, s1, d1, d2]
        exact q1
theorem levCheck_loop {m : AMem} {a x : SV} {zs : List Int} (hx : IsRow m .i64 x zs) (hb : zs.length ≤ 1000) :
    ∀ k i : Nat, i + k = zs.length → levin_Coefficients_L2 [.s a, .s x, .s (.int .i64 zs.length)] [.s (.int .i64 i)] m = if (zs.drop i).all coefB then some (.exit 6, [.s a], m) else some (.ret, [.s .nilSlice, .s (.bool false)], m)
  | 0, i, h => by
    rw [levin_Coefficients_L2_eq, levin_Coefficients_L2_B_eq, List.drop_eq_nil_of_le (by omega)]
    simp -implicitDefEqProofs (disch := omega) only [lt_t, lt_f, gt_t, gt_f, le_t, le_f, ge_t, ge_f, ne_t, ne_f, eq_t, eq_f, w64, chk_true, Option.bind_some, decide_true, decide_false, cond_true, cond_false, seqJ_n, seqJ_r, seqJ_e, headK_c, asB_bool, asI_int, asS_s, asN_int, extrK_0, extrK_1, extrK_2, Bool.not_true, Bool.not_false, Nat.beq_refl, List.all_nil, if_true]
  | k + 1, i, h => by
    have ih := levCheck_loop (a := a) hx hb k (i + 1) (by omega)
    rw [nsu] at ih
    rw [levin_Coefficients_L2_eq, levin_Coefficients_L2_B_eq, drop_cons (i := i) (by omega)]
    by_cases h1 : zs.getD i 0 < -32768
    · have hc : coefB (zs.getD i 0) = false := by unfold coefB; rw [decide_eq_false (by omega)]; rfl
      simp -implicitDefEqProofs (disch := omega) only [lt_t, lt_f, gt_t, gt_f, le_t, le_f, ge_t, ge_f, ne_t, ne_f, eq_t, eq_f, w64, chk_true, Option.bind_some, decide_true, decide_false, cond_true, cond_false, seqJ_n, seqJ_r, seqJ_e, headK_c, asB_bool, asI_int, asS_s, asN_int, extrK_0, extrK_1, extrK_2, Bool.not_true, Bool.not_false, Nat.beq_refl, hx.ind, hx.load, nat_toNat, hc, List.all_cons, Bool.false_and, Bool.false_eq_true, if_false]
    · by_cases h2 : zs.getD i 0 > 32767
      · have hc : coefB (zs.getD i 0) = false := by unfold coefB; rw [decide_eq_false (p := zs.getD i 0 ≤ 32767) (by omega), Bool.and_false]
        simp -implicitDefEqProofs (disch := omega) only [lt_t, lt_f, gt_t, gt_f, le_t, le_f, ge_t, ge_f, ne_t, ne_f, eq_t, eq_f, w64, chk_true, Option.bind_some, decide_true, decide_false, cond_true, cond_false, seqJ_n, seqJ_r, seqJ_e, headK_c, asB_bool, asI_int, asS_s, asN_int, extrK_0, extrK_1, extrK_2, Bool.not_true, Bool.not_false, Nat.beq_refl, hx.ind, hx.load, nat_toNat, hc, List.all_cons, Bool.false_and, Bool.false_eq_true, if_false]
      · have hc : coefB (zs.getD i 0) = true := by unfold coefB; rw [decide_eq_true (p := zs.getD i 0 ≤ 32767) (by omega), decide_eq_true (by omega)]; rfl
        simp -implicitDefEqProofs (disch := omega) only [lt_t, lt_f, gt_t, gt_f, le_t, le_f, ge_t, ge_f, ne_t, ne_f, eq_t, eq_f, w64, chk_true, Option.bind_some, decide_true, decide_false, cond_true, cond_false, seqJ_n, seqJ_r, seqJ_e, headK_c, asB_bool, asI_int, asS_s, asN_int, extrK_0, extrK_1, extrK_2, Bool.not_true, Bool.not_false, Nat.beq_refl, hx.ind, hx.load, nat_toNat, hc, List.all_cons, Bool.true_and]
        exact ih
def cfOK (xs : List Int) (p : Int) : Prop := 1 ≤ p ∧ p ≤ 12 ∧ checkZ xs = 0 ∧ p < xs.length
instance (xs : List Int) (p : Int) : Decidable (cfOK xs p) := by unfold cfOK; infer_instance
def cfR (xs : List Int) (p : Int) : List Int := scaledZ (autoZ xs p)
def cfZ (xs : List Int) (p : Int) : Option (List Int) :=
  if cfOK xs p then
    match coefL (cfR xs p) p.toNat 1 ((cfR xs p).getD 0 0) (List.replicate (p.toNat + 1) 0) with
    | none => none
    | some B => if (B.drop 1).all coefB then some (B.drop 1) else none
  else none
theorem autoZ_of {xs : List Int} {p : Int} (h : cfOK xs p) : autoE xs p = 0 ∧ autoZ xs p = (List.range (p.toNat + 1)).map (dotZ xs) := by
  obtain ⟨h1, h2, h3, h4⟩ := h
  unfold autoE autoZ
  rw [if_neg (by omega), if_neg (by omega), if_neg (by omega), if_neg (by omega)]
  exact ⟨rfl, rfl⟩
theorem self_nonneg (a : Int) : 0 ≤ a * a := by
  rcases Int.le_total 0 a with h | h
  · exact Int.mul_nonneg h h
  · have := Int.mul_nonneg (show 0 ≤ -a by omega) (show 0 ≤ -a by omega)
    rwa [Int.neg_mul_neg] at this
theorem square_sum (xs : List Int) : ∀ n, 0 ≤ asum xs 0 n
  | 0 => Int.le_refl _
  | n + 1 => by
    have := square_sum xs n
    have e : 0 + n = n := by omega
    have : 0 ≤ xs.getD (0 + n) 0 * xs.getD n 0 := by rw [e]; exact self_nonneg _
    rw [asum]; omega
theorem dot_le {xs : List Int} (hz : ∀ v ∈ xs, -8388608 ≤ v ∧ v ≤ 8388607) (hl : xs.length ≤ 64) (k : Nat) : -4503599627370496 ≤ dotZ xs k ∧ dotZ xs k ≤ 4503599627370496 := by
  have := asum_le hz k (xs.length - k)
  unfold dotZ; omega
theorem cfR_of {xs : List Int} {p : Int} (h : cfOK xs p) : noScale (autoZ xs p) = false ∧ (cfR xs p).length = p.toNat + 1 := by
  have hz := checkZ_ok h.2.2.1
  have ha := (autoZ_of h).2
  have hl : (autoZ xs p).length = p.toNat + 1 := by rw [ha]; simp
  have hn : noScale (autoZ xs p) = false := by
    unfold noScale
    have h1 : (autoZ xs p).isEmpty = false := by
      cases hh : autoZ xs p with
      | nil => rw [hh] at hl; simp at hl
      | cons _ _ => rfl
    have h2 : (autoZ xs p).getD 0 0 = asum xs 0 xs.length := by
      rw [ha, List.range_succ_eq_map]; simp [dotZ]
    have h3 : (autoZ xs p).any farB = false := by
      rw [List.any_eq_false]
      intro v hv
      rw [ha] at hv
      obtain ⟨k, _, rfl⟩ := List.mem_map.mp hv
      have := dot_le hz.1 hz.2 k
      unfold farB
      rw [decide_eq_false (by omega), decide_eq_false (by omega)]; decide
    rw [h1, h2, h3, decide_eq_false (by have := square_sum xs xs.length; omega)]; rfl
  refine ⟨hn, ?_⟩
  unfold cfR scaledZ
  rw [hn]
  simp only [Bool.false_eq_true, if_false, List.length_map, hl]
/-- What comes of coefficients: the row, or nothing. -/
def cfRow (o : Option (List Int)) : List Int := o.getD []
theorem cfR_le {xs : List Int} {p : Int} (h : cfOK xs p) : -9223372036854775808 ≤ (cfR xs p).getD 0 0 ∧ (cfR xs p).getD 0 0 ≤ 9223372036854775807 := by
  have hz := checkZ_ok h.2.2.1
  have ha := (autoZ_of h).2
  have hn := (cfR_of h).1
  have hh : (cfR xs p).getD 0 0 = dotZ xs 0 / 2 ^ scaledE (autoZ xs p) := by
    unfold cfR scaledZ
    rw [hn]
    simp only [Bool.false_eq_true, if_false]
    rw [ha, List.range_succ_eq_map]; simp
  have hd := dot_le hz.1 hz.2 0
  have hp := pow40 (scaledE_le (autoZ xs p))
  rw [hh]
  have := (quot_wide (a := dotZ xs 0) (b := 2 ^ scaledE (autoZ xs p)) (by omega) (by omega)).1
  exact this
theorem levin_is {μ : AMem} (h0 : WF μ) {x : SV} {xs : List Int} {p : Int} (hx : IsRow μ .i64 x xs) (hb : xs.length ≤ 1000000) (hpw : -9223372036854775808 ≤ p ∧ p ≤ 9223372036854775807) :
    ∃ y μ', levin_Coefficients [.s x, .s (.int .i64 p)] μ = some (.tuple [.s y, .s (.bool (cfZ xs p).isSome)], μ') ∧ Same μ μ' ∧ IsRow μ' .i64 y (cfRow (cfZ xs p)) := by
  rw [levin_Coefficients_eq]
  have hk := check_is hx (by omega)
  by_cases hok : cfOK xs p
  · obtain ⟨n, hn⟩ : ∃ n : Nat, p = (n : Int) := ⟨p.toNat, by have := hok.1; omega⟩
    have ⟨ha1, ha2⟩ := autoZ_of hok
    have ⟨hs1, hs2⟩ := cfR_of hok
    obtain ⟨y1, m1, f1, k1, o1⟩ := auto_is h0 hx (by omega) hpw
    have lau : (autoZ xs p).length ≤ 1000 := by rw [ha2]; simp; have := hok.2.1; omega
    obtain ⟨y2, m2, f2, k2, o2⟩ := scaled_is k1.wf o1.row (by omega)
    rw [ha1] at f1
    have hcr : scaledZ (autoZ xs p) = cfR xs p := rfl
    rw [hcr] at o2
    obtain ⟨c1, c2, c3, c4⟩ := hok
    have hok : cfOK xs p := ⟨c1, c2, c3, c4⟩
    subst hn
    rw [show ((n : Nat) : Int).toNat = n from rfl] at hs2
    have k3 := newS (Keep.refl k2.wf) (n := 4) (a := 2) (by omega) (rowObj (zerosA [.int .i64 0] (n + 1)) 1 3 (some (n + 1)))
    have z3 : OwnRow m2.next ((m2.bump 4).set (m2.next + 2) (rowObj (zerosA [.int .i64 0] (n + 1)) 1 3 (some (n + 1)))) .i64 3 (.slice (m2.next + 2) 0 0 (n + 1)) (List.replicate (n + 1) 0) :=
      OwnRow.new (o := rowObj (zerosA [.int .i64 0] (n + 1)) 1 3 (some (n + 1))) (by simp) (by omega) (by simp) rfl rfl rfl rfl (by show zerosA _ _ = _; rw [zerosA_rep]; simp)
    have he : -9223372036854775808 ≤ (cfR xs n).getD 0 0 ∧ (cfR xs n).getD 0 0 ≤ 9223372036854775807 := cfR_le hok
    obtain ⟨i1, i2⟩ := lev_loop (p := n) k2.wf (by omega) o2.row hs2 n 1 ((cfR xs n).getD 0 0) _ _ (by omega) (by omega) (by simp) he k3 z3
    rw [show ((1 : Nat) : Int) = 1 from rfl] at i1 i2
    have ewr : IntKind.wrap .i64 ((n : Int) + 1) = ((n + 1 : Nat) : Int) := by rw [wr (by omega)]; rfl
    have hif : 0 ≤ ((n + 1 : Nat) : Int) ∧ ((n + 1 : Nat) : Int) ≤ ((n + 1 : Nat) : Int) ∧ ((n + 1 : Nat) : Int) ≤ 9223372036854775807 ∧ ((8 : Nat) : Int) * ((n + 1 : Nat) : Int) ≤ 140737488355328 := by omega
    have q1 := lt_f (a := (n : Int)) (b := 1) (by omega)
    have q2 := gt_f (a := (n : Int)) (b := 12) (by omega)
    have q3 := le_f (a := (xs.length : Int)) (b := (n : Int)) (by omega)
    have ne00 : ((0 : Int) != 0) = false := rfl
    have hi0 := fun {R : Type} (K : AV → Option R) => o2.row.ind (i := 0) (by omega) (by omega) K
    have hl0 := fun {R : Type} (K : AV → Option R) => o2.row.load (i := 0) (by omega) (by omega) K
    unfold cfZ
    rw [if_pos hok, show ((n : Nat) : Int).toNat = n from rfl]
    cases hcl : coefL (cfR xs n) n 1 ((cfR xs n).getD 0 0) (List.replicate (n + 1) 0) with
    | none =>
      obtain ⟨m4, r1, r2⟩ := i1 hcl
      simp -implicitDefEqProofs only [q1, q2, q3, hk, c3, hx.len, ne00, f1, f2, hi0, hl0, Int.toNat_zero, Option.bind_some, decide_true, decide_false, cond_true, cond_false, seqJ_n, seqJ_r, seqJ_e, headK_c, asB_bool, asI_int, asS_s, asN_int, extrK_0, extrK_1, extrK_2, Bool.not_true, Bool.not_false, Nat.beq_refl]
      simp only [ewr, nat_toNat]
      rw [if_pos hif]
      simp -implicitDefEqProofs only [r1, Option.bind_some, decide_true, decide_false, cond_true, cond_false, seqJ_n, seqJ_r, seqJ_e, headK_c, asB_bool, asI_int, asS_s, asN_int, extrK_0, extrK_1, extrK_2, Bool.not_true, Bool.not_false, Nat.beq_refl]
      exact ⟨_, _, rfl, (k1.trans k2).trans r2, .inl ⟨rfl, rfl⟩⟩
    | some B =>
      obtain ⟨m4, r1, r2, r3, r4⟩ := i2 B hcl
      obtain ⟨z, f3, f4⟩ := r3.row.back (n := 1) (by omega)
      rw [show ((1 : Nat) : Int) = 1 from rfl] at f3
      have hz := f4.len
      have hch := levCheck_loop (a := .slice (m2.next + 2) 0 0 (n + 1)) f4 (by simp; omega) _ 0 (Nat.zero_add _)
      rw [n0, List.drop_zero] at hch
      cases hall : (B.drop 1).all coefB
      · rw [hall] at hch
        simp only [Bool.false_eq_true, if_false] at hch
        simp -implicitDefEqProofs only [q1, q2, q3, hk, c3, hx.len, ne00, f1, f2, hi0, hl0, Int.toNat_zero, Option.bind_some, decide_true, decide_false, cond_true, cond_false, seqJ_n, seqJ_r, seqJ_e, headK_c, asB_bool, asI_int, asS_s, asN_int, extrK_0, extrK_1, extrK_2, Bool.not_true, Bool.not_false, Nat.beq_refl]
        simp only [ewr, nat_toNat]
        rw [if_pos hif]
        simp -implicitDefEqProofs only [r1, r3.row.len, f3, hz, hch, Option.bind_some, decide_true, decide_false, cond_true, cond_false, seqJ_n, seqJ_r, seqJ_e, headK_c, asB_bool, asI_int, asS_s, asN_int, extrK_0, extrK_1, extrK_2, Bool.not_true, Bool.not_false, Nat.beq_refl]
        exact ⟨_, _, by simp only [hall, Bool.false_eq_true, if_false]; rfl, (k1.trans k2).trans r2, by simp only [hall, Bool.false_eq_true, if_false]; exact .inl ⟨rfl, rfl⟩⟩
      · rw [hall] at hch
        simp only [if_true] at hch
        simp -implicitDefEqProofs only [q1, q2, q3, hk, c3, hx.len, ne00, f1, f2, hi0, hl0, Int.toNat_zero, Option.bind_some, decide_true, decide_false, cond_true, cond_false, seqJ_n, seqJ_r, seqJ_e, headK_c, asB_bool, asI_int, asS_s, asN_int, extrK_0, extrK_1, extrK_2, Bool.not_true, Bool.not_false, Nat.beq_refl]
        simp only [ewr, nat_toNat]
        rw [if_pos hif]
        simp -implicitDefEqProofs only [r1, r3.row.len, f3, hz, hch, Option.bind_some, decide_true, decide_false, cond_true, cond_false, seqJ_n, seqJ_r, seqJ_e, headK_c, asB_bool, asI_int, asS_s, asN_int, extrK_0, extrK_1, extrK_2, Bool.not_true, Bool.not_false, Nat.beq_refl]
        exact ⟨_, _, by simp only [hall, if_true]; rfl, (k1.trans k2).trans r2, by simp only [hall, if_true]; exact f4⟩
  · have hcz : cfZ xs p = none := by unfold cfZ; rw [if_neg hok]
    rw [hcz]
    by_cases c1 : p < 1
    · simp -implicitDefEqProofs (disch := omega) only [lt_t, lt_f, gt_t, gt_f, le_t, le_f, ge_t, ge_f, ne_t, ne_f, eq_t, eq_f, w64, chk_true, Option.bind_some, decide_true, decide_false, cond_true, cond_false, seqJ_n, seqJ_r, seqJ_e, headK_c, asB_bool, asI_int, asS_s, asN_int, extrK_0, extrK_1, extrK_2, Bool.not_true, Bool.not_false, Nat.beq_refl]
      exact ⟨_, _, rfl, Keep.refl h0, .inl ⟨rfl, rfl⟩⟩
    · by_cases c2 : p > 12
      · simp -implicitDefEqProofs (disch := omega) only [lt_t, lt_f, gt_t, gt_f, le_t, le_f, ge_t, ge_f, ne_t, ne_f, eq_t, eq_f, w64, chk_true, Option.bind_some, decide_true, decide_false, cond_true, cond_false, seqJ_n, seqJ_r, seqJ_e, headK_c, asB_bool, asI_int, asS_s, asN_int, extrK_0, extrK_1, extrK_2, Bool.not_true, Bool.not_false, Nat.beq_refl]
        exact ⟨_, _, rfl, Keep.refl h0, .inl ⟨rfl, rfl⟩⟩
      · by_cases c3 : checkZ xs = 0
        · have c4 : ¬ p < xs.length := fun h => hok ⟨by omega, by omega, c3, h⟩
          simp -implicitDefEqProofs (disch := omega) only [lt_t, lt_f, gt_t, gt_f, le_t, le_f, ge_t, ge_f, ne_t, ne_f, eq_t, eq_f, w64, chk_true, Option.bind_some, decide_true, decide_false, cond_true, cond_false, seqJ_n, seqJ_r, seqJ_e, headK_c, asB_bool, asI_int, asS_s, asN_int, extrK_0, extrK_1, extrK_2, Bool.not_true, Bool.not_false, Nat.beq_refl, hk, hx.len]
          exact ⟨_, _, rfl, Keep.refl h0, .inl ⟨rfl, rfl⟩⟩
        · simp -implicitDefEqProofs (disch := omega) only [lt_t, lt_f, gt_t, gt_f, le_t, le_f, ge_t, ge_f, ne_t, ne_f, eq_t, eq_f, w64, chk_true, Option.bind_some, decide_true, decide_false, cond_true, cond_false, seqJ_n, seqJ_r, seqJ_e, headK_c, asB_bool, asI_int, asS_s, asN_int, extrK_0, extrK_1, extrK_2, Bool.not_true, Bool.not_false, Nat.beq_refl, hk]
          exact ⟨_, _, rfl, Keep.refl h0, .inl ⟨rfl, rfl⟩⟩
theorem refLevin_is {μ : AMem} (h0 : WF μ) {x : SV} {xs : List Int} {p : Int} (hx : IsRow μ .i64 x xs) (hb : xs.length ≤ 1000000) (hpw : -9223372036854775808 ≤ p ∧ p ≤ 9223372036854775807) :
    ∃ y μ', overdubref05_Coefficients [.s x, .s (.int .i64 p)] μ = some (.tuple [.s y, .s (.bool (cfZ xs p).isSome)], μ') ∧ Same μ μ' ∧ IsRow μ' .i64 y (cfRow (cfZ xs p)) := by
  rw [overdubref05_Coefficients_eq]
  have hk := refMay_is hx (by omega)
  by_cases hok : cfOK xs p
  · obtain ⟨n, hn⟩ : ∃ n : Nat, p = (n : Int) := ⟨p.toNat, by have := hok.1; omega⟩
    have ⟨ha1, ha2⟩ := autoZ_of hok
    have ⟨hs1, hs2⟩ := cfR_of hok
    obtain ⟨y1, m1, f1, k1, o1⟩ := refAuto_is h0 hx (by omega) hpw
    have lau : (autoZ xs p).length ≤ 1000 := by rw [ha2]; simp; have := hok.2.1; omega
    obtain ⟨y2, m2, f2, k2, o2⟩ := refScaled_is k1.wf o1.row (by omega)
    rw [ha1] at f1
    have hcr : scaledZ (autoZ xs p) = cfR xs p := rfl
    rw [hcr] at o2
    obtain ⟨c1, c2, c3, c4⟩ := hok
    have hok : cfOK xs p := ⟨c1, c2, c3, c4⟩
    subst hn
    rw [show ((n : Nat) : Int).toNat = n from rfl] at hs2
    have k3 := newS (Keep.refl k2.wf) (n := 4) (a := 2) (by omega) (rowObj (zerosA [.int .i64 0] (n + 1)) 1 3 (some (n + 1)))
    have z3 : OwnRow m2.next ((m2.bump 4).set (m2.next + 2) (rowObj (zerosA [.int .i64 0] (n + 1)) 1 3 (some (n + 1)))) .i64 3 (.slice (m2.next + 2) 0 0 (n + 1)) (List.replicate (n + 1) 0) :=
      OwnRow.new (o := rowObj (zerosA [.int .i64 0] (n + 1)) 1 3 (some (n + 1))) (by simp) (by omega) (by simp) rfl rfl rfl rfl (by show zerosA _ _ = _; rw [zerosA_rep]; simp)
    have he : -9223372036854775808 ≤ (cfR xs n).getD 0 0 ∧ (cfR xs n).getD 0 0 ≤ 9223372036854775807 := cfR_le hok
    obtain ⟨i1, i2⟩ := refLev_loop (p := n) k2.wf (by omega) o2.row hs2 n 1 ((cfR xs n).getD 0 0) _ _ (by omega) (by omega) (by simp) he k3 z3
    rw [show ((1 : Nat) : Int) = 1 from rfl] at i1 i2
    have ewr : IntKind.wrap .i64 ((n : Int) + 1) = ((n + 1 : Nat) : Int) := by rw [wr (by omega)]; rfl
    have hif : 0 ≤ ((n + 1 : Nat) : Int) ∧ ((n + 1 : Nat) : Int) ≤ ((n + 1 : Nat) : Int) ∧ ((n + 1 : Nat) : Int) ≤ 9223372036854775807 ∧ ((8 : Nat) : Int) * ((n + 1 : Nat) : Int) ≤ 140737488355328 := by omega
    have q1 := lt_f (a := (n : Int)) (b := 1) (by omega)
    have q2 := gt_f (a := (n : Int)) (b := 12) (by omega)
    have q3 := le_f (a := (xs.length : Int)) (b := (n : Int)) (by omega)
    have ne00 : ((0 : Int) != 0) = false := rfl
    have hi0 := fun {R : Type} (K : AV → Option R) => o2.row.ind (i := 0) (by omega) (by omega) K
    have hl0 := fun {R : Type} (K : AV → Option R) => o2.row.load (i := 0) (by omega) (by omega) K
    unfold cfZ
    rw [if_pos hok, show ((n : Nat) : Int).toNat = n from rfl]
    cases hcl : coefL (cfR xs n) n 1 ((cfR xs n).getD 0 0) (List.replicate (n + 1) 0) with
    | none =>
      obtain ⟨m4, r1, r2⟩ := i1 hcl
      simp -implicitDefEqProofs only [q1, q2, q3, hk, c3, hx.len, ne00, f1, f2, hi0, hl0, Int.toNat_zero, Option.bind_some, decide_true, decide_false, cond_true, cond_false, seqJ_n, seqJ_r, seqJ_e, headK_c, asB_bool, asI_int, asS_s, asN_int, extrK_0, extrK_1, extrK_2, Bool.not_true, Bool.not_false, Nat.beq_refl]
      simp only [ewr, nat_toNat]
      rw [if_pos hif]
      simp -implicitDefEqProofs only [r1, Option.bind_some, decide_true, decide_false, cond_true, cond_false, seqJ_n, seqJ_r, seqJ_e, headK_c, asB_bool, asI_int, asS_s, asN_int, extrK_0, extrK_1, extrK_2, Bool.not_true, Bool.not_false, Nat.beq_refl]
      exact ⟨_, _, rfl, (k1.trans k2).trans r2, .inl ⟨rfl, rfl⟩⟩
    | some B =>
      obtain ⟨m4, r1, r2, r3, r4⟩ := i2 B hcl
      obtain ⟨z, f3, f4⟩ := r3.row.back (n := 1) (by omega)
      rw [show ((1 : Nat) : Int) = 1 from rfl] at f3
      have hz := f4.len
      have hch := refMayC_is f4 (by simp; omega)
      have hmay : mayC (B.drop 1) = (B.drop 1).all coefB := by
        unfold mayC
        rw [decide_eq_true (by simp; omega), decide_eq_true (by simp; omega)]; simp
      rw [hmay] at hch
      cases hall : (B.drop 1).all coefB
      · rw [hall] at hch
        simp -implicitDefEqProofs only [q1, q2, q3, hk, c3, hx.len, ne00, f1, f2, hi0, hl0, Int.toNat_zero, Option.bind_some, decide_true, decide_false, cond_true, cond_false, seqJ_n, seqJ_r, seqJ_e, headK_c, asB_bool, asI_int, asS_s, asN_int, extrK_0, extrK_1, extrK_2, Bool.not_true, Bool.not_false, Nat.beq_refl]
        simp only [ewr, nat_toNat]
        rw [if_pos hif]
        simp -implicitDefEqProofs only [r1, r3.row.len, f3, hz, hch, Option.bind_some, decide_true, decide_false, cond_true, cond_false, seqJ_n, seqJ_r, seqJ_e, headK_c, asB_bool, asI_int, asS_s, asN_int, extrK_0, extrK_1, extrK_2, Bool.not_true, Bool.not_false, Nat.beq_refl]
        exact ⟨_, _, by simp only [hall, Bool.false_eq_true, if_false]; rfl, (k1.trans k2).trans r2, by simp only [hall, Bool.false_eq_true, if_false]; exact .inl ⟨rfl, rfl⟩⟩
      · rw [hall] at hch
        simp -implicitDefEqProofs only [q1, q2, q3, hk, c3, hx.len, ne00, f1, f2, hi0, hl0, Int.toNat_zero, Option.bind_some, decide_true, decide_false, cond_true, cond_false, seqJ_n, seqJ_r, seqJ_e, headK_c, asB_bool, asI_int, asS_s, asN_int, extrK_0, extrK_1, extrK_2, Bool.not_true, Bool.not_false, Nat.beq_refl]
        simp only [ewr, nat_toNat]
        rw [if_pos hif]
        simp -implicitDefEqProofs only [r1, r3.row.len, f3, hz, hch, Option.bind_some, decide_true, decide_false, cond_true, cond_false, seqJ_n, seqJ_r, seqJ_e, headK_c, asB_bool, asI_int, asS_s, asN_int, extrK_0, extrK_1, extrK_2, Bool.not_true, Bool.not_false, Nat.beq_refl]
        exact ⟨_, _, by simp only [hall, if_true]; rfl, (k1.trans k2).trans r2, by simp only [hall, if_true]; exact f4⟩
  · have hcz : cfZ xs p = none := by unfold cfZ; rw [if_neg hok]
    rw [hcz]
    by_cases c1 : p < 1
    · simp -implicitDefEqProofs (disch := omega) only [lt_t, lt_f, gt_t, gt_f, le_t, le_f, ge_t, ge_f, ne_t, ne_f, eq_t, eq_f, w64, chk_true, Option.bind_some, decide_true, decide_false, cond_true, cond_false, seqJ_n, seqJ_r, seqJ_e, headK_c, asB_bool, asI_int, asS_s, asN_int, extrK_0, extrK_1, extrK_2, Bool.not_true, Bool.not_false, Nat.beq_refl]
      exact ⟨_, _, rfl, Keep.refl h0, .inl ⟨rfl, rfl⟩⟩
    · by_cases c2 : p > 12
      · simp -implicitDefEqProofs (disch := omega) only [lt_t, lt_f, gt_t, gt_f, le_t, le_f, ge_t, ge_f, ne_t, ne_f, eq_t, eq_f, w64, chk_true, Option.bind_some, decide_true, decide_false, cond_true, cond_false, seqJ_n, seqJ_r, seqJ_e, headK_c, asB_bool, asI_int, asS_s, asN_int, extrK_0, extrK_1, extrK_2, Bool.not_true, Bool.not_false, Nat.beq_refl]
        exact ⟨_, _, rfl, Keep.refl h0, .inl ⟨rfl, rfl⟩⟩
      · by_cases c4 : p < xs.length
        · have c3 : ¬ checkZ xs = 0 := fun h => hok ⟨by omega, by omega, h, c4⟩
          obtain ⟨y1, m1, f1, k1, o1⟩ := refAuto_is h0 hx (by omega) hpw
          have ha1 : autoE xs p = checkZ xs := by unfold autoE; rw [if_neg (by omega), if_pos c3]
          rw [ha1] at f1
          simp -implicitDefEqProofs (disch := omega) only [lt_t, lt_f, gt_t, gt_f, le_t, le_f, ge_t, ge_f, ne_t, ne_f, eq_t, eq_f, w64, chk_true, Option.bind_some, decide_true, decide_false, cond_true, cond_false, seqJ_n, seqJ_r, seqJ_e, headK_c, asB_bool, asI_int, asS_s, asN_int, extrK_0, extrK_1, extrK_2, Bool.not_true, Bool.not_false, Nat.beq_refl, hx.len, f1]
          exact ⟨_, _, rfl, k1, .inl ⟨rfl, rfl⟩⟩
        · simp -implicitDefEqProofs (disch := omega) only [lt_t, lt_f, gt_t, gt_f, le_t, le_f, ge_t, ge_f, ne_t, ne_f, eq_t, eq_f, w64, chk_true, Option.bind_some, decide_true, decide_false, cond_true, cond_false, seqJ_n, seqJ_r, seqJ_e, headK_c, asB_bool, asI_int, asS_s, asN_int, extrK_0, extrK_1, extrK_2, Bool.not_true, Bool.not_false, Nat.beq_refl, hx.len]
          exact ⟨_, _, rfl, Keep.refl h0, .inl ⟨rfl, rfl⟩⟩
end Go.Proofs.Ytkcaigagilpomaa
