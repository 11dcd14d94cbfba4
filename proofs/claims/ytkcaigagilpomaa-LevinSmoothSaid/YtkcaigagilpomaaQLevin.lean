/- Coefficients by Levinson's walk: what the program and the document tell. -/
import Derived.Test.YtkcaigagilpomaaQAuto
import Derived.Test.YtkcaigagilpomaaQScaled
import Derived.Test.YtkcaigagilpomaaKStore
import Derived.Test.YtkcaigagilpomaaQMayR
import Derived.Test.YtkcaigagilpomaaKDown
namespace Go.Proofs.Ytkcaigagilpomaa
open Go Go.Proofs.Ytkcaigagilpomaa.E
set_option linter.unusedVariables false
set_option linter.unusedSimpArgs false
abbrev w6 (n : Int) : Int := IntKind.wrap .i64 n
theorem w6_le (n : Int) : -9223372036854775808 ≤ w6 n ∧ w6 n ≤ 9223372036854775807 := by unfold w6; rw [IntKind.wrap_i64]; omega
def upd (old : List Int) (k : Int) (i : Nat) : Nat → Nat → List Int → List Int
  | 0, j, l => l
  | n + 1, j, l => upd old k i n (j + 1) (l.set j (w6 (old.getD j 0 - w6 (k * old.getD (i - j) 0) / 4096)))
def numZ (R A : List Int) (i : Nat) : Nat → Nat → Int → Int
  | 0, j, s => s
  | n + 1, j, s => numZ R A i n (j + 1) (w6 (s - w6 (A.getD j 0 * R.getD (i - j) 0)))
def clampZ (q : Int) : Int := if q < -4095 then -4095 else if 4095 < q then 4095 else q
def kZ (R A : List Int) (i : Nat) (e : Int) : Int := clampZ (numZ R A i (i - 1) 1 (w6 (R.getD i 0 * 4096)) / e)
def nextE (k e : Int) : Int := w6 (e - w6 (w6 (k * k) / 4096 * e) / 4096)
def coefL (R : List Int) : Nat → Nat → Int → List Int → Option (List Int)
  | 0, i, e, A => some A
  | n + 1, i, e, A => if e < 1 then none else coefL R n (i + 1) (nextE (kZ R A i e) e) ((upd A (kZ R A i e) i (i - 1) 1 A).set i (kZ R A i e))
theorem clampZ_le (q : Int) : -4095 ≤ clampZ q ∧ clampZ q ≤ 4095 := by unfold clampZ; split <;> (try split) <;> omega
theorem upd_len (old : List Int) (k : Int) (i : Nat) : ∀ (n j : Nat) (l : List Int), (upd old k i n j l).length = l.length
  | 0, j, l => rfl
  | n + 1, j, l => by rw [upd, upd_len old k i n (j + 1)]; simp
theorem numZ_le (R A : List Int) (i : Nat) : ∀ (n j : Nat) (s : Int), (-9223372036854775808 ≤ s ∧ s ≤ 9223372036854775807) → -9223372036854775808 ≤ numZ R A i n j s ∧ numZ R A i n j s ≤ 9223372036854775807
  | 0, j, s, h => h
  | n + 1, j, s, h => numZ_le R A i n (j + 1) _ (w6_le _)
theorem floor_is (a b : Int) (hb : 1 ≤ b) (ha : -9223372036854775808 ≤ a ∧ a ≤ 9223372036854775807) (μ : AMem) :
    levin_floor [.s (.int .i64 a), .s (.int .i64 b)] μ = some (.s (.int .i64 (a / b)), μ) := by
  obtain ⟨hq, hn, hdiv, hmod⟩ := quot_wide hb ha
  have h2 : ¬ b = 0 := by omega
  have hlt := Int.emod_lt_of_pos a (show 0 < b by omega)
  have hge := Int.emod_nonneg a h2
  rw [levin_floor_eq, if_neg h2, if_neg h2, hmod, hdiv]
  by_cases c1 : 0 ≤ a ∨ a % b = 0
  · rw [if_pos c1, if_pos c1]
    simp -implicitDefEqProofs (disch := omega) only [lt_t, lt_f, gt_t, gt_f, le_t, le_f, ge_t, ge_f, ne_t, ne_f, eq_t, eq_f, w64, chk_true, Option.bind_some, decide_true, decide_false, cond_true, cond_false, seqJ_n, seqJ_r, seqJ_e, headK_c, asB_bool, asI_int, asS_s, asN_int, extrK_0, extrK_1, extrK_2, Bool.not_true, Bool.not_false, Nat.beq_refl]
  · rw [if_neg c1, if_neg c1]
    have := hn (fun h => c1 (.inr h)) (by omega)
    simp -implicitDefEqProofs (disch := omega) only [lt_t, lt_f, gt_t, gt_f, le_t, le_f, ge_t, ge_f, ne_t, ne_f, eq_t, eq_f, w64, chk_true, Option.bind_some, decide_true, decide_false, cond_true, cond_false, seqJ_n, seqJ_r, seqJ_e, headK_c, asB_bool, asI_int, asS_s, asN_int, extrK_0, extrK_1, extrK_2, Bool.not_true, Bool.not_false, Nat.beq_refl]
    rw [show a / b + 1 - 1 = a / b by omega]
theorem div4096 (z : Int) : Int.fdiv z (2 ^ (12 : Nat)) = z / 4096 := by rw [fdivp]; rfl
theorem clamp1 (q : Int) : (if (if 4095 < q then 4095 else q) > (-4095) then (if 4095 < q then 4095 else q) else (-4095)) = clampZ q := by
  unfold clampZ; split <;> split <;> (try split) <;> omega
theorem clamp2 (q : Int) : (if 4095 < (if (-4095) > q then (-4095) else q) then 4095 else (if (-4095) > q then (-4095) else q)) = clampZ q := by
  unfold clampZ; split <;> split <;> (try split) <;> omega
theorem num_loop {m : AMem} {r a : SV} {R A : List Int} {p e : Int} {i : Nat} (hr : IsRow m .i64 r R) (ha : IsRow m .i64 a A) (hR : i < R.length) (hA : i ≤ A.length) (hb : i ≤ 1000) :
    ∀ (n j : Nat) (s : Int), j + n = i → levin_Coefficients_L3 [.s (.int .i64 p), .s r, .s (.int .i64 e), .s a, .s (.int .i64 i)] [.s (.int .i64 s), .s (.int .i64 j)] m = some (.exit 2, [.s (.int .i64 p), .s r, .s (.int .i64 e), .s a, .s (.int .i64 i), .s (.int .i64 (numZ R A i n j s))], m)
  | 0, j, s, h => by
    rw [levin_Coefficients_L3_eq, levin_Coefficients_L3_B_eq]
    simp -implicitDefEqProofs (disch := omega) only [lt_t, lt_f, gt_t, gt_f, le_t, le_f, ge_t, ge_f, ne_t, ne_f, eq_t, eq_f, w64, chk_true, Option.bind_some, decide_true, decide_false, cond_true, cond_false, seqJ_n, seqJ_r, seqJ_e, headK_c, asB_bool, asI_int, asS_s, asN_int, extrK_0, extrK_1, extrK_2, Bool.not_true, Bool.not_false, Nat.beq_refl]
    rfl
  | n + 1, j, s, h => by
    have ih := num_loop (p := p) (e := e) hr ha hR hA hb n (j + 1) (w6 (s - w6 (A.getD j 0 * R.getD (i - j) 0))) (by omega)
    rw [nsu] at ih
    have e1 : ((i : Int) - (j : Int)).toNat = i - j := by omega
    rw [levin_Coefficients_L3_eq, levin_Coefficients_L3_B_eq]
    simp -implicitDefEqProofs (disch := omega) only [lt_t, lt_f, gt_t, gt_f, le_t, le_f, ge_t, ge_f, ne_t, ne_f, eq_t, eq_f, w64, chk_true, Option.bind_some, decide_true, decide_false, cond_true, cond_false, seqJ_n, seqJ_r, seqJ_e, headK_c, asB_bool, asI_int, asS_s, asN_int, extrK_0, extrK_1, extrK_2, Bool.not_true, Bool.not_false, Nat.beq_refl, ha.ind, ha.load, hr.ind, hr.load, nat_toNat, e1]
    exact ih
theorem refNum_loop {m : AMem} {r a : SV} {R A : List Int} {p e : Int} {i : Nat} (hr : IsRow m .i64 r R) (ha : IsRow m .i64 a A) (hR : i < R.length) (hA : i ≤ A.length) (hb : i ≤ 1000) :
    ∀ (n j : Nat) (s : Int), j + n = i → overdubref05_Coefficients_L2 [.s (.int .i64 p), .s r, .s (.int .i64 e), .s a, .s (.int .i64 i)] [.s (.int .i64 s), .s (.int .i64 j)] m = some (.exit 2, [.s (.int .i64 p), .s r, .s (.int .i64 e), .s a, .s (.int .i64 i), .s (.int .i64 (numZ R A i n j s))], m)
  | 0, j, s, h => by
    rw [overdubref05_Coefficients_L2_eq, overdubref05_Coefficients_L2_B_eq]
    simp -implicitDefEqProofs (disch := omega) only [lt_t, lt_f, gt_t, gt_f, le_t, le_f, ge_t, ge_f, ne_t, ne_f, eq_t, eq_f, w64, chk_true, Option.bind_some, decide_true, decide_false, cond_true, cond_false, seqJ_n, seqJ_r, seqJ_e, headK_c, asB_bool, asI_int, asS_s, asN_int, extrK_0, extrK_1, extrK_2, Bool.not_true, Bool.not_false, Nat.beq_refl]
    rfl
  | n + 1, j, s, h => by
    have ih := refNum_loop (p := p) (e := e) hr ha hR hA hb n (j + 1) (w6 (s - w6 (A.getD j 0 * R.getD (i - j) 0))) (by omega)
    rw [nsu] at ih
    have e1 : ((i : Int) - (j : Int)).toNat = i - j := by omega
    rw [overdubref05_Coefficients_L2_eq, overdubref05_Coefficients_L2_B_eq]
    simp -implicitDefEqProofs (disch := omega) only [lt_t, lt_f, gt_t, gt_f, le_t, le_f, ge_t, ge_f, ne_t, ne_f, eq_t, eq_f, w64, chk_true, Option.bind_some, decide_true, decide_false, cond_true, cond_false, seqJ_n, seqJ_r, seqJ_e, headK_c, asB_bool, asI_int, asS_s, asN_int, extrK_0, extrK_1, extrK_2, Bool.not_true, Bool.not_false, Nat.beq_refl, ha.ind, ha.load, hr.ind, hr.load, nat_toNat, e1]
    exact ih
theorem upd_loop {μ0 : AMem} (h0 : WF μ0) {r a o : SV} {O : List Int} {p e k : Int} {i : Nat} (hO : i < O.length) (hb : i ≤ 1000) (hao : Apart a o) :
    ∀ (n j : Nat) (m : AMem) (L : List Int), j + n = i → 1 ≤ j → i ≤ L.length → Same μ0 m → OwnRow μ0.next m .i64 3 a L → IsRow m .i64 o O →
      ∃ m', levin_Coefficients_L4 [.s (.int .i64 p), .s r, .s (.int .i64 e), .s a, .s (.int .i64 i), .s (.int .i64 k), .s o] [.s (.int .i64 j)] m = some (.exit 4, [.s (.int .i64 p), .s r, .s (.int .i64 e), .s a, .s (.int .i64 i), .s (.int .i64 k)], m') ∧ Same μ0 m' ∧ OwnRow μ0.next m' .i64 3 a (upd O k i n j L)
  | 0, j, m, L, h, h1, hL, hs, ha, ho => by
    rw [levin_Coefficients_L4_eq, levin_Coefficients_L4_B_eq]
    simp -implicitDefEqProofs (disch := omega) only [lt_t, lt_f, gt_t, gt_f, le_t, le_f, ge_t, ge_f, ne_t, ne_f, eq_t, eq_f, w64, chk_true, Option.bind_some, decide_true, decide_false, cond_true, cond_false, seqJ_n, seqJ_r, seqJ_e, headK_c, asB_bool, asI_int, asS_s, asN_int, extrK_0, extrK_1, extrK_2, Bool.not_true, Bool.not_false, Nat.beq_refl]
    exact ⟨m, rfl, hs, ha⟩
  | n + 1, j, m, L, h, h1, hL, hs, ha, ho => by
    obtain ⟨m1, s1, s2, s3, s4, s5, s6⟩ := storeS h0 hs ha (i := j) (by omega) (w6 (O.getD j 0 - w6 (k * O.getD (i - j) 0) / 4096))
    obtain ⟨m', q1, q2, q3⟩ := upd_loop (r := r) (p := p) (e := e) (k := k) h0 hO hb hao n (j + 1) m1 _ (by omega) (by omega) (by simp; omega) s2 s3 (rowOther ho hao s5)
    rw [nsu] at q1
    have e1 : ((i : Int) - (j : Int)).toNat = i - j := by omega
    refine ⟨m', ?_, q2, q3⟩
    rw [levin_Coefficients_L4_eq, levin_Coefficients_L4_B_eq]
    simp -implicitDefEqProofs (disch := omega) only [lt_t, lt_f, gt_t, gt_f, le_t, le_f, ge_t, ge_f, ne_t, ne_f, eq_t, eq_f, w64, chk_true, Option.bind_some, decide_true, decide_false, cond_true, cond_false, seqJ_n, seqJ_r, seqJ_e, headK_c, asB_bool, asI_int, asS_s, asN_int, extrK_0, extrK_1, extrK_2, Bool.not_true, Bool.not_false, Nat.beq_refl, ho.ind, ho.load, ha.row.ind, nat_toNat, e1, div4096, s1]
    exact q1
theorem refUpd_loop {μ0 : AMem} (h0 : WF μ0) {r a o : SV} {O : List Int} {p e k : Int} {i : Nat} (hO : i < O.length) (hb : i ≤ 1000) (hao : Apart a o) :
    ∀ (n j : Nat) (m : AMem) (L : List Int), j + n = i → 1 ≤ j → i ≤ L.length → Same μ0 m → OwnRow μ0.next m .i64 3 a L → IsRow m .i64 o O →
      ∃ m', overdubref05_Coefficients_L3 [.s (.int .i64 p), .s r, .s (.int .i64 e), .s a, .s (.int .i64 i), .s (.int .i64 k), .s o] [.s (.int .i64 j)] m = some (.exit 4, [.s (.int .i64 p), .s r, .s (.int .i64 e), .s a, .s (.int .i64 i), .s (.int .i64 k)], m') ∧ Same μ0 m' ∧ OwnRow μ0.next m' .i64 3 a (upd O k i n j L)
  | 0, j, m, L, h, h1, hL, hs, ha, ho => by
    rw [overdubref05_Coefficients_L3_eq, overdubref05_Coefficients_L3_B_eq]
    simp -implicitDefEqProofs (disch := omega) only [lt_t, lt_f, gt_t, gt_f, le_t, le_f, ge_t, ge_f, ne_t, ne_f, eq_t, eq_f, w64, chk_true, Option.bind_some, decide_true, decide_false, cond_true, cond_false, seqJ_n, seqJ_r, seqJ_e, headK_c, asB_bool, asI_int, asS_s, asN_int, extrK_0, extrK_1, extrK_2, Bool.not_true, Bool.not_false, Nat.beq_refl]
    exact ⟨m, rfl, hs, ha⟩
  | n + 1, j, m, L, h, h1, hL, hs, ha, ho => by
    obtain ⟨m1, s1, s2, s3, s4, s5, s6⟩ := storeS h0 hs ha (i := j) (by omega) (w6 (O.getD j 0 - w6 (k * O.getD (i - j) 0) / 4096))
    obtain ⟨m', q1, q2, q3⟩ := refUpd_loop (r := r) (p := p) (e := e) (k := k) h0 hO hb hao n (j + 1) m1 _ (by omega) (by omega) (by simp; omega) s2 s3 (rowOther ho hao s5)
    rw [nsu] at q1
    have e1 : ((i : Int) - (j : Int)).toNat = i - j := by omega
    have hd := down_wide (IntKind.wrap .i64 (k * O.getD (i - j) 0)) 4096 (by omega) (w6_le _) m
    refine ⟨m', ?_, q2, q3⟩
    rw [overdubref05_Coefficients_L3_eq, overdubref05_Coefficients_L3_B_eq]
    simp -implicitDefEqProofs (disch := omega) only [lt_t, lt_f, gt_t, gt_f, le_t, le_f, ge_t, ge_f, ne_t, ne_f, eq_t, eq_f, w64, chk_true, Option.bind_some, decide_true, decide_false, cond_true, cond_false, seqJ_n, seqJ_r, seqJ_e, headK_c, asB_bool, asI_int, asS_s, asN_int, extrK_0, extrK_1, extrK_2, Bool.not_true, Bool.not_false, Nat.beq_refl, ho.ind, ho.load, ha.row.ind, nat_toNat, e1, hd, s1]
    exact q1
end Go.Proofs.Ytkcaigagilpomaa
