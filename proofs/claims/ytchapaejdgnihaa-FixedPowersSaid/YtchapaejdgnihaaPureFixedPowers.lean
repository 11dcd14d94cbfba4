/- The plain answer of FixedPowers. -/
import Derived.Test.YtchapaejdgnihaaQFixRest
import Derived.Test.YtchapaejdgnihaaQWakes
import Derived.Test.YtchapaejdgnihaaQGuesses
import Derived.Test.YtchapaejdgnihaaQBack
import Derived.Test.YtchapaejdgnihaaKWithin
import Derived.Test.YtchapaejdgnihaaKSame
namespace Go.Proofs.Ytchapaejdgnihaa
open Go Go.Proofs.Ytchapaejdgnihaa.E
set_option linter.unusedVariables false
set_option linter.unusedSimpArgs false
def pw (a b c d : Int) (i : Nat) : Int := a + b * i + c * i * i + d * i * i * i
def upTo (g : Int) (n : Int) (v : Int) : Int := if g > n then v else 0
def pv (a b c d g : Int) (i : Nat) : Int := pw a (upTo g 0 b) (upTo g 1 c) (upTo g 2 d) i
theorem mul64 {c C : Int} {i : Nat} (h1 : -C ≤ c) (h2 : c ≤ C) (hi : i ≤ 64) : -(C * 64) ≤ c * i ∧ c * i ≤ C * 64 := prod_le (A := C) (B := 64) h1 h2 (by omega) (by omega)
theorem powers_loop {μ0 : AMem} (h0 : WF μ0) {a b c d g : Int} {n : Nat} (ha : 0 ≤ a ∧ a ≤ 1000) (hb : -100 ≤ b ∧ b ≤ 100) (hc : -10 ≤ c ∧ c ≤ 10) (hd : -2 ≤ d ∧ d ≤ 2) (hn : n ≤ 64) :
    ∀ (k i : Nat) (μ : AMem) (y : SV) (zs : List Int), i + k = n → zs.length ≤ i → Same μ0 μ → OwnRow μ0.next μ .i64 3 y zs →
      ∃ y' μ', overdublaw05_FixedPowers_L1 [.s (.int .i64 a), .s (.int .i64 b), .s (.int .i64 c), .s (.int .i64 d), .s (.int .i64 n), .s (.int .i64 g)] [.s y, .s (.int .i64 i)] μ = some (.exit 0, [.s (.int .i64 n), .s (.int .i64 g), .s y'], μ') ∧ Same μ0 μ' ∧ OwnRow μ0.next μ' .i64 3 y' (zs ++ (List.range' i k).map (pv a b c d g))
  | 0, i, μ, y, zs, h, hl, hs, hy => by
    rw [overdublaw05_FixedPowers_L1_eq, overdublaw05_FixedPowers_L1_B_eq]
    simp -implicitDefEqProofs (disch := omega) only [lt_t, lt_f, gt_t, gt_f, le_t, le_f, ge_t, ge_f, ne_t, ne_f, eq_t, eq_f, w64, chk_true, Option.bind_some, decide_true, decide_false, cond_true, cond_false, seqJ_n, seqJ_r, seqJ_e, headK_c, asB_bool, asI_int, asS_s, asN_int, extrK_0, extrK_1, extrK_2, Bool.not_true, Bool.not_false, Nat.beq_refl]
    exact ⟨y, μ, rfl, hs, by rw [show (List.range' i 0).map _ = [] from rfl, List.append_nil]; exact hy⟩
  | k + 1, i, μ, y, zs, h, hl, hs, hy => by
    have hi : i ≤ 64 := by omega
    have b1 := mul64 (C := 100) hb.1 hb.2 hi
    have c1 := mul64 (C := 10) hc.1 hc.2 hi
    have c2 := mul64 (C := 640) (c := c * i) (by omega) (by omega) hi
    have d1 := mul64 (C := 2) hd.1 hd.2 hi
    have d2 := mul64 (C := 128) (c := d * i) (by omega) (by omega) hi
    have d3 := mul64 (C := 8192) (c := d * i * i) (by omega) (by omega) hi
    obtain ⟨y', μ', p1, p2, p3⟩ := pushS (B := 8) (a := 2) (b := 3) (n := 5) (q := some 1) h0 hs hy (pv a b c d g i) (by omega) (by omega) (by omega) (by omega) (by omega)
    obtain ⟨y2, μ2, q1, q2, q3⟩ := powers_loop h0 ha hb hc hd hn k (i + 1) μ' y' _ (by omega) (by simp; omega) p2 p3
    rw [nsu] at q1
    rw [List.append_assoc] at q3
    refine ⟨y2, μ2, ?_, q2, q3⟩
    rw [overdublaw05_FixedPowers_L1_eq, overdublaw05_FixedPowers_L1_B_eq]
    by_cases g0 : g > 0
    · by_cases g1 : g > 1
      · by_cases g2 : g > 2
        · have e : pv a b c d g i = a + b * i + c * i * i + d * i * i * i := by unfold pv pw upTo; rw [if_pos g0, if_pos g1, if_pos g2]
          rw [e] at p1
          simp -implicitDefEqProofs (disch := omega) only [lt_t, lt_f, gt_t, gt_f, le_t, le_f, ge_t, ge_f, ne_t, ne_f, eq_t, eq_f, w64, chk_true, Option.bind_some, decide_true, decide_false, cond_true, cond_false, seqJ_n, seqJ_r, seqJ_e, headK_c, asB_bool, asI_int, asS_s, asN_int, extrK_0, extrK_1, extrK_2, Bool.not_true, Bool.not_false, Nat.beq_refl, p1]
          exact q1
        · have e : pv a b c d g i = a + b * i + c * i * i := by unfold pv pw upTo; rw [if_pos g0, if_pos g1, if_neg g2]; simp
          rw [e] at p1
          simp -implicitDefEqProofs (disch := omega) only [lt_t, lt_f, gt_t, gt_f, le_t, le_f, ge_t, ge_f, ne_t, ne_f, eq_t, eq_f, w64, chk_true, Option.bind_some, decide_true, decide_false, cond_true, cond_false, seqJ_n, seqJ_r, seqJ_e, headK_c, asB_bool, asI_int, asS_s, asN_int, extrK_0, extrK_1, extrK_2, Bool.not_true, Bool.not_false, Nat.beq_refl, p1]
          exact q1
      · have e : pv a b c d g i = a + b * i := by unfold pv pw upTo; rw [if_pos g0, if_neg g1, if_neg (by omega)]; simp
        rw [e] at p1
        simp -implicitDefEqProofs (disch := omega) only [lt_t, lt_f, gt_t, gt_f, le_t, le_f, ge_t, ge_f, ne_t, ne_f, eq_t, eq_f, w64, chk_true, Option.bind_some, decide_true, decide_false, cond_true, cond_false, seqJ_n, seqJ_r, seqJ_e, headK_c, asB_bool, asI_int, asS_s, asN_int, extrK_0, extrK_1, extrK_2, Bool.not_true, Bool.not_false, Nat.beq_refl, p1]
        exact q1
    · have e : pv a b c d g i = a := by unfold pv pw upTo; rw [if_neg g0, if_neg (by omega), if_neg (by omega)]; simp
      rw [e] at p1
      simp -implicitDefEqProofs (disch := omega) only [lt_t, lt_f, gt_t, gt_f, le_t, le_f, ge_t, ge_f, ne_t, ne_f, eq_t, eq_f, w64, chk_true, Option.bind_some, decide_true, decide_false, cond_true, cond_false, seqJ_n, seqJ_r, seqJ_e, headK_c, asB_bool, asI_int, asS_s, asN_int, extrK_0, extrK_1, extrK_2, Bool.not_true, Bool.not_false, Nat.beq_refl, p1]
      exact q1
theorem zero_loop {μ : AMem} {w z x : SV} {g : Int} {n : Nat} (hx : IsRow μ .i64 x (List.replicate n 0)) (hn : n ≤ 1000) :
    ∀ k i : Nat, i + k = n → overdublaw05_FixedPowers_L2 [.s (.int .i64 g), .s w, .s x, .s (.int .i64 n)] [.s (.int .i64 i)] μ = some (.exit 2, [.s (.int .i64 g), .s w, .s x], μ)
  | 0, i, h => by
    rw [overdublaw05_FixedPowers_L2_eq, overdublaw05_FixedPowers_L2_B_eq]
    simp -implicitDefEqProofs (disch := omega) only [lt_t, lt_f, gt_t, gt_f, le_t, le_f, ge_t, ge_f, ne_t, ne_f, eq_t, eq_f, w64, chk_true, Option.bind_some, decide_true, decide_false, cond_true, cond_false, seqJ_n, seqJ_r, seqJ_e, headK_c, asB_bool, asI_int, asS_s, asN_int, extrK_0, extrK_1, extrK_2, Bool.not_true, Bool.not_false, Nat.beq_refl]
  | k + 1, i, h => by
    have ih := zero_loop (w := w) (z := z) (g := g) hx hn k (i + 1) (by omega)
    rw [nsu] at ih
    have hlen : (List.replicate n (0 : Int)).length = n := by simp
    have e : (List.replicate n (0 : Int)).getD i 0 = 0 := by rw [List.getD_eq_getElem?_getD, List.getElem?_replicate]; split <;> rfl
    have ne00 : ((0 : Int) != 0) = false := rfl
    rw [overdublaw05_FixedPowers_L2_eq, overdublaw05_FixedPowers_L2_B_eq]
    simp -implicitDefEqProofs (disch := omega) only [lt_t, lt_f, gt_t, gt_f, le_t, le_f, ge_t, ge_f, ne_t, ne_f, eq_t, eq_f, w64, chk_true, Option.bind_some, decide_true, decide_false, cond_true, cond_false, seqJ_n, seqJ_r, seqJ_e, headK_c, asB_bool, asI_int, asS_s, asN_int, extrK_0, extrK_1, extrK_2, Bool.not_true, Bool.not_false, Nat.beq_refl, hx.ind, hx.load, nat_toNat, e, ne00]
    exact ih
theorem getD_range (f : Nat → Int) {n i : Nat} (h : i < n) : ((List.range' 0 n).map f).getD i 0 = f i := by
  rw [List.getD_eq_getElem?_getD, List.getElem?_map, List.getElem?_range' h]
  simp
theorem pw_left {a b c d g : Int} (hg : 0 ≤ g ∧ g ≤ 3) {n j : Nat} (h1 : g + 1 ≤ j) (h2 : j < n) : pv a b c d g j - fguess (g + 1) (((List.range' 0 n).map (pv a b c d g)).take j) = 0 := by
  have hl : ((List.range' 0 n).map (pv a b c d g)).length = n := by simp
  have : g = 0 ∨ g = 1 ∨ g = 2 ∨ g = 3 := by omega
  rcases this with rfl | rfl | rfl | rfl
  · obtain ⟨k, rfl⟩ : ∃ k, j = k + 1 := ⟨j - 1, by omega⟩
    rw [show (0 : Int) + 1 = 1 from rfl, fg1 (by omega) (by omega), getD_range _ (by omega)]
    unfold pv pw upTo; simp
  · obtain ⟨k, rfl⟩ : ∃ k, j = k + 2 := ⟨j - 2, by omega⟩
    rw [show (1 : Int) + 1 = 2 from rfl, fg2 (by omega) (by omega), getD_range _ (by omega), getD_range _ (by omega), show k + 2 - 1 = k + 1 by omega, show k + 2 - 2 = k by omega]
    simp only [pv, pw, upTo, show ((k + 2 : Nat) : Int) = (k : Int) + 2 from rfl, show ((k + 1 : Nat) : Int) = (k : Int) + 1 from rfl, show (1 : Int) > 0 from by decide, show ¬ (1 : Int) > 1 from by decide, show ¬ (1 : Int) > 2 from by decide, if_true, if_false]
    grind
  · obtain ⟨k, rfl⟩ : ∃ k, j = k + 3 := ⟨j - 3, by omega⟩
    rw [show (2 : Int) + 1 = 3 from rfl, fg3 (by omega) (by omega), getD_range _ (by omega), getD_range _ (by omega), getD_range _ (by omega), show k + 3 - 1 = k + 2 by omega, show k + 3 - 2 = k + 1 by omega, show k + 3 - 3 = k by omega]
    simp only [pv, pw, upTo, show ((k + 3 : Nat) : Int) = (k : Int) + 3 from rfl, show ((k + 2 : Nat) : Int) = (k : Int) + 2 from rfl, show ((k + 1 : Nat) : Int) = (k : Int) + 1 from rfl, show (2 : Int) > 0 from by decide, show (2 : Int) > 1 from by decide, show ¬ (2 : Int) > 2 from by decide, if_true, if_false]
    grind
  · obtain ⟨k, rfl⟩ : ∃ k, j = k + 4 := ⟨j - 4, by omega⟩
    rw [show (3 : Int) + 1 = 4 from rfl, fg4 (by omega) (by omega), getD_range _ (by omega), getD_range _ (by omega), getD_range _ (by omega), getD_range _ (by omega), show k + 4 - 1 = k + 3 by omega, show k + 4 - 2 = k + 2 by omega, show k + 4 - 3 = k + 1 by omega, show k + 4 - 4 = k by omega]
    simp only [pv, pw, upTo, show ((k + 4 : Nat) : Int) = (k : Int) + 4 from rfl, show ((k + 3 : Nat) : Int) = (k : Int) + 3 from rfl, show ((k + 2 : Nat) : Int) = (k : Int) + 2 from rfl, show ((k + 1 : Nat) : Int) = (k : Int) + 1 from rfl, show (3 : Int) > 0 from by decide, show (3 : Int) > 1 from by decide, show (3 : Int) > 2 from by decide, if_true]
    grind
theorem pureFixedPowers (a0 : Int) (w0 : (Lit.int .i64 a0).wf = true) (a1 : Int) (w1 : (Lit.int .i64 a1).wf = true) (a2 : Int) (w2 : (Lit.int .i64 a2).wf = true) (a3 : Int) (w3 : (Lit.int .i64 a3).wf = true) (a4 : Int) (w4 : (Lit.int .i64 a4).wf = true) (a5 : Int) (w5 : (Lit.int .i64 a5).wf = true) :
    ∃ μ', overdublaw05_FixedPowers (argVals 0 [.i .i64 a0, .i .i64 a1, .i .i64 a2, .i .i64 a3, .i .i64 a4, .i .i64 a5]) (argMem [.i .i64 a0, .i .i64 a1, .i .i64 a2, .i .i64 a3, .i .i64 a4, .i .i64 a5]) = some (.s (.bool true), μ') := by
  have hw := WF.args [.i .i64 a0, .i .i64 a1, .i .i64 a2, .i .i64 a3, .i .i64 a4, .i .i64 a5]
  show ∃ μ', overdublaw05_FixedPowers [.s (.int .i64 a0), .s (.int .i64 a1), .s (.int .i64 a2), .s (.int .i64 a3), .s (.int .i64 a4), .s (.int .i64 a5)] _ = _
  generalize argMem [.i .i64 a0, .i .i64 a1, .i .i64 a2, .i .i64 a3, .i .i64 a4, .i .i64 a5] = μ at *
  have e0 := within_is a0 1000 (wf64 w0) (by omega) (by omega) μ
  have e1 := within_is a1 200 (wf64 w1) (by omega) (by omega) μ
  have e2 := within_is a2 20 (wf64 w2) (by omega) (by omega) μ
  have e3 := within_is a3 5 (wf64 w3) (by omega) (by omega) μ
  have e4 := within_is a4 60 (wf64 w4) (by omega) (by omega) μ
  have e5 := within_is a5 4 (wf64 w5) (by omega) (by omega) μ
  obtain ⟨a, ha, ha1⟩ : ∃ a, a0 % 1000 = a ∧ (0 ≤ a ∧ a ≤ 1000) := ⟨_, rfl, by omega⟩
  obtain ⟨b, hb, hb1⟩ : ∃ b, IntKind.wrap .i64 (a1 % 200 - 100) = b ∧ (-100 ≤ b ∧ b ≤ 100) := ⟨_, wr (by omega), by omega⟩
  obtain ⟨c, hc, hc1⟩ : ∃ c, IntKind.wrap .i64 (a2 % 20 - 10) = c ∧ (-10 ≤ c ∧ c ≤ 10) := ⟨_, wr (by omega), by omega⟩
  obtain ⟨d, hd, hd1⟩ : ∃ d, IntKind.wrap .i64 (a3 % 5 - 2) = d ∧ (-2 ≤ d ∧ d ≤ 2) := ⟨_, wr (by omega), by omega⟩
  obtain ⟨n, hn, hn1⟩ : ∃ n : Nat, IntKind.wrap .i64 (5 + a4 % 60) = (n : Int) ∧ (5 ≤ n ∧ n ≤ 64) := ⟨(5 + a4 % 60).toNat, by rw [wr (by omega)]; omega, by omega⟩
  obtain ⟨g, hg, hg1⟩ : ∃ g, a5 % 4 = g ∧ (0 ≤ g ∧ g ≤ 3) := ⟨_, rfl, by omega⟩
  obtain ⟨g1, hg2, hg3⟩ : ∃ h, IntKind.wrap .i64 (g + 1) = h ∧ h = g + 1 := ⟨_, wr (by omega), rfl⟩
  obtain ⟨X, m1, f1, k1, o1⟩ := powers_loop (g := g) (n := n) hw ha1 hb1 hc1 hd1 hn1.2 n 0 μ .nilSlice [] (by omega) (by simp) (Keep.refl hw) (OwnRow.nil _ _ _ _)
  rw [n0] at f1
  rw [List.nil_append] at o1
  have lx : ((List.range' 0 n).map (pv a b c d g)).length = n := by simp
  have tx : tame ((List.range' 0 n).map (pv a b c d g)) := by
    intro v hv
    obtain ⟨i, hi, rfl⟩ := List.mem_map.mp hv
    rw [List.mem_range'_1] at hi
    have hi' : i ≤ 64 := by omega
    have ub : -100 ≤ upTo g 0 b ∧ upTo g 0 b ≤ 100 := by unfold upTo; split <;> omega
    have uc : -10 ≤ upTo g 1 c ∧ upTo g 1 c ≤ 10 := by unfold upTo; split <;> omega
    have ud : -2 ≤ upTo g 2 d ∧ upTo g 2 d ≤ 2 := by unfold upTo; split <;> omega
    have b1 := mul64 (C := 100) ub.1 ub.2 hi'
    have c1 := mul64 (C := 10) uc.1 uc.2 hi'
    have c2 := mul64 (C := 640) (c := upTo g 1 c * i) (by omega) (by omega) hi'
    have d1 := mul64 (C := 2) ud.1 ud.2 hi'
    have d2 := mul64 (C := 128) (c := upTo g 2 d * i) (by omega) (by omega) hi'
    have d3 := mul64 (C := 8192) (c := upTo g 2 d * i * i) (by omega) (by omega) hi'
    unfold pv pw; omega
  have hZ0 : leftZ (fguess g1) g1.toNat ((List.range' 0 n).map (pv a b c d g)) = List.replicate (n - g1.toNat) 0 := by
    apply List.ext_getElem
    · rw [leftZ_len, lx]; simp
    · intro i h1 h2
      rw [leftZ_len, lx] at h1
      rw [List.getElem_replicate]
      have := leftZ_getD (fguess g1) g1.toNat ((List.range' 0 n).map (pv a b c d g)) (i := i) (by omega)
      rw [getD_lt (by rw [leftZ_len, lx]; omega)] at this
      rw [this, getD_range _ (by omega)]
      have := pw_left (a := a) (b := b) (c := c) (d := d) hg1 (n := n) (j := g1.toNat + i) (by omega) (by omega)
      rw [← hg3] at this
      exact this
  have hE : fresE ((List.range' 0 n).map (pv a b c d g)) g1 = 0 := by unfold fresE; rw [if_pos (by omega), checkZ_tame tx (by omega)]
  have hZ : fresZ ((List.range' 0 n).map (pv a b c d g)) g1 = List.replicate (n - g1.toNat) 0 := by unfold fresZ; rw [if_pos hE, hZ0]
  have hrun := run_left (g := fguess g1) (fun i => by have := fguess_le (p := g1) (tame_take tx i); omega) tx (by omega) (n := g1.toNat) (by omega)
  have hrun' : runE (fguess g1) (((List.range' 0 n).map (pv a b c d g)).take g1.toNat) (List.replicate (n - g1.toNat) 0) = 0 ∧ runZ (fguess g1) (((List.range' 0 n).map (pv a b c d g)).take g1.toNat) (List.replicate (n - g1.toNat) 0) = (List.range' 0 n).map (pv a b c d g) := by
    rw [← hZ0]; exact hrun
  generalize (List.range' 0 n).map (pv a b c d g) = xs at *
  obtain ⟨l, m2, f2, k2, o2⟩ := fixRes_is k1.wf g1 o1.row (by omega)
  rw [hE] at f2
  rw [hZ] at o2
  have hll := o2.row.len
  rw [List.length_replicate] at hll
  have f3 := zero_loop (w := X) (z := X) (g := g) o2.row (by omega) _ 0 (Nat.zero_add _)
  rw [n0] at f3
  obtain ⟨z, f4, f5⟩ := (o1.row.same k2).front (n := g1.toNat) (by omega)
  have hgn : ((g1.toNat : Nat) : Int) = g1 := by omega
  rw [hgn] at f4
  obtain ⟨y, m3, f6, k3, o3⟩ := fixRest_is k2.wf f5 o2.row (by simp; omega) (by simp; omega)
  have hlt : (xs.take g1.toNat).length = g1.toNat := by simp; omega
  have hRE : frestE (xs.take g1.toNat) (List.replicate (n - g1.toNat) 0) = 0 := by unfold frestE; rw [hlt, if_pos (by omega), hgn]; exact hrun'.1
  have hRZ : frestZ (xs.take g1.toNat) (List.replicate (n - g1.toNat) 0) = xs := by unfold frestZ; rw [hlt, if_pos (by omega), hgn]; exact hrun'.2
  rw [hRE] at f6
  rw [hRZ] at o3
  have f7 := same_is o3.row (o1.row.same (k2.trans k3)) (by omega)
  rw [decide_eq_true rfl] at f7
  obtain ⟨μ', f8⟩ := wakes_is m3 k3.wf
  have q1 := ne_f (a := ((n - g1.toNat : Nat) : Int)) (b := IntKind.wrap .i64 (IntKind.wrap .i64 ((n : Int) - g) - 1)) (by rw [wr (n := (n : Int) - g) (by omega), wr (by omega)]; omega)
  have t0 : ((0 : Int) == 0) = true := rfl
  have ne00 : ((0 : Int) != 0) = false := rfl
  rw [overdublaw05_FixedPowers_eq]
  simp -implicitDefEqProofs only [e0, e1, e2, e3, e4, e5, ha, hb, hc, hd, hn, hg, hg2, f1, f2, hll, q1, f3, f4, f6, f7, f8, t0, ne00, Option.bind_some, decide_true, decide_false, cond_true, cond_false, seqJ_n, seqJ_r, seqJ_e, headK_c, asB_bool, asI_int, asS_s, asN_int, extrK_0, extrK_1, extrK_2, Bool.not_true, Bool.not_false, Nat.beq_refl]
  exact ⟨_, rfl⟩
end Go.Proofs.Ytchapaejdgnihaa
