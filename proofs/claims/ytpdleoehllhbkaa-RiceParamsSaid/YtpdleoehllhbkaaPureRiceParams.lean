/- The plain answer of RiceParams. -/
import Derived.Test.YtpdleoehllhbkaaQBest
import Derived.Test.YtpdleoehllhbkaaQWakes
import Derived.Test.YtpdleoehllhbkaaKCopy
import Derived.Test.YtpdleoehllhbkaaKWithin
namespace Go.Proofs.Ytpdleoehllhbkaa
open Go Go.Proofs.Ytpdleoehllhbkaa.E
set_option linter.unusedVariables false
set_option linter.unusedSimpArgs false
theorem draw_loop {μ0 : AMem} (h0 : WF μ0) {x : SV} {zs : List Int} (hx : IsRow μ0 .i64 x zs) (hz : ∀ v ∈ zs, (Lit.int .i64 v).wf = true) :
    ∀ (k i : Nat) (μ : AMem) (y : SV), i + k = min 40 zs.length → Same μ0 μ → OwnRow μ0.next μ .i64 3 y ((zs.take i).map fun v => v % 67108864) →
      ∃ y' μ', overdublaw02_RiceParams_L1 [.s x] [.s y, .s (.int .i64 i)] μ = some (.exit 0, [.s y'], μ') ∧ Same μ0 μ' ∧ OwnRow μ0.next μ' .i64 3 y' ((zs.take 40).map fun v => v % 67108864)
  | 0, i, μ, y, h, hs, hy => by
    rw [overdublaw02_RiceParams_L1_eq, overdublaw02_RiceParams_L1_B_eq, (hx.same hs).len]
    rw [take_min (n := 40) (zs := zs) (i := i) (by omega)] at hy
    by_cases h1 : (i : Int) < (zs.length : Int)
    · simp -implicitDefEqProofs (disch := omega) only [lt_t, lt_f, gt_t, gt_f, le_t, le_f, ge_t, ge_f, ne_t, ne_f, eq_t, eq_f, w64, chk_true, Option.bind_some, decide_true, decide_false, cond_true, cond_false, seqJ_n, seqJ_r, seqJ_e, headK_c, asB_bool, asI_int, asS_s, asN_int, extrK_0, extrK_1, extrK_2, Bool.not_true, Bool.not_false, Nat.beq_refl]
      exact ⟨y, μ, rfl, hs, hy⟩
    · simp -implicitDefEqProofs (disch := omega) only [lt_t, lt_f, gt_t, gt_f, le_t, le_f, ge_t, ge_f, ne_t, ne_f, eq_t, eq_f, w64, chk_true, Option.bind_some, decide_true, decide_false, cond_true, cond_false, seqJ_n, seqJ_r, seqJ_e, headK_c, asB_bool, asI_int, asS_s, asN_int, extrK_0, extrK_1, extrK_2, Bool.not_true, Bool.not_false, Nat.beq_refl]
      exact ⟨y, μ, rfl, hs, hy⟩
  | k + 1, i, μ, y, h, hs, hy => by
    have hi : i < zs.length := by omega
    have hx1 := hx.same hs
    have hx9 := hx.same (bumpS hs 9)
    have hw := within_is (zs.getD i 0) 67108864 (wf64 (hz _ (getD_mem hi))) (by omega) (by omega) (μ.bump 9)
    have hlen : ((zs.take i).map fun v => v % 67108864).length = i := by simp; omega
    obtain ⟨y', μ', p1, p2, p3⟩ := pushS (B := 8) (a := 6) (b := 7) (n := 9) (q := some 1) h0 hs hy (zs.getD i 0 % 67108864) (by omega) (by omega) (by omega) (by omega) (by omega)
    rw [← take_map_snoc (fun v => v % 67108864) hi] at p3
    obtain ⟨y2, μ2, q1, q2, q3⟩ := draw_loop h0 hx hz k (i + 1) μ' y' (by omega) p2 p3
    rw [nsu] at q1
    refine ⟨y2, μ2, ?_, q2, q3⟩
    rw [overdublaw02_RiceParams_L1_eq, overdublaw02_RiceParams_L1_B_eq, hx1.len]
    simp -implicitDefEqProofs (disch := omega) only [lt_t, lt_f, gt_t, gt_f, le_t, le_f, ge_t, ge_f, ne_t, ne_f, eq_t, eq_f, w64, chk_true, Option.bind_some, decide_true, decide_false, cond_true, cond_false, seqJ_n, seqJ_r, seqJ_e, headK_c, asB_bool, asI_int, asS_s, asN_int, extrK_0, extrK_1, extrK_2, Bool.not_true, Bool.not_false, Nat.beq_refl, hx9.ind, hx9.load, nat_toNat, hw, p1]
    exact q1
theorem paramSum_loop {μ : AMem} {x : SV} {l : List Int} {k s i : Int} (hx : IsRow μ .i64 x l) (hb : l.length ≤ 1000000) :
    ∀ n j : Nat, j + n = l.length → overdublaw02_RiceParams_L3 [.s x, .s (.int .i64 k), .s (.int .i64 s), .s (.int .i64 i), .s (.int .i64 l.length)] [.s (.int .i64 (sumS l i j)), .s (.int .i64 j)] μ = some (.exit 4, [.s x, .s (.int .i64 k), .s (.int .i64 s), .s (.int .i64 i), .s (.int .i64 (sumS l i l.length))], μ)
  | 0, j, h => by
    obtain rfl : j = l.length := by omega
    rw [overdublaw02_RiceParams_L3_eq, overdublaw02_RiceParams_L3_B_eq]
    simp -implicitDefEqProofs (disch := omega) only [lt_t, lt_f, gt_t, gt_f, le_t, le_f, ge_t, ge_f, ne_t, ne_f, eq_t, eq_f, w64, chk_true, Option.bind_some, decide_true, decide_false, cond_true, cond_false, seqJ_n, seqJ_r, seqJ_e, headK_c, asB_bool, asI_int, asS_s, asN_int, extrK_0, extrK_1, extrK_2, Bool.not_true, Bool.not_false, Nat.beq_refl]
  | n + 1, j, h => by
    have ih := paramSum_loop (k := k) (s := s) (i := i) hx hb n (j + 1) (by omega)
    rw [nsu] at ih
    have h1 := sumS_le l i j
    have h2 := sizeZ_le (l.getD j 0) i
    rw [overdublaw02_RiceParams_L3_eq, overdublaw02_RiceParams_L3_B_eq]
    simp -implicitDefEqProofs (disch := omega) only [lt_t, lt_f, gt_t, gt_f, le_t, le_f, ge_t, ge_f, ne_t, ne_f, eq_t, eq_f, w64, chk_true, Option.bind_some, decide_true, decide_false, cond_true, cond_false, seqJ_n, seqJ_r, seqJ_e, headK_c, asB_bool, asI_int, asS_s, asN_int, extrK_0, extrK_1, extrK_2, Bool.not_true, Bool.not_false, Nat.beq_refl, hx.ind, hx.load, nat_toNat, size_is]
    exact ih
theorem param_loop {μ : AMem} {x : SV} {l : List Int} {k s : Int} (hx : IsRow μ .i64 x l) (hb : l.length ≤ 1000000) (hk : s = sumS l k l.length) (hs : ∀ p : Nat, p < 25 → s ≤ sumS l p l.length ∧ (s = sumS l p l.length → k ≤ p)) :
    ∀ (n i : Nat), i + n = 25 → overdublaw02_RiceParams_L2 [.s x, .s (.int .i64 k), .s (.int .i64 s)] [.s (.int .i64 i)] μ = some (.exit 2, [.s x], μ)
  | 0, i, h => by
    obtain rfl : i = 25 := by omega
    rw [overdublaw02_RiceParams_L2_eq, overdublaw02_RiceParams_L2_B_eq]
    rfl
  | n + 1, i, h => by
    have hsum := paramSum_loop (k := k) (s := s) (i := (i : Int)) hx hb _ 0 (Nat.zero_add _)
    rw [n0, show sumS l (i : Int) 0 = 0 from rfl] at hsum
    have ih := param_loop hx hb hk hs n (i + 1) (by omega)
    rw [nsu] at ih
    have hp := hs i (by omega)
    rw [overdublaw02_RiceParams_L2_eq, overdublaw02_RiceParams_L2_B_eq]
    by_cases c1 : sumS l (i : Int) l.length = s
    · have := hp.2 c1.symm
      by_cases c2 : (i : Int) = k
      · simp -implicitDefEqProofs (disch := omega) only [lt_t, lt_f, gt_t, gt_f, le_t, le_f, ge_t, ge_f, ne_t, ne_f, eq_t, eq_f, w64, chk_true, Option.bind_some, decide_true, decide_false, cond_true, cond_false, seqJ_n, seqJ_r, seqJ_e, headK_c, asB_bool, asI_int, asS_s, asN_int, extrK_0, extrK_1, extrK_2, Bool.not_true, Bool.not_false, Nat.beq_refl, hx.len, hsum]
        exact ih
      · simp -implicitDefEqProofs (disch := omega) only [lt_t, lt_f, gt_t, gt_f, le_t, le_f, ge_t, ge_f, ne_t, ne_f, eq_t, eq_f, w64, chk_true, Option.bind_some, decide_true, decide_false, cond_true, cond_false, seqJ_n, seqJ_r, seqJ_e, headK_c, asB_bool, asI_int, asS_s, asN_int, extrK_0, extrK_1, extrK_2, Bool.not_true, Bool.not_false, Nat.beq_refl, hx.len, hsum]
        exact ih
    · have c2 : ¬ (i : Int) = k := fun e => c1 (by rw [hk, e])
      simp -implicitDefEqProofs (disch := omega) only [lt_t, lt_f, gt_t, gt_f, le_t, le_f, ge_t, ge_f, ne_t, ne_f, eq_t, eq_f, w64, chk_true, Option.bind_some, decide_true, decide_false, cond_true, cond_false, seqJ_n, seqJ_r, seqJ_e, headK_c, asB_bool, asI_int, asS_s, asN_int, extrK_0, extrK_1, extrK_2, Bool.not_true, Bool.not_false, Nat.beq_refl, hx.len, hsum]
      exact ih
theorem pureRiceParams (x0 : Arg) (z0 : List Int) (s0 : Arg.isRow .i64 z0 x0) (w0 : ∀ n ∈ z0, (Lit.int .i64 n).wf = true) (y0 : z0.length * 8 ≤ 140737488351232) :
    ∃ μ', overdublaw02_RiceParams (argVals 0 [x0]) (argMem [x0]) = some (.s (.bool true), μ') := by
  obtain ⟨a, ha, hx⟩ := IsRow.arg (l := [x0]) (j := 0) s0 rfl
  have hw := WF.args [x0]
  show ∃ μ', overdublaw02_RiceParams [x0.val 0] _ = _
  rw [ha]
  generalize argMem [x0] = μ at *
  obtain ⟨X, m1, e1, k1, o1⟩ := draw_loop hw hx w0 _ 0 μ .nilSlice (Nat.zero_add _) (Keep.refl hw) (OwnRow.nil _ _ _ _)
  rw [n0] at e1
  have lx : ((z0.take 40).map fun v => v % 67108864).length ≤ 40 := by simp; omega
  have hall : ((z0.take 40).map fun v => v % 67108864).all (fun z => mayB z 0) = true := by
    rw [List.all_eq_true]
    intro v hv
    obtain ⟨u, _, rfl⟩ := List.mem_map.mp hv
    show mayB (u % 67108864) 0 = true
    unfold mayB; simp; omega
  generalize ((z0.take 40).map fun v => v % 67108864) = l at *
  have e2 := best_is o1.row (by omega)
  obtain ⟨b1, b2, b3, b4⟩ := bestZ_spec hall
  have e3 := param_loop (k := (bestZ l).1) (s := (bestZ l).2) o1.row (by omega) b3 b4 25 0 rfl
  rw [n0] at e3
  have k10 := bumpS (Keep.refl k1.wf) 10
  obtain ⟨D, m3, g1, g2, g3⟩ := copy_is k10.wf (o1.row.same k10) (by omega)
  have hn3 := g2.next
  simp only [bump_next] at hn3
  have ks : Same m1 (m3.set (m1.next + 2) (rowObj [.int .i64 (-1)] 1 3 (some 1))) := Keep.setS k1.wf (k10.trans g2) (by omega) (by omega)
  have g3' : OwnRow m1.next (m3.set (m1.next + 2) (rowObj [.int .i64 (-1)] 1 3 (some 1))) .i64 3 D l := by
    refine (g3.old fun id o ho hi => ?_).less (by simp)
    have : ¬ id = m1.next + 2 := fun e => g3.notOld (id := id) (by simp; omega) hi
    rw [set_obj, if_neg this]; exact ho
  have hlit : IsRow (m3.set (m1.next + 2) (rowObj [.int .i64 (-1)] 1 3 (some 1))) .i64 (.slice (m1.next + 2) 0 0 1) [-1] := IsRow.made (o := rowObj [.int .i64 (-1)] 1 3 (some 1)) (by simp) rfl rfl rfl
  obtain ⟨L, m4, g4, k4, o4⟩ := appS (B := 8) (nid := m1.next + 3) k1.wf ks g3' hlit (by omega) (by simp; omega) (by omega) (by simp; omega) (by rw [set_obj, if_neg (by omega)]; exact freshS k1.wf (n := 10) (by omega) g2)
  have e4 := best_is o4.row (by simp; omega)
  have hbad : bestZ (l ++ [-1]) = (0, 0) := by
    unfold bestZ
    rw [if_neg]
    rw [List.all_append]
    have : ([-1] : List Int).all (fun z => mayB z 0) = false := by decide
    rw [this, Bool.and_false]; exact Bool.false_ne_true
  rw [hbad] at e4
  have t0 : ((0 : Int) == 0) = true := rfl
  rw [overdublaw02_RiceParams_eq]
  simp -implicitDefEqProofs only [e1, e2, e3, g1, g4, e4, t0, wakes_is, Option.bind_some, decide_true, decide_false, cond_true, cond_false, seqJ_n, seqJ_r, seqJ_e, headK_c, asB_bool, asI_int, asS_s, asN_int, extrK_0, extrK_1, extrK_2, Bool.not_true, Bool.not_false, Nat.beq_refl]
  exact ⟨_, rfl⟩
end Go.Proofs.Ytpdleoehllhbkaa
