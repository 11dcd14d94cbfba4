/- The plain answer of FixedRestores. -/
import Derived.Test.YtchapaejdgnihaaQFixRest
import Derived.Test.YtchapaejdgnihaaQWakes
import Derived.Test.YtchapaejdgnihaaKSamples
import Derived.Test.YtchapaejdgnihaaKCut
namespace Go.Proofs.Ytchapaejdgnihaa
open Go Go.Proofs.Ytchapaejdgnihaa.E
set_option linter.unusedVariables false
set_option linter.unusedSimpArgs false
theorem small_loop {μ0 : AMem} (h0 : WF μ0) {w x : SV} {zs : List Int} (hx : IsRow μ0 .i64 x zs) (hb : zs.length ≤ 1000000) (hz : ∀ v ∈ zs, (Lit.int .i64 v).wf = true) :
    ∀ (k i : Nat) (μ : AMem) (y : SV), i + k = zs.length → Same μ0 μ → OwnRow μ0.next μ .i64 3 y ((zs.take i).map fun v => v % 41 - 20) →
      ∃ y' μ', overdublaw05_FixedRestores_L1 [.s w, .s x, .s (.int .i64 zs.length)] [.s y, .s (.int .i64 i)] μ = some (.exit 0, [.s w, .s y'], μ') ∧ Same μ0 μ' ∧ OwnRow μ0.next μ' .i64 3 y' (zs.map fun v => v % 41 - 20)
  | 0, i, μ, y, h, hs, hy => by
    rw [overdublaw05_FixedRestores_L1_eq, overdublaw05_FixedRestores_L1_B_eq]
    rw [List.take_of_length_le (by omega)] at hy
    simp (disch := omega) only [lt_t, lt_f, gt_t, gt_f, le_t, le_f, ge_t, ge_f, ne_t, ne_f, eq_t, eq_f, w64, chk_true, Option.bind_some, decide_true, decide_false, cond_true, cond_false, seqJ_n, seqJ_r, seqJ_e, headK_c, asB_bool, asI_int, asS_s, asN_int, extrK_0, extrK_1, extrK_2, Bool.not_true, Bool.not_false, Nat.beq_refl]
    exact ⟨y, μ, rfl, hs, hy⟩
  | k + 1, i, μ, y, h, hs, hy => by
    have hi : i < zs.length := by omega
    have hx2 := hx.same (bumpS hs 10)
    have hw := within_is (zs.getD i 0) 41 (wf64 (hz _ (getD_mem hi))) (by omega) (by omega) (μ.bump 10)
    have hlen : ((zs.take i).map fun v => v % 41 - 20).length = i := by simp; omega
    obtain ⟨y', μ', p1, p2, p3⟩ := pushS (B := 8) (a := 7) (b := 8) (n := 10) (q := some 1) h0 hs hy (zs.getD i 0 % 41 - 20) (by omega) (by omega) (by omega) (by omega) (by omega)
    rw [← take_map_snoc (fun v => v % 41 - 20) hi] at p3
    obtain ⟨y2, μ2, q1, q2, q3⟩ := small_loop h0 hx hb hz k (i + 1) μ' y' (by omega) p2 p3
    rw [nsu] at q1
    refine ⟨y2, μ2, ?_, q2, q3⟩
    rw [overdublaw05_FixedRestores_L1_eq, overdublaw05_FixedRestores_L1_B_eq]
    simp (disch := omega) only [lt_t, lt_f, gt_t, gt_f, le_t, le_f, ge_t, ge_f, ne_t, ne_f, eq_t, eq_f, w64, chk_true, Option.bind_some, decide_true, decide_false, cond_true, cond_false, seqJ_n, seqJ_r, seqJ_e, headK_c, asB_bool, asI_int, asS_s, asN_int, extrK_0, extrK_1, extrK_2, Bool.not_true, Bool.not_false, Nat.beq_refl, hx2.ind, hx2.load, nat_toNat, hw, p1]
    exact q1
theorem pureFixedRestores (x0 : Arg) (z0 : List Int) (s0 : Arg.isRow .i64 z0 x0) (w0 : ∀ n ∈ z0, (Lit.int .i64 n).wf = true) (y0 : z0.length * 8 ≤ 140737488351232) (x1 : Arg) (z1 : List Int) (s1 : Arg.isRow .i64 z1 x1) (w1 : ∀ n ∈ z1, (Lit.int .i64 n).wf = true) (y1 : z1.length * 8 ≤ 140737488351232) (a2 : Bool) (a3 : Bool) :
    ∃ μ', overdublaw05_FixedRestores (argVals 0 [x0, x1, .tf a2, .tf a3]) (argMem [x0, x1, .tf a2, .tf a3]) = some (.s (.bool true), μ') := by
  obtain ⟨a, ha, hx⟩ := IsRow.arg (l := [x0, x1, .tf a2, .tf a3]) (j := 0) s0 rfl
  obtain ⟨b, hb, hy⟩ := IsRow.arg (l := [x0, x1, .tf a2, .tf a3]) (j := 1) s1 rfl
  have hw := WF.args [x0, x1, .tf a2, .tf a3]
  show ∃ μ', overdublaw05_FixedRestores [x0.val 0, x1.val 1, .s (.bool a2), .s (.bool a3)] _ = _
  rw [ha, hb]
  generalize argMem [x0, x1, .tf a2, .tf a3] = μ at *
  have c6 : (((6 : Nat) : Int)) = 6 := rfl
  have c70 : (((70 : Nat) : Int)) = 70 := rfl
  obtain ⟨X, m1, e1, k1, o1⟩ := samples_is hw 6 a2 hx w0 (by omega)
  rw [c6] at e1
  obtain ⟨d, e6, hd⟩ := cutN_is (hy.same k1) 70
  rw [c70] at e6
  have lx : ((z0.take 6).map (sampleZ a2)).length ≤ 6 := by simp; omega
  generalize ((z0.take 6).map (sampleZ a2)) = ws at *
  have hwd : ∀ v ∈ z1.take 70, (Lit.int .i64 v).wf = true := fun v hv => w1 v (List.mem_of_mem_take hv)
  have ld : (z1.take 70).length ≤ 70 := by simp; omega
  generalize z1.take 70 = rs at *
  have key : ∀ (m2 : AMem) (r : SV) (rs' : List Int), Same m1 m2 → IsRow m2 .i64 r rs' → rs'.length ≤ 70 → ∃ m3 m4 p q, fixed_Restore [.s X, .s r] m2 = some (.tuple [.s p, .s (.int .i64 (frestE ws rs'))], m3) ∧ overdubref05_Restore [.s X, .s r] m3 = some (.tuple [.s q, .s (.int .i64 (frestE ws rs'))], m4) ∧
      overdubkeep_Same_int [.s p, .s q] m4 = some (.s (.bool true), m4) ∧ WF m4 := by
    intro m2 r rs' hs2 hr' hl
    obtain ⟨p, m3, f1, f2, f3⟩ := fixRest_is hs2.wf (o1.row.same hs2) hr' (by omega) (by omega)
    obtain ⟨q, m4, g1, g2, g3⟩ := refFixRest_is f2.wf (o1.row.same (hs2.trans f2)) (hr'.same f2) (by omega) (by omega)
    have lz : (frestZ ws rs').length ≤ 1000 := by
      unfold frestZ runZ
      split
      · split
        · split
          · simp
          · split
            · simp
            · omega
        · simp
      · simp
    have e11 := same_is (f3.row.same g2) g3.row (by omega)
    rw [decide_eq_true rfl] at e11
    exact ⟨m3, m4, p, q, f1, g1, e11, g2.wf⟩
  rw [overdublaw05_FixedRestores_eq]
  cases a3
  · obtain ⟨m3, m4, p, q, f1, f2, f3, f4⟩ := key m1 d rs (Keep.refl k1.wf) hd ld
    obtain ⟨μ', e12⟩ := wakes_is m4 f4
    simp (disch := omega) only [lt_t, lt_f, gt_t, gt_f, le_t, le_f, ge_t, ge_f, ne_t, ne_f, eq_t, eq_f, w64, chk_true, Option.bind_some, decide_true, decide_false, cond_true, cond_false, seqJ_n, seqJ_r, seqJ_e, headK_c, asB_bool, asI_int, asS_s, asN_int, extrK_0, extrK_1, extrK_2, Bool.not_true, Bool.not_false, Nat.beq_refl, e1, e6, f1, f2, f3, e12]
    exact ⟨_, rfl⟩
  · obtain ⟨r, m2, r1, r2, r3⟩ := small_loop (w := X) k1.wf hd (by omega) hwd _ 0 m1 .nilSlice (Nat.zero_add _) (Keep.refl k1.wf) (OwnRow.nil _ _ _ _)
    rw [n0] at r1
    obtain ⟨m3, m4, p, q, f1, f2, f3, f4⟩ := key m2 r _ r2 r3.row (by simp; omega)
    obtain ⟨μ', e12⟩ := wakes_is m4 f4
    simp (disch := omega) only [lt_t, lt_f, gt_t, gt_f, le_t, le_f, ge_t, ge_f, ne_t, ne_f, eq_t, eq_f, w64, chk_true, Option.bind_some, decide_true, decide_false, cond_true, cond_false, seqJ_n, seqJ_r, seqJ_e, headK_c, asB_bool, asI_int, asS_s, asN_int, extrK_0, extrK_1, extrK_2, Bool.not_true, Bool.not_false, Nat.beq_refl, e1, e6, hd.len, r1, f1, f2, f3, e12]
    exact ⟨_, rfl⟩
end Go.Proofs.Ytchapaejdgnihaa
