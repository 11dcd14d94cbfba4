/- What coefs comes to. -/
import Derived.Test.YtbknenfbdhginaaKCopy
import Derived.Test.YtbknenfbdhginaaKWithin
namespace Go.Proofs.Ytbknenfbdhginaa
open Go Go.Proofs.Ytbknenfbdhginaa.E
set_option linter.unusedVariables false
set_option linter.unusedSimpArgs false
def coefZ (wild : Bool) (v : Int) : Int := if wild && (Int.tmod v 4 == 3) then v else v % 65536 - 32768
theorem coefs_loop {μ0 : AMem} (h0 : WF μ0) {x : SV} {zs : List Int} {wild : Bool} (hx : IsRow μ0 .i64 x zs) (hz : ∀ v ∈ zs, (Lit.int .i64 v).wf = true) :
    ∀ (k i : Nat) (μ : AMem) (y : SV), i + k = min 14 zs.length → Same μ0 μ → OwnRow μ0.next μ .i64 3 y ((zs.take i).map (coefZ wild)) →
      ∃ y' μ', overdublaw06_coefs_L1 [.s x, .s (.bool wild)] [.s y, .s (.int .i64 i)] μ = some (.exit 0, [.s y'], μ') ∧ Same μ0 μ' ∧ OwnRow μ0.next μ' .i64 3 y' ((zs.take 14).map (coefZ wild))
  | 0, i, μ, y, h, hs, hy => by
    rw [overdublaw06_coefs_L1_eq, overdublaw06_coefs_L1_B_eq, (hx.same hs).len]
    rw [take_min (n := 14) (zs := zs) (i := i) (by omega)] at hy
    by_cases h1 : (i : Int) < (zs.length : Int)
    · simp (disch := omega) only [lt_t, lt_f, gt_t, gt_f, le_t, le_f, ge_t, ge_f, ne_t, ne_f, eq_t, eq_f, w64, chk_true, Option.bind_some, decide_true, decide_false, cond_true, cond_false, seqJ_n, seqJ_r, seqJ_e, headK_c, asB_bool, asI_int, asS_s, asN_int, extrK_0, extrK_1, extrK_2, Bool.not_true, Bool.not_false, Nat.beq_refl]
      exact ⟨y, μ, rfl, hs, hy⟩
    · simp (disch := omega) only [lt_t, lt_f, gt_t, gt_f, le_t, le_f, ge_t, ge_f, ne_t, ne_f, eq_t, eq_f, w64, chk_true, Option.bind_some, decide_true, decide_false, cond_true, cond_false, seqJ_n, seqJ_r, seqJ_e, headK_c, asB_bool, asI_int, asS_s, asN_int, extrK_0, extrK_1, extrK_2, Bool.not_true, Bool.not_false, Nat.beq_refl]
      exact ⟨y, μ, rfl, hs, hy⟩
  | k + 1, i, μ, y, h, hs, hy => by
    have hi : i < zs.length := by omega
    have hx1 := hx.same hs
    have hx8 := hx.same (bumpS hs 8)
    have hx10 := hx.same (bumpS hs 10)
    have hv := wf64 (hz _ (getD_mem hi))
    have hlen : ((zs.take i).map (coefZ wild)).length = i := by simp; omega
    have hsn := take_map_snoc (coefZ wild) hi
    rw [overdublaw06_coefs_L1_eq, overdublaw06_coefs_L1_B_eq, hx1.len]
    by_cases hc : wild = true ∧ Int.tmod (zs.getD i 0) 4 = 3
    · have e : coefZ wild (zs.getD i 0) = zs.getD i 0 := by unfold coefZ; rw [if_pos (by rw [hc.1, hc.2]; rfl)]
      obtain ⟨y', μ', p1, p2, p3⟩ := pushS (B := 8) (a := 5) (b := 6) (n := 8) (q := some 1) h0 hs hy (zs.getD i 0) (by omega) (by omega) (by omega) (by omega) (by omega)
      rw [← e, ← hsn] at p3
      obtain ⟨y2, μ2, q1, q2, q3⟩ := coefs_loop h0 hx hz k (i + 1) μ' y' (by omega) p2 p3
      rw [nsu] at q1
      obtain ⟨rfl, hc⟩ := hc
      refine ⟨y2, μ2, ?_, q2, q3⟩
      simp (disch := omega) only [lt_t, lt_f, gt_t, gt_f, le_t, le_f, ge_t, ge_f, ne_t, ne_f, eq_t, eq_f, w64, chk_true, Option.bind_some, decide_true, decide_false, cond_true, cond_false, seqJ_n, seqJ_r, seqJ_e, headK_c, asB_bool, asI_int, asS_s, asN_int, extrK_0, extrK_1, extrK_2, Bool.not_true, Bool.not_false, Nat.beq_refl, hx1.ind, hx1.load, hx8.ind, hx8.load, nat_toNat, p1]
      exact q1
    · have e : coefZ wild (zs.getD i 0) = zs.getD i 0 % 65536 - 32768 := by unfold coefZ; rw [if_neg (fun h => hc (by rw [Bool.and_eq_true, beq_iff_eq] at h; exact h))]
      obtain ⟨y', μ', p1, p2, p3⟩ := pushS (B := 8) (a := 7) (b := 8) (n := 10) (q := some 1) h0 hs hy (zs.getD i 0 % 65536 - 32768) (by omega) (by omega) (by omega) (by omega) (by omega)
      rw [← e, ← hsn] at p3
      obtain ⟨y2, μ2, q1, q2, q3⟩ := coefs_loop h0 hx hz k (i + 1) μ' y' (by omega) p2 p3
      rw [nsu] at q1
      refine ⟨y2, μ2, ?_, q2, q3⟩
      have hw := within_is (zs.getD i 0) 65536 hv (by omega) (by omega) (μ.bump 10)
      cases wild
      · simp (disch := omega) only [lt_t, lt_f, gt_t, gt_f, le_t, le_f, ge_t, ge_f, ne_t, ne_f, eq_t, eq_f, w64, chk_true, Option.bind_some, decide_true, decide_false, cond_true, cond_false, seqJ_n, seqJ_r, seqJ_e, headK_c, asB_bool, asI_int, asS_s, asN_int, extrK_0, extrK_1, extrK_2, Bool.not_true, Bool.not_false, Nat.beq_refl, hx10.ind, hx10.load, nat_toNat, hw, p1]
        exact q1
      · have hc' : ¬ Int.tmod (zs.getD i 0) 4 = 3 := fun h => hc ⟨rfl, h⟩
        simp (disch := omega) only [lt_t, lt_f, gt_t, gt_f, le_t, le_f, ge_t, ge_f, ne_t, ne_f, eq_t, eq_f, w64, chk_true, Option.bind_some, decide_true, decide_false, cond_true, cond_false, seqJ_n, seqJ_r, seqJ_e, headK_c, asB_bool, asI_int, asS_s, asN_int, extrK_0, extrK_1, extrK_2, Bool.not_true, Bool.not_false, Nat.beq_refl, hx1.ind, hx1.load, hx10.ind, hx10.load, nat_toNat, hw, p1]
        exact q1
theorem coefs_is {μ : AMem} (h0 : WF μ) {x : SV} {zs : List Int} (wild : Bool) (hx : IsRow μ .i64 x zs) (hz : ∀ v ∈ zs, (Lit.int .i64 v).wf = true) :
    ∃ y μ', overdublaw06_coefs [.s x, .s (.bool wild)] μ = some (.s y, μ') ∧ Same μ μ' ∧ OwnRow μ.next μ' .i64 3 y ((zs.take 14).map (coefZ wild)) := by
  obtain ⟨y, μ', h1, h2, h3⟩ := coefs_loop h0 (wild := wild) hx hz _ 0 μ .nilSlice (Nat.zero_add _) (Keep.refl h0) (OwnRow.nil _ _ _ _)
  rw [n0] at h1
  exact ⟨y, μ', by rw [overdublaw06_coefs_eq, h1]; simp (disch := omega) only [lt_t, lt_f, gt_t, gt_f, le_t, le_f, ge_t, ge_f, ne_t, ne_f, eq_t, eq_f, w64, chk_true, Option.bind_some, decide_true, decide_false, cond_true, cond_false, seqJ_n, seqJ_r, seqJ_e, headK_c, asB_bool, asI_int, asS_s, asN_int, extrK_0, extrK_1, extrK_2, Bool.not_true, Bool.not_false, Nat.beq_refl], h2, h3⟩
theorem coefZ_wf {wild : Bool} {v : Int} (h : (Lit.int .i64 v).wf = true) : -9223372036854775808 ≤ coefZ wild v ∧ coefZ wild v ≤ 9223372036854775807 := by
  have := wf64 h
  unfold coefZ; split <;> omega
end Go.Proofs.Ytbknenfbdhginaa
