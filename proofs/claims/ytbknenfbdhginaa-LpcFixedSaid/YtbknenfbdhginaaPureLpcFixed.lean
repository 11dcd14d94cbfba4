/- The plain answer of LpcFixed. -/
import Derived.Test.YtbknenfbdhginaaQRes
import Derived.Test.YtbknenfbdhginaaQFix
import Derived.Test.YtbknenfbdhginaaQWakes
import Derived.Test.YtbknenfbdhginaaKSamples
import Derived.Test.YtbknenfbdhginaaQBack
import Derived.Test.YtbknenfbdhginaaKSame
namespace Go.Proofs.Ytbknenfbdhginaa
open Go Go.Proofs.Ytbknenfbdhginaa.E
set_option linter.unusedVariables false
set_option linter.unusedSimpArgs false
theorem scaled_loop {μ0 : AMem} (h0 : WF μ0) {w x : SV} {p : Int} {zs : List Int} (hx : IsRow μ0 .i64 x zs) (hb : zs.length ≤ 1000000) (hz : ∀ v ∈ zs, -6 ≤ v ∧ v ≤ 6) :
    ∀ (k i : Nat) (μ : AMem) (y : SV), i + k = zs.length → Same μ0 μ → OwnRow μ0.next μ .i64 3 y ((zs.take i).map fun v => 4096 * v) →
      ∃ y' μ', overdublaw06_LpcFixed_L1 [.s w, .s (.int .i64 p), .s x, .s (.int .i64 zs.length)] [.s y, .s (.int .i64 i)] μ = some (.exit 0, [.s w, .s (.int .i64 p), .s x, .s y'], μ') ∧ Same μ0 μ' ∧ OwnRow μ0.next μ' .i64 3 y' (zs.map fun v => 4096 * v)
  | 0, i, μ, y, h, hs, hy => by
    rw [overdublaw06_LpcFixed_L1_eq, overdublaw06_LpcFixed_L1_B_eq]
    rw [List.take_of_length_le (by omega)] at hy
    simp (disch := omega) only [lt_t, lt_f, gt_t, gt_f, le_t, le_f, ge_t, ge_f, ne_t, ne_f, eq_t, eq_f, w64, chk_true, Option.bind_some, decide_true, decide_false, cond_true, cond_false, seqJ_n, seqJ_r, seqJ_e, headK_c, asB_bool, asI_int, asS_s, asN_int, extrK_0, extrK_1, extrK_2, Bool.not_true, Bool.not_false, Nat.beq_refl]
    exact ⟨y, μ, rfl, hs, hy⟩
  | k + 1, i, μ, y, h, hs, hy => by
    have hi : i < zs.length := by omega
    have hx2 := hx.same (bumpS hs 9)
    have hv := hz _ (getD_mem hi)
    have hlen : ((zs.take i).map fun v => 4096 * v).length = i := by simp; omega
    obtain ⟨y', μ', p1, p2, p3⟩ := pushS (B := 8) (a := 6) (b := 7) (n := 9) (q := some 1) h0 hs hy (4096 * zs.getD i 0) (by omega) (by omega) (by omega) (by omega) (by omega)
    rw [← take_map_snoc (fun v => 4096 * v) hi] at p3
    obtain ⟨y2, μ2, q1, q2, q3⟩ := scaled_loop (w := w) (p := p) h0 hx hb hz k (i + 1) μ' y' (by omega) p2 p3
    rw [nsu] at q1
    refine ⟨y2, μ2, ?_, q2, q3⟩
    rw [overdublaw06_LpcFixed_L1_eq, overdublaw06_LpcFixed_L1_B_eq]
    simp (disch := omega) only [lt_t, lt_f, gt_t, gt_f, le_t, le_f, ge_t, ge_f, ne_t, ne_f, eq_t, eq_f, w64, chk_true, Option.bind_some, decide_true, decide_false, cond_true, cond_false, seqJ_n, seqJ_r, seqJ_e, headK_c, asB_bool, asI_int, asS_s, asN_int, extrK_0, extrK_1, extrK_2, Bool.not_true, Bool.not_false, Nat.beq_refl, hx2.ind, hx2.load, nat_toNat, p1]
    exact q1
theorem getD_map4096 (cs : List Int) (i : Nat) : (cs.map fun v => 4096 * v).getD i 0 = 4096 * cs.getD i 0 := by
  rw [List.getD_eq_getElem?_getD, List.getD_eq_getElem?_getD, List.getElem?_map]
  cases cs[i]? <;> rfl
theorem gsum_scaled {zs cs : List Int} (hz : tame zs) (hc : ∀ v ∈ cs, -6 ≤ v ∧ v ≤ 6) : ∀ n : Nat, gsum zs (cs.map fun v => 4096 * v) n = 4096 * fsum zs cs n
  | 0 => rfl
  | n + 1 => by
    have ih := gsum_scaled hz hc n
    have h1 := getD_six hc n
    have h2 := getD_tame hz (zs.length - 1 - n)
    have hco : coefB (4096 * cs.getD n 0) = true := by unfold coefB; rw [decide_eq_true (by omega), decide_eq_true (by omega)]; rfl
    have hcu : cutZ (zs.getD (zs.length - 1 - n) 0) = zs.getD (zs.length - 1 - n) 0 := by unfold cutZ; rw [if_pos (by omega)]
    rw [gsum, fsum, ih]
    unfold gterm
    rw [getD_map4096, hco, if_pos rfl, hcu, Int.mul_add, Int.mul_assoc]
theorem guess_scaled {zs cs : List Int} (hz : tame zs) (hc : ∀ v ∈ cs, -6 ≤ v ∧ v ≤ 6) (h4 : cs.length ≤ 4) (hl : cs.length ≤ zs.length) : guessZ zs (cs.map fun v => 4096 * v) = fsum zs cs cs.length := by
  unfold guessZ
  rw [List.length_map, show min 12 (min zs.length cs.length) = cs.length by omega, gsum_scaled hz hc, Int.fdiv_eq_ediv_of_nonneg _ (by omega)]
  omega
theorem leftZ_congr {g h : List Int → Int} {n : Nat} {xs : List Int} (hgh : ∀ i, n ≤ i → i < xs.length → g (xs.take i) = h (xs.take i)) : leftZ g n xs = leftZ h n xs := by
  unfold leftZ
  apply List.map_congr_left
  intro i hi
  rw [List.mem_range'_1] at hi
  rw [hgh i (by omega) (by omega)]
theorem mayC_scaled {cs : List Int} (hc : ∀ v ∈ cs, -6 ≤ v ∧ v ≤ 6) (h1 : 1 ≤ cs.length) (h4 : cs.length ≤ 4) : mayC (cs.map fun v => 4096 * v) = true := by
  unfold mayC
  rw [List.length_map, decide_eq_true h1, decide_eq_true (show cs.length ≤ 12 by omega), List.all_eq_true.mpr]
  · rfl
  · intro v hv
    obtain ⟨u, hu, rfl⟩ := List.mem_map.mp hv
    have := hc u hu
    show coefB (4096 * u) = true
    unfold coefB; rw [decide_eq_true (by omega), decide_eq_true (by omega)]; rfl
theorem pureLpcFixed (x0 : Arg) (z0 : List Int) (s0 : Arg.isRow .i64 z0 x0) (w0 : ∀ n ∈ z0, (Lit.int .i64 n).wf = true) (y0 : z0.length * 8 ≤ 140737488351232) (a1 : Int) (w1 : (Lit.int .i64 a1).wf = true) :
    ∃ μ', overdublaw06_LpcFixed (argVals 0 [x0, .i .i64 a1]) (argMem [x0, .i .i64 a1]) = some (.s (.bool true), μ') := by
  obtain ⟨a, ha, hx⟩ := IsRow.arg (l := [x0, .i .i64 a1]) (j := 0) s0 rfl
  have hw := WF.args [x0, .i .i64 a1]
  show ∃ μ', overdublaw06_LpcFixed [x0.val 0, .s (.int .i64 a1)] _ = _
  rw [ha]
  generalize argMem [x0, .i .i64 a1] = μ at *
  have c64 : (((64 : Nat) : Int)) = 64 := rfl
  obtain ⟨X, m1, e1, k1, o1⟩ := samples_is hw 64 false hx w0 (by omega)
  rw [c64] at e1
  have e2 := within_is a1 4 (wf64 w1) (by omega) (by omega) m1
  have tx : tame ((z0.take 64).map (sampleZ false)) := samples_tame
  have lx : ((z0.take 64).map (sampleZ false)).length ≤ 64 := by simp; omega
  generalize ((z0.take 64).map (sampleZ false)) = xs at *
  obtain ⟨p, hpe, hp1, hp4⟩ : ∃ p, IntKind.wrap .i64 (1 + a1 % 4) = p ∧ 1 ≤ p ∧ p ≤ 4 := ⟨1 + a1 % 4, wr (by omega), by omega, by omega⟩
  have hlen := fixC_len (p := p) (by omega)
  have hsix := fixC_six p
  obtain ⟨C, m2, e3, k2, o2⟩ := fixCoef_is k1.wf p
  obtain ⟨D, m3, e4, k3, o3⟩ := scaled_loop (w := X) (p := p) k2.wf o2.row (by omega) hsix _ 0 m2 .nilSlice (Nat.zero_add _) (Keep.refl k2.wf) (OwnRow.nil _ _ _ _)
  rw [n0] at e4
  have hlD : ((fixC p).map fun v => 4096 * v).length = p.toNat := by rw [List.length_map, hlen]
  obtain ⟨l, m4, e5, k4, o4⟩ := lpcRes_is k3.wf (o1.row.same (k2.trans k3)) o3.row (by omega) (by omega)
  obtain ⟨r, m5, e6, k5, o5⟩ := fixRes_is k4.wf p (o1.row.same ((k2.trans k3).trans k4)) (by omega)
  have hE : resE xs ((fixC p).map fun v => 4096 * v) = fresE xs p := by
    unfold resE fresE
    rw [hlD, mayC_scaled hsix (by omega) (by omega)]
    by_cases h : p ≤ xs.length
    · rw [if_pos ⟨rfl, by omega⟩, if_pos (by omega)]
    · rw [if_neg (by omega), if_neg (by omega)]
  have hZ : resZ xs ((fixC p).map fun v => 4096 * v) = fresZ xs p := by
    unfold resZ fresZ
    rw [hE, hlD]
    split
    · apply leftZ_congr
      intro i h1 h2
      show guessZ _ _ = _
      rw [guess_scaled (tame_take tx i) hsix (by omega) (by simp; omega)]; rfl
    · rfl
  rw [hE] at e5
  rw [hZ] at o4
  have lz : (fresZ xs p).length ≤ 64 := by
    unfold fresZ; split
    · simp [leftZ]; omega
    · simp
  have e7 := same_is (o4.row.same k5) o5.row (by omega)
  rw [decide_eq_true rfl] at e7
  obtain ⟨μ', e8⟩ := wakes_is m5 k5.wf
  rw [overdublaw06_LpcFixed_eq]
  simp only [e1, e2, hpe, Option.bind_some, decide_true, decide_false, cond_true, cond_false, seqJ_n, seqJ_r, seqJ_e, headK_c, asB_bool, asI_int, asS_s, asN_int, extrK_0, extrK_1, extrK_2, Bool.not_true, Bool.not_false, Nat.beq_refl]
  have e9 : ((fixC p).length : Int) = p := by omega
  simp (disch := omega) only [lt_t, lt_f, gt_t, gt_f, le_t, le_f, ge_t, ge_f, ne_t, ne_f, eq_t, eq_f, w64, chk_true, Option.bind_some, decide_true, decide_false, cond_true, cond_false, seqJ_n, seqJ_r, seqJ_e, headK_c, asB_bool, asI_int, asS_s, asN_int, extrK_0, extrK_1, extrK_2, Bool.not_true, Bool.not_false, Nat.beq_refl, e3, o2.row.len, e4, e5, e6, e7, e8]
  exact ⟨_, rfl⟩
end Go.Proofs.Ytbknenfbdhginaa
