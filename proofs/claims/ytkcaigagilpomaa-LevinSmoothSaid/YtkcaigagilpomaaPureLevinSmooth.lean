/- The plain answer of LevinSmooth. -/
import Derived.Test.YtkcaigagilpomaaQLaws
import Derived.Test.YtkcaigagilpomaaKPush
import Derived.Test.YtkcaigagilpomaaQWakes
import Derived.Test.YtkcaigagilpomaaKWithin
import Derived.Test.YtkcaigagilpomaaKSame
namespace Go.Proofs.Ytkcaigagilpomaa
open Go Go.Proofs.Ytkcaigagilpomaa.E
set_option linter.unusedVariables false
set_option linter.unusedSimpArgs false
theorem smooth_loop {μ0 : AMem} (h0 : WF μ0) {v p : Int} {n : Nat} (hv : 1 ≤ v ∧ v ≤ 1000000) (hn : n ≤ 64) :
    ∀ (k i : Nat) (μ : AMem) (a b : SV), i + k = n → Same μ0 μ → OwnRow μ0.next μ .i64 3 a (List.replicate i v) → OwnRow μ0.next μ .i64 3 b (List.replicate i (-v)) → Apart a b →
      ∃ a' b' μ', overdublaw07_LevinSmooth_L1 [.s (.int .i64 v), .s (.int .i64 n), .s (.int .i64 p)] [.s a, .s b, .s (.int .i64 i)] μ = some (.exit 0, [.s (.int .i64 v), .s (.int .i64 n), .s (.int .i64 p), .s a', .s b'], μ') ∧ Same μ0 μ' ∧
        OwnRow μ0.next μ' .i64 3 a' (List.replicate n v) ∧ OwnRow μ0.next μ' .i64 3 b' (List.replicate n (-v))
  | 0, i, μ, a, b, h, hs, ha, hb, ab => by
    obtain rfl : i = n := by omega
    rw [overdublaw07_LevinSmooth_L1_eq, overdublaw07_LevinSmooth_L1_B_eq]
    simp -implicitDefEqProofs (disch := omega) only [lt_t, lt_f, gt_t, gt_f, le_t, le_f, ge_t, ge_f, ne_t, ne_f, eq_t, eq_f, w64, chk_true, Option.bind_some, decide_true, decide_false, cond_true, cond_false, seqJ_n, seqJ_r, seqJ_e, headK_c, asB_bool, asI_int, asS_s, asN_int, extrK_0, extrK_1, extrK_2, Bool.not_true, Bool.not_false, Nat.beq_refl]
    exact ⟨a, b, μ, rfl, hs, ha, hb⟩
  | k + 1, i, μ, a, b, h, hs, ha, hb, ab => by
    have hnx := hs.next
    have k11 := bumpS hs 11
    have fr := fun a => freshB hs.wf 11 a
    have up : ∀ {z : SV} {zs : List Int}, OwnRow μ0.next μ .i64 3 z zs → OwnRow μ0.next (μ.bump 11) .i64 3 z zs := fun h => h.old fun id o ho _ => ho
    obtain ⟨a', m1, p1, p2, p3, p4, p5, p6, p7⟩ := pushX (B := 8) (ra := μ.next + 2) (rb := μ.next + 3) (q := some 1) h0 k11 (up ha) v (by omega) (by simp; omega) (by omega) (by omega) (by simp) (by simp) (by omega) (fr 2) (fr 3)
    simp only [bump_next] at p4
    obtain ⟨hb', ab'⟩ := other (up hb) ab (fr 3) p5 p7
    obtain ⟨b', m2, q1, q2, q3, q4, q5, q6, q7⟩ := pushX (B := 8) (ra := μ.next + 7) (rb := μ.next + 8) (q := some 1) h0 p2 hb' (-v) (by omega) (by simp; omega) (by omega) (by omega) (by omega) (by omega) (by omega) (p6 _ (by omega) (by omega) (fr 7)) (p6 _ (by omega) (by omega) (fr 8))
    obtain ⟨ha2, ba2⟩ := other p3 ab'.symm (p6 _ (by omega) (by omega) (fr 8)) q5 q7
    rw [← List.replicate_succ'] at ha2 q3
    obtain ⟨a4, b4, m4, t1, t2, t3, t4⟩ := smooth_loop (p := p) h0 hv hn k (i + 1) m2 a' b' (by omega) q2 ha2 q3 ba2.symm
    rw [nsu] at t1
    have e2 : (0 : Int) - v = - v := by omega
    refine ⟨a4, b4, m4, ?_, t2, t3, t4⟩
    rw [overdublaw07_LevinSmooth_L1_eq, overdublaw07_LevinSmooth_L1_B_eq]
    simp -implicitDefEqProofs (disch := omega) only [lt_t, lt_f, gt_t, gt_f, le_t, le_f, ge_t, ge_f, ne_t, ne_f, eq_t, eq_f, w64, chk_true, Option.bind_some, decide_true, decide_false, cond_true, cond_false, seqJ_n, seqJ_r, seqJ_e, headK_c, asB_bool, asI_int, asS_s, asN_int, extrK_0, extrK_1, extrK_2, Bool.not_true, Bool.not_false, Nat.beq_refl, e2, p1, q1]
    exact t1
theorem getD_rep {n i : Nat} (v : Int) (h : i < n) : (List.replicate n v).getD i 0 = v := by
  rw [List.getD_eq_getElem?_getD, List.getElem?_replicate, if_pos h]; rfl
theorem asum_rep (n : Nat) (v : Int) (k : Nat) : ∀ m, k + m ≤ n → asum (List.replicate n v) k m = v * v * m
  | 0, _ => by simp [asum]
  | m + 1, h => by
    rw [asum, asum_rep n v k m (by omega), getD_rep v (by omega), getD_rep v (by omega)]
    grind
theorem auto_rep {n : Nat} {v p : Int} (hv : -1000000 ≤ v ∧ v ≤ 1000000) (hn : n ≤ 64) (hp : 0 ≤ p ∧ p ≤ 12) (hpn : p ≤ n) : autoE (List.replicate n v) p = 0 ∧ autoZ (List.replicate n v) p = (List.range (p.toNat + 1)).map fun k => v * v * ((n - k : Nat) : Int) := by
  have ht : ∀ u ∈ List.replicate n v, -8388608 ≤ u ∧ u ≤ 8388607 := fun u hu => by rw [(List.mem_replicate.mp hu).2]; omega
  obtain ⟨h1, h2⟩ := auto_tame (p := p) ht (by simp; omega) hp
  refine ⟨h1, h2.trans ?_⟩
  apply List.map_congr_left
  intro k hk
  rw [List.mem_range] at hk
  unfold dotZ
  rw [List.length_replicate, asum_rep n v k _ (by omega)]
theorem check_loop2 {μ : AMem} {a b x : SV} {v : Int} {n : Nat} {zs : List Int} (hv : 1 ≤ v * v ∧ v * v ≤ 1000000000000) (hn : n ≤ 64) (hx : IsRow μ .i64 x zs) (hl : zs.length ≤ 13) (hln : zs.length ≤ n) (hz : ∀ i, i < zs.length → zs.getD i 0 = v * v * ((n - i : Nat) : Int)) :
    ∀ k i : Nat, i + k = zs.length → overdublaw07_LevinSmooth_L2 [.s (.int .i64 v), .s (.int .i64 n), .s a, .s b, .s x, .s (.int .i64 zs.length)] [.s (.int .i64 i)] μ = some (.exit 2, [.s a, .s b], μ)
  | 0, i, h => by
    rw [overdublaw07_LevinSmooth_L2_eq, overdublaw07_LevinSmooth_L2_B_eq]
    simp -implicitDefEqProofs (disch := omega) only [lt_t, lt_f, gt_t, gt_f, le_t, le_f, ge_t, ge_f, ne_t, ne_f, eq_t, eq_f, w64, chk_true, Option.bind_some, decide_true, decide_false, cond_true, cond_false, seqJ_n, seqJ_r, seqJ_e, headK_c, asB_bool, asI_int, asS_s, asN_int, extrK_0, extrK_1, extrK_2, Bool.not_true, Bool.not_false, Nat.beq_refl]
  | k + 1, i, h => by
    have ih := check_loop2 (a := a) (b := b) hv hn hx hl hln hz k (i + 1) (by omega)
    rw [nsu] at ih
    have hzi := hz i (by omega)
    have e1 : IntKind.wrap .i64 (v * v) = v * v := wr (by omega)
    have e2 : IntKind.wrap .i64 ((n : Int) - (i : Int)) = ((n - i : Nat) : Int) := by rw [wr (by omega)]; omega
    have e3 := prod_le (a := v * v) (b := ((n - i : Nat) : Int)) (A := 1000000000000) (B := 64) (by omega) (by omega) (by omega) (by omega)
    have e4 : IntKind.wrap .i64 (v * v * ((n - i : Nat) : Int)) = v * v * ((n - i : Nat) : Int) := wr (by omega)
    have e5 : (v * v * ((n - i : Nat) : Int) != v * v * ((n - i : Nat) : Int)) = false := by simp
    have e6 : IntKind.wrap .i64 ((i : Int) + 1) = (i : Int) + 1 := wr (by omega)
    have h1 : (i : Int) < (zs.length : Int) := by omega
    have hix := fun {R : Type} (K : AV → Option R) => hx.ind (i := (i : Int)) (by omega) (by omega) K
    have hlx := fun {R : Type} (K : AV → Option R) => hx.load (i := (i : Int)) (by omega) (by omega) K
    rw [nat_toNat, hzi] at hlx
    rw [overdublaw07_LevinSmooth_L2_eq, overdublaw07_LevinSmooth_L2_B_eq]
    simp -implicitDefEqProofs only [lt_t h1, hix, hlx, e1, e2, e4, e5, e6, Option.bind_some, decide_true, decide_false, cond_true, cond_false, seqJ_n, seqJ_r, seqJ_e, headK_c, asB_bool, asI_int, asS_s, asN_int, extrK_0, extrK_1, extrK_2, Bool.not_true, Bool.not_false, Nat.beq_refl]
    exact ih
theorem smooth_k {V : Int} {n : Nat} (hV : 1 ≤ V ∧ V ≤ 1000000000000) (hn : 20 ≤ n ∧ n ≤ 64) :
    1 ≤ V * n / 2 ^ scaleS (V * n) ∧ 3800 < clampZ (w6 (V * ((n - 1 : Nat) : Int) / 2 ^ scaleS (V * n) * 4096) / (V * n / 2 ^ scaleS (V * n))) := by
  have hT1 : V * 20 ≤ V * n := Int.mul_le_mul_of_nonneg_left (by omega) (by omega)
  have hT2 := prod_le (a := V) (b := (n : Int)) (A := 1000000000000) (B := 64) (by omega) (by omega) (by omega) (by omega)
  have hT3 : V * ((n - 1 : Nat) : Int) = V * n - V := by rw [show ((n - 1 : Nat) : Int) = (n : Int) - 1 by omega]; grind
  rw [hT3]
  obtain ⟨c1, c2⟩ := scale_spec (r := V * n) (by omega) (by omega)
  generalize V * (n : Int) = T at *
  have hp : (0 : Int) < 2 ^ scaleS T := Int.pow_pos (by omega)
  have c3 : scaleS T = 0 ∨ (T / 2 ^ scaleS T ≥ 536870912 ∧ T ≥ 536870912 * 2 ^ scaleS T) := by
    rcases c2 with h | ⟨h1, h2⟩
    · exact .inl h
    · rcases Nat.eq_zero_or_pos (scaleS T) with h3 | h3
      · exact .inl h3
      · obtain ⟨t, ht⟩ : ∃ t, scaleS T = t + 1 := ⟨scaleS T - 1, by omega⟩
        refine .inr ⟨h1, ?_⟩
        rw [ht, show t + 1 - 1 = t by omega] at h2
        rw [ht, Int.pow_succ]
        omega
  have c4 : scaleS T = 0 → (2 : Int) ^ scaleS T = 1 := fun h => by rw [h]; rfl
  generalize hP : (2 : Int) ^ scaleS T = P at *
  have d1 := Int.mul_ediv_add_emod T P
  have d2 := Int.emod_nonneg T (show ¬ P = 0 by omega)
  have d3 := Int.emod_lt_of_pos T hp
  have d4 := Int.mul_ediv_add_emod (T - V) P
  have d5 := Int.emod_nonneg (T - V) (show ¬ P = 0 by omega)
  have d6 := Int.emod_lt_of_pos (T - V) hp
  have d7 : (T - V) / P ≤ T / P := Int.ediv_le_ediv hp (by omega)
  have d8 : 0 ≤ (T - V) / P := Int.ediv_nonneg (by omega) (by omega)
  have d9 : 1 ≤ T / P := by
    rcases c3 with h | h
    · have := c4 h
      rw [this]; simp; omega
    · omega
  generalize hR0 : T / P = R0 at *
  generalize hR1 : (T - V) / P = R1 at *
  refine ⟨d9, ?_⟩
  have e1 : w6 (R1 * 4096) = R1 * 4096 := wr (by omega)
  rw [e1]
  have key : 3801 * R0 ≤ R1 * 4096 := by
    apply Int.not_lt.mp
    intro hlt
    have h1 := Int.mul_le_mul_of_nonneg_left (show R1 * 4096 + 1 ≤ 3801 * R0 by omega) (show 0 ≤ P by omega)
    have h2 : P * (R1 * 4096 + 1) = 4096 * (P * R1) + P := by grind
    have h3 : P * (3801 * R0) = 3801 * (P * R0) := by grind
    rw [h2, h3] at h1
    rcases c3 with h | h
    · have := c4 h
      omega
    · omega
  have h4 : 3801 ≤ R1 * 4096 / R0 := (Int.le_ediv_iff_mul_le (by omega)).mpr key
  unfold clampZ
  split <;> (try split) <;> omega
theorem cf_rep {n : Nat} {v : Int} (hv : -1000000 ≤ v ∧ v ≤ 1000000) (hV : 1 ≤ v * v ∧ v * v ≤ 1000000000000) (hn : 20 ≤ n ∧ n ≤ 64) : ∃ k, cfZ (List.replicate n v) 1 = some [k] ∧ 3800 < k ∧ k ≤ 4095 := by
  have ht : ∀ u ∈ List.replicate n v, -8388608 ≤ u ∧ u ≤ 8388607 := fun u hu => by rw [(List.mem_replicate.mp hu).2]; omega
  have hok : cfOK (List.replicate n v) 1 := ⟨by omega, by omega, checkZ_tameA ht (by simp; omega), by simp; omega⟩
  have ha := (auto_rep (n := n) (v := v) (p := 1) hv (by omega) (by omega) (by omega)).2
  have ha' : autoZ (List.replicate n v) 1 = [v * v * (n : Int), v * v * ((n - 1 : Nat) : Int)] := ha
  obtain ⟨k1, k2⟩ := smooth_k hV hn
  have hr : cfR (List.replicate n v) 1 = [v * v * (n : Int) / 2 ^ scaleS (v * v * (n : Int)), v * v * ((n - 1 : Nat) : Int) / 2 ^ scaleS (v * v * (n : Int))] := by
    have hn := (cfR_of hok).1
    unfold cfR scaledZ scaledE
    rw [hn]
    simp only [Bool.false_eq_true, if_false]
    rw [ha']; rfl
  refine ⟨clampZ (w6 (v * v * ((n - 1 : Nat) : Int) / 2 ^ scaleS (v * v * (n : Int)) * 4096) / (v * v * (n : Int) / 2 ^ scaleS (v * v * (n : Int)))), ?_, k2, (clampZ_le _).2⟩
  have hcl := clampZ_le (w6 (v * v * ((n - 1 : Nat) : Int) / 2 ^ scaleS (v * v * (n : Int)) * 4096) / (v * v * (n : Int) / 2 ^ scaleS (v * v * (n : Int))))
  unfold cfZ
  rw [if_pos hok, hr]
  generalize v * v * (n : Int) / 2 ^ scaleS (v * v * (n : Int)) = R0 at *
  generalize v * v * ((n - 1 : Nat) : Int) / 2 ^ scaleS (v * v * (n : Int)) = R1 at *
  have hc : coefL [R0, R1] (1 : Int).toNat 1 (([R0, R1] : List Int).getD 0 0) (List.replicate ((1 : Int).toNat + 1) 0) = some [0, clampZ (w6 (R1 * 4096) / R0)] := by
    show (if R0 < 1 then none else some ((List.replicate 2 (0 : Int)).set 1 (clampZ (w6 (R1 * 4096) / R0)))) = _
    rw [if_neg (by omega)]; rfl
  rw [hc]
  generalize clampZ (w6 (R1 * 4096) / R0) = k at *
  show (if ([k] : List Int).all coefB = true then some [k] else none) = _
  have hb : coefB k = true := by unfold coefB; rw [decide_eq_true (by omega), decide_eq_true (by omega)]; rfl
  rw [if_pos (by simp [hb])]
theorem pureLevinSmooth (a0 : Int) (w0 : (Lit.int .i64 a0).wf = true) (a1 : Int) (w1 : (Lit.int .i64 a1).wf = true) (a2 : Int) (w2 : (Lit.int .i64 a2).wf = true) :
    ∃ μ', overdublaw07_LevinSmooth (argVals 0 [.i .i64 a0, .i .i64 a1, .i .i64 a2]) (argMem [.i .i64 a0, .i .i64 a1, .i .i64 a2]) = some (.s (.bool true), μ') := by
  have hw := WF.args [.i .i64 a0, .i .i64 a1, .i .i64 a2]
  show ∃ μ', overdublaw07_LevinSmooth [.s (.int .i64 a0), .s (.int .i64 a1), .s (.int .i64 a2)] _ = _
  generalize argMem [.i .i64 a0, .i .i64 a1, .i .i64 a2] = μ at *
  have e1 := within_is a0 1000000 (wf64 w0) (by omega) (by omega) μ
  have e2 := within_is a1 44 (wf64 w1) (by omega) (by omega) μ
  have e3 := within_is a2 12 (wf64 w2) (by omega) (by omega) μ
  obtain ⟨v, hv, hv1⟩ : ∃ v, IntKind.wrap .i64 (1 + a0 % 1000000) = v ∧ 1 ≤ v ∧ v ≤ 1000000 := ⟨_, wr (by omega), by omega, by omega⟩
  obtain ⟨n, hn, hn1⟩ : ∃ n : Nat, IntKind.wrap .i64 (20 + a1 % 44) = (n : Int) ∧ 20 ≤ n ∧ n ≤ 64 := ⟨(20 + a1 % 44).toNat, by rw [wr (by omega)]; omega, by omega, by omega⟩
  obtain ⟨p, hp, hp1⟩ : ∃ p, IntKind.wrap .i64 (1 + a2 % 12) = p ∧ 1 ≤ p ∧ p ≤ 12 := ⟨_, wr (by omega), by omega, by omega⟩
  have hV : 1 ≤ v * v ∧ v * v ≤ 1000000000000 := by
    have h1 := Int.mul_le_mul hv1.1 hv1.1 (by omega) (by omega)
    have h2 := Int.mul_le_mul hv1.2 hv1.2 (by omega) (by omega)
    omega
  have hV' : 1 ≤ -v * -v ∧ -v * -v ≤ 1000000000000 := by rw [Int.neg_mul_neg]; exact hV
  obtain ⟨X, Y, m1, f1, k1, o1, o2⟩ := smooth_loop (p := p) hw hv1 hn1.2 n 0 μ .nilSlice .nilSlice (by omega) (Keep.refl hw) (OwnRow.nil _ _ _ _) (OwnRow.nil _ _ _ _) (apart_nil _)
  rw [n0] at f1
  obtain ⟨g1, g2⟩ := auto_rep (n := n) (v := v) (p := p) (by omega) hn1.2 (by omega) (by omega)
  obtain ⟨g3, g4⟩ := auto_rep (n := n) (v := -v) (p := p) (by omega) hn1.2 (by omega) (by omega)
  rw [Int.neg_mul_neg, ← g2] at g4
  obtain ⟨c, hc1, hc2, hc3⟩ := cf_rep (n := n) (v := v) (by omega) hV hn1
  have hcy : cfZ (List.replicate n (-v)) 1 = some [c] := by
    rw [← hc1]
    have tx : ∀ u ∈ List.replicate n v, -8388608 ≤ u ∧ u ≤ 8388607 := fun u hu => by rw [(List.mem_replicate.mp hu).2]; omega
    have ty : ∀ u ∈ List.replicate n (-v), -8388608 ≤ u ∧ u ≤ 8388607 := fun u hu => by rw [(List.mem_replicate.mp hu).2]; omega
    apply cfZ_congr
    · rw [checkZ_tameA tx (by simp; omega), checkZ_tameA ty (by simp; omega)]
    · simp
    · rw [(auto_rep (n := n) (v := -v) (p := 1) (by omega) hn1.2 (by omega) (by omega)).2, (auto_rep (n := n) (v := v) (p := 1) (by omega) hn1.2 (by omega) (by omega)).2, Int.neg_mul_neg]
  have lr : (List.replicate n v).length ≤ 64 := by simp; omega
  have lr2 : (List.replicate n (-v)).length ≤ 64 := by simp; omega
  have hpw : -9223372036854775808 ≤ p ∧ p ≤ 9223372036854775807 := by omega
  obtain ⟨r, m2, f2, k2, o3⟩ := auto_is k1.wf o1.row (by omega) hpw
  obtain ⟨s, m3, f3, k3, o4⟩ := auto_is k2.wf (o2.row.same k2) (by omega) hpw
  rw [g1] at f2
  rw [g3] at f3
  rw [g4] at o4
  have lau : (autoZ (List.replicate n v) p).length = p.toNat + 1 := by rw [g2]; simp
  have f4 := same_is (o3.row.same k3) o4.row (by omega)
  rw [decide_eq_true rfl] at f4
  have hz : ∀ i, i < (autoZ (List.replicate n v) p).length → (autoZ (List.replicate n v) p).getD i 0 = v * v * ((n - i : Nat) : Int) := by
    intro i hi
    rw [lau] at hi
    rw [g2, List.getD_eq_getElem?_getD, List.getElem?_map, List.getElem?_range (by omega)]; rfl
  have f5 := check_loop2 (a := X) (b := Y) (v := v) (n := n) hV hn1.2 (o3.row.same k3) (by omega) (by omega) hz _ 0 (Nat.zero_add _)
  rw [n0] at f5
  obtain ⟨A, m4, f6, k4, o6⟩ := levin_is k3.wf (o1.row.same (k2.trans k3)) (by omega) (p := 1) (by omega)
  obtain ⟨B, m5, f7, k5, o7⟩ := levin_is k4.wf (o2.row.same ((k2.trans k3).trans k4)) (by omega) (p := 1) (by omega)
  rw [hc1] at f6 o6
  rw [hcy] at f7 o7
  have o6' := o6.same k5
  have f8 := same_is o6' o7 (by simp [cfRow])
  rw [decide_eq_true rfl] at f8
  have hsm : (some [c] : Option (List Int)).isSome = true := rfl
  have hlA := o6'.len
  have hi0 := fun {R : Type} (K : AV → Option R) => o6'.ind (i := 0) (by omega) (by simp [cfRow]) K
  have hl0 := fun {R : Type} (K : AV → Option R) => o6'.load (i := 0) (by omega) (by simp [cfRow]) K
  have hcr : (cfRow (some [c])).getD (0 : Int).toNat 0 = c := rfl
  have hcl : ((cfRow (some [c])).length : Int) = 1 := rfl
  rw [hcr] at hl0
  obtain ⟨μ', f9⟩ := wakes_is m5 k5.wf
  have ne00 : ((0 : Int) != 0) = false := rfl
  have t1 : ((1 : Int) == 1) = true := rfl
  have hlr := (o3.row.same k3).len
  have q1 := ne_f (a := ((autoZ (List.replicate n v) p).length : Int)) (b := IntKind.wrap .i64 (p + 1)) (by rw [wr (by omega)]; omega)
  have q2 := gt_t (a := c) (b := 3800) (by omega)
  have q3 := le_t (a := c) (b := 4095) (by omega)
  rw [overdublaw07_LevinSmooth_eq]
  simp -implicitDefEqProofs only [e1, e2, e3, hv, hn, hp, f1, f2, f3, ne00, f4, hlr, q1, f5, f6, f7, hsm, f8, hlA, hcl, t1, hi0, hl0, q2, q3, f9, Option.bind_some, decide_true, decide_false, cond_true, cond_false, seqJ_n, seqJ_r, seqJ_e, headK_c, asB_bool, asI_int, asS_s, asN_int, extrK_0, extrK_1, extrK_2, Bool.not_true, Bool.not_false, Nat.beq_refl]
  exact ⟨_, rfl⟩
end Go.Proofs.Ytkcaigagilpomaa
