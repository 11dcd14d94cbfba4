/- The plain answer of LevinSigns. -/
import Derived.Test.YtkcaigagilpomaaQLaws
import Derived.Test.YtkcaigagilpomaaKPush
import Derived.Test.YtkcaigagilpomaaQWakes
import Derived.Test.YtkcaigagilpomaaKSamples
import Derived.Test.YtkcaigagilpomaaKSame
import Derived.Test.YtkcaigagilpomaaPureLevinCoefs
namespace Go.Proofs.Ytkcaigagilpomaa
open Go Go.Proofs.Ytkcaigagilpomaa.E
set_option linter.unusedVariables false
set_option linter.unusedSimpArgs false
theorem signs_loop {μ0 : AMem} (h0 : WF μ0) {x : SV} {xs : List Int} {p : Int} (hx : IsRow μ0 .i64 x xs) (hl : xs.length ≤ 64) (tx : ∀ v ∈ xs, -8388608 ≤ v ∧ v ≤ 8388607) :
    ∀ (k i : Nat) (μ : AMem) (a b : SV) (as' bs : List Int), i + k = xs.length → as'.length = i → bs.length = i → Same μ0 μ → OwnRow μ0.next μ .i64 3 a as' → OwnRow μ0.next μ .i64 3 b bs → Apart a b →
      (∃ μ', overdublaw07_LevinSigns_L1 [.s x, .s (.int .i64 p), .s (.int .i64 xs.length)] [.s a, .s b, .s (.int .i64 i)] μ = some (.ret, [.s (.bool true)], μ')) ∨
      ∃ a' b' μ', overdublaw07_LevinSigns_L1 [.s x, .s (.int .i64 p), .s (.int .i64 xs.length)] [.s a, .s b, .s (.int .i64 i)] μ = some (.exit 0, [.s x, .s (.int .i64 p), .s a', .s b'], μ') ∧ Same μ0 μ' ∧
        OwnRow μ0.next μ' .i64 3 a' (as' ++ (List.range' i k).map fun j => - xs.getD j 0) ∧ OwnRow μ0.next μ' .i64 3 b' (bs ++ (List.range' i k).map fun j => xs.getD (xs.length - 1 - j) 0) ∧ ∀ j, i ≤ j → j < i + k → ¬ xs.getD j 0 = -8388608
  | 0, i, μ, a, b, as', bs, h, la, lb, hs, ha, hb, ab => by
    rw [overdublaw07_LevinSigns_L1_eq, overdublaw07_LevinSigns_L1_B_eq]
    have e0 : ∀ f : Nat → Int, (List.range' i 0).map f = [] := fun f => rfl
    rw [e0, e0, List.append_nil, List.append_nil]
    simp -implicitDefEqProofs (disch := omega) only [lt_t, lt_f, gt_t, gt_f, le_t, le_f, ge_t, ge_f, ne_t, ne_f, eq_t, eq_f, w64, chk_true, Option.bind_some, decide_true, decide_false, cond_true, cond_false, seqJ_n, seqJ_r, seqJ_e, headK_c, asB_bool, asI_int, asS_s, asN_int, extrK_0, extrK_1, extrK_2, Bool.not_true, Bool.not_false, Nat.beq_refl]
    exact .inr ⟨a, b, μ, rfl, hs, ha, hb, fun j h1 h2 => by omega⟩
  | k + 1, i, μ, a, b, as', bs, h, la, lb, hs, ha, hb, ab => by
    have hi1 : i < xs.length := by omega
    have hx1 := hx.same hs
    rw [overdublaw07_LevinSigns_L1_eq, overdublaw07_LevinSigns_L1_B_eq]
    by_cases c1 : xs.getD i 0 = -8388608
    · obtain ⟨μ', hw⟩ := wakes_is μ hs.wf
      refine .inl ⟨μ', ?_⟩
      simp -implicitDefEqProofs (disch := omega) only [lt_t, lt_f, gt_t, gt_f, le_t, le_f, ge_t, ge_f, ne_t, ne_f, eq_t, eq_f, w64, chk_true, Option.bind_some, decide_true, decide_false, cond_true, cond_false, seqJ_n, seqJ_r, seqJ_e, headK_c, asB_bool, asI_int, asS_s, asN_int, extrK_0, extrK_1, extrK_2, Bool.not_true, Bool.not_false, Nat.beq_refl, hx1.ind, hx1.load, nat_toNat, hw]
    · have hnx := hs.next
      have hv := tx _ (getD_mem hi1)
      have k17 := bumpS hs 17
      have hx17 := hx.same k17
      have fr := fun a => freshB hs.wf 17 a
      have up : ∀ {z : SV} {zs : List Int}, OwnRow μ0.next μ .i64 3 z zs → OwnRow μ0.next (μ.bump 17) .i64 3 z zs := fun h => h.old fun id o ho _ => ho
      obtain ⟨a', m1, p1, p2, p3, p4, p5, p6, p7⟩ := pushX (B := 8) (ra := μ.next + 2) (rb := μ.next + 3) (q := some 1) h0 k17 (up ha) (- xs.getD i 0) (by omega) (by omega) (by omega) (by omega) (by simp) (by simp) (by omega) (fr 2) (fr 3)
      simp only [bump_next] at p4
      obtain ⟨hb', ab'⟩ := other (up hb) ab (fr 3) p5 p7
      have hf13 : m1.obj (μ.next + 13) = none := p6 _ (by omega) (by omega) (fr 13)
      have hf14 : m1.obj (μ.next + 14) = none := p6 _ (by omega) (by omega) (fr 14)
      obtain ⟨b', m2, q1, q2, q3, q4, q5, q6, q7⟩ := pushX (B := 8) (ra := μ.next + 13) (rb := μ.next + 14) (q := some 1) h0 p2 hb' (xs.getD (xs.length - 1 - i) 0) (by omega) (by omega) (by omega) (by omega) (by omega) (by omega) (by omega) hf13 hf14
      obtain ⟨ha2, ba2⟩ := other p3 ab'.symm hf14 q5 q7
      have hx2 := hx.same p2
      have e1 : (((xs.length : Nat) : Int) - 1 - (i : Int)).toNat = xs.length - 1 - i := by omega
      have ih := signs_loop (p := p) h0 hx hl tx k (i + 1) m2 a' b' _ _ (by omega) (by simp; omega) (by simp; omega) q2 ha2 q3 ba2.symm
      rw [nsu] at ih
      have e2 : (0 : Int) - xs.getD i 0 = - xs.getD i 0 := by omega
      rcases ih with ⟨μ', t1⟩ | ⟨a4, b4, m4, t1, t2, t3, t4, t5⟩
      · refine .inl ⟨μ', ?_⟩
        simp -implicitDefEqProofs (disch := omega) only [lt_t, lt_f, gt_t, gt_f, le_t, le_f, ge_t, ge_f, ne_t, ne_f, eq_t, eq_f, w64, chk_true, Option.bind_some, decide_true, decide_false, cond_true, cond_false, seqJ_n, seqJ_r, seqJ_e, headK_c, asB_bool, asI_int, asS_s, asN_int, extrK_0, extrK_1, extrK_2, Bool.not_true, Bool.not_false, Nat.beq_refl, hx1.ind, hx1.load, hx17.load, hx2.load, hx1.len, nat_toNat, e1, fr, e2, p1, hf13, q1]
        exact t1
      · rw [List.append_assoc] at t3 t4
        refine .inr ⟨a4, b4, m4, ?_, t2, t3, t4, fun j h1 h2 => ?_⟩
        · simp -implicitDefEqProofs (disch := omega) only [lt_t, lt_f, gt_t, gt_f, le_t, le_f, ge_t, ge_f, ne_t, ne_f, eq_t, eq_f, w64, chk_true, Option.bind_some, decide_true, decide_false, cond_true, cond_false, seqJ_n, seqJ_r, seqJ_e, headK_c, asB_bool, asI_int, asS_s, asN_int, extrK_0, extrK_1, extrK_2, Bool.not_true, Bool.not_false, Nat.beq_refl, hx1.ind, hx1.load, hx17.load, hx2.load, hx1.len, nat_toNat, e1, fr, e2, p1, hf13, q1]
          exact t1
        · by_cases hj : j = i
          · rw [hj]; exact c1
          · exact t5 j (by omega) (by omega)
theorem getD_range (f : Nat → Int) {n i : Nat} (h : i < n) : ((List.range' 0 n).map f).getD i 0 = f i := by
  rw [List.getD_eq_getElem?_getD, List.getElem?_map, List.getElem?_range' h]
  simp
theorem pureLevinSigns (x0 : Arg) (z0 : List Int) (s0 : Arg.isRow .i64 z0 x0) (w0 : ∀ n ∈ z0, (Lit.int .i64 n).wf = true) (y0 : z0.length * 8 ≤ 140737488351232) (a1 : Int) (w1 : (Lit.int .i64 a1).wf = true) :
    ∃ μ', overdublaw07_LevinSigns (argVals 0 [x0, .i .i64 a1]) (argMem [x0, .i .i64 a1]) = some (.s (.bool true), μ') := by
  obtain ⟨a, ha, hx⟩ := IsRow.arg (l := [x0, .i .i64 a1]) (j := 0) s0 rfl
  have hw := WF.args [x0, .i .i64 a1]
  show ∃ μ', overdublaw07_LevinSigns [x0.val 0, .s (.int .i64 a1)] _ = _
  rw [ha]
  generalize argMem [x0, .i .i64 a1] = μ at *
  have c64 : (((64 : Nat) : Int)) = 64 := rfl
  obtain ⟨X, m1, e1, k1, o1⟩ := samples_is hw 64 false hx w0 (by omega)
  rw [c64] at e1
  have e2 := within_is a1 12 (wf64 w1) (by omega) (by omega) m1
  obtain ⟨p, hp, hp1⟩ : ∃ p, IntKind.wrap .i64 (1 + a1 % 12) = p ∧ 1 ≤ p ∧ p ≤ 12 := ⟨_, wr (by omega), by omega, by omega⟩
  have tx : ∀ v ∈ (z0.take 64).map (sampleZ false), -8388608 ≤ v ∧ v ≤ 8388607 := by
    intro v hv
    obtain ⟨u, _, rfl⟩ := List.mem_map.mp hv
    exact sampleZ_tame u
  have lx : ((z0.take 64).map (sampleZ false)).length ≤ 64 := by simp; omega
  generalize ((z0.take 64).map (sampleZ false)) = xs at *
  rw [overdublaw07_LevinSigns_eq]
  rcases signs_loop (p := p) k1.wf o1.row lx tx xs.length 0 m1 .nilSlice .nilSlice [] [] (by omega) rfl rfl (Keep.refl k1.wf) (OwnRow.nil _ _ _ _) (OwnRow.nil _ _ _ _) (apart_nil _) with ⟨μ', t1⟩ | ⟨Y, Z, m2, t1, k2, oy, oz, hne⟩
  · rw [n0] at t1
    simp -implicitDefEqProofs only [e1, e2, hp, o1.row.len, t1, Option.bind_some, decide_true, decide_false, cond_true, cond_false, seqJ_n, seqJ_r, seqJ_e, headK_c, asB_bool, asI_int, asS_s, asN_int, extrK_0, extrK_1, extrK_2, Bool.not_true, Bool.not_false, Nat.beq_refl]
    exact ⟨_, rfl⟩
  · rw [n0] at t1
    rw [List.nil_append] at oy oz
    have gy : ∀ i, ((List.range' 0 xs.length).map fun j => - xs.getD j 0).getD i 0 = - xs.getD i 0 := by
      intro i
      rcases Nat.lt_or_ge i xs.length with h | h
      · rw [getD_range _ h]
      · rw [List.getD_eq_getElem?_getD, List.getElem?_eq_none (by simp; omega), List.getD_eq_getElem?_getD, List.getElem?_eq_none h]; rfl
    have gz : ∀ i, i < xs.length → ((List.range' 0 xs.length).map fun j => xs.getD (xs.length - 1 - j) 0).getD i 0 = xs.getD (xs.length - 1 - i) 0 := fun i h => getD_range _ h
    have ly : ((List.range' 0 xs.length).map fun j => - xs.getD j 0).length = xs.length := by simp
    have lz : ((List.range' 0 xs.length).map fun j => xs.getD (xs.length - 1 - j) 0).length = xs.length := by simp
    have ty : ∀ v ∈ (List.range' 0 xs.length).map fun j => - xs.getD j 0, -8388608 ≤ v ∧ v ≤ 8388607 := by
      intro v hv
      obtain ⟨j, hj, rfl⟩ := List.mem_map.mp hv
      rw [List.mem_range'_1] at hj
      have h1 := tx _ (getD_mem (zs := xs) (i := j) (by omega))
      have h2 := hne j (by omega) (by omega)
      show -8388608 ≤ - xs.getD j 0 ∧ - xs.getD j 0 ≤ 8388607
      omega
    have tz : ∀ v ∈ (List.range' 0 xs.length).map fun j => xs.getD (xs.length - 1 - j) 0, -8388608 ≤ v ∧ v ≤ 8388607 := by
      intro v hv
      obtain ⟨j, hj, rfl⟩ := List.mem_map.mp hv
      rw [List.mem_range'_1] at hj
      exact tx _ (getD_mem (zs := xs) (i := xs.length - 1 - j) (by omega))
    generalize ((List.range' 0 xs.length).map fun j => - xs.getD j 0) = ys at *
    generalize ((List.range' 0 xs.length).map fun j => xs.getD (xs.length - 1 - j) 0) = zs at *
    obtain ⟨ax1, ax2⟩ := auto_tame (p := p) tx lx (by omega)
    obtain ⟨ay1, ay2⟩ := auto_tame (p := p) ty (by omega) (by omega)
    obtain ⟨az1, az2⟩ := auto_tame (p := p) tz (by omega) (by omega)
    have hyx : autoZ ys p = autoZ xs p := by
      rw [ax2, ay2]
      apply List.map_congr_left
      intro k _
      unfold dotZ; rw [ly, asum_neg gy]
    have hzx : autoZ zs p = autoZ xs p := by
      rw [ax2, az2]
      apply List.map_congr_left
      intro k _
      exact dot_back lz gz k
    have cyx : cfZ ys p = cfZ xs p := cfZ_congr (by rw [checkZ_tameA ty (by omega), checkZ_tameA tx lx]) ly hyx
    have czx : cfZ zs p = cfZ xs p := cfZ_congr (by rw [checkZ_tameA tz (by omega), checkZ_tameA tx lx]) lz hzx
    have hpw : -9223372036854775808 ≤ p ∧ p ≤ 9223372036854775807 := by omega
    obtain ⟨r, m3, f3, k3, o3⟩ := auto_is k2.wf (o1.row.same k2) (by omega) hpw
    obtain ⟨s, m4, f4, k4, o4⟩ := auto_is k3.wf (oy.row.same k3) (by omega) hpw
    obtain ⟨t, m5, f5, k5, o5⟩ := auto_is k4.wf ((oz.row.same k3).same k4) (by omega) hpw
    have k35 := (k3.trans k4).trans k5
    obtain ⟨A, m6, f6, k6, o6⟩ := levin_is k5.wf ((o1.row.same k2).same k35) (by omega) hpw
    obtain ⟨B, m7, f7, k7, o7⟩ := levin_is k6.wf ((oy.row.same k35).same k6) (by omega) hpw
    obtain ⟨C, m8, f8, k8, o8⟩ := levin_is k7.wf ((oz.row.same k35).same (k6.trans k7)) (by omega) hpw
    rw [ax1] at f3
    rw [ay1] at f4
    rw [az1] at f5
    rw [hyx] at o4
    rw [hzx] at o5
    rw [cyx] at f7 o7
    rw [czx] at f8 o8
    have lau : (autoZ xs p).length = p.toNat + 1 := by rw [ax2]; simp
    have k68 := (k6.trans k7).trans k8
    have g1 := same_is (((o3.row.same k4).same k5).same k68) ((o4.row.same k5).same k68) (by omega)
    have g2 := same_is (((o3.row.same k4).same k5).same k68) (o5.row.same k68) (by omega)
    have lcf := cfZ_len xs p
    have g3 := same_is ((o6.same k7).same k8) (o7.same k8) (by omega)
    have g4 := same_is ((o6.same k7).same k8) o8 (by omega)
    rw [decide_eq_true rfl] at g1 g2 g3 g4
    have hl1 := (((o3.row.same k4).same k5).same k68).len
    rw [lau] at hl1
    have q1 := eq_t (a := ((p.toNat + 1 : Nat) : Int)) (b := IntKind.wrap .i64 (p + 1)) (by rw [wr (by omega)]; omega)
    have hbb : ((cfZ xs p).isSome == (cfZ xs p).isSome) = true := by simp
    have t0 : ((0 : Int) == 0) = true := rfl
    obtain ⟨μ', f9⟩ := wakes_is m8 k8.wf
    simp -implicitDefEqProofs only [e1, e2, hp, o1.row.len, t1, f3, f4, f5, f6, f7, f8, t0, hl1, q1, g1, g2, g3, g4, hbb, f9, Option.bind_some, decide_true, decide_false, cond_true, cond_false, seqJ_n, seqJ_r, seqJ_e, headK_c, asB_bool, asI_int, asS_s, asN_int, extrK_0, extrK_1, extrK_2, Bool.not_true, Bool.not_false, Nat.beq_refl]
    exact ⟨_, rfl⟩
end Go.Proofs.Ytkcaigagilpomaa
