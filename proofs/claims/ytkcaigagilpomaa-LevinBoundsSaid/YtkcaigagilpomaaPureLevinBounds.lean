/- The plain answer of LevinBounds. -/
import Derived.Test.YtkcaigagilpomaaQLaws
import Derived.Test.YtkcaigagilpomaaQWakes
import Derived.Test.YtkcaigagilpomaaKWithin
import Derived.Test.YtkcaigagilpomaaKSame
namespace Go.Proofs.Ytkcaigagilpomaa
open Go Go.Proofs.Ytkcaigagilpomaa.E
set_option linter.unusedVariables false
set_option linter.unusedSimpArgs false
theorem bounds_loop {μ0 : AMem} (h0 : WF μ0) {x : SV} {zs : List Int} {B : Int} (hB : 0 ≤ B ∧ B ≤ 288230376151711744) (hx : IsRow μ0 .i64 x zs) (hz : ∀ v ∈ zs, (Lit.int .i64 v).wf = true) :
    ∀ (k i : Nat) (μ : AMem) (y : SV) (ws : List Int), i + k = min 12 zs.length → ws.length ≤ i + 1 → Same μ0 μ → OwnRow μ0.next μ .i64 3 y ws →
      ∃ y' μ', overdublaw07_LevinBounds_L1 [.s x, .s (.int .i64 B)] [.s y, .s (.int .i64 i)] μ = some (.exit 0, [.s y'], μ') ∧ Same μ0 μ' ∧ OwnRow μ0.next μ' .i64 3 y' (ws ++ (List.range' i k).map fun j => zs.getD j 0 % (2 * B + 1) - B)
  | 0, i, μ, y, ws, h, hl, hs, hy => by
    rw [overdublaw07_LevinBounds_L1_eq, overdublaw07_LevinBounds_L1_B_eq, (hx.same hs).len]
    have e0 : ∀ f : Nat → Int, (List.range' i 0).map f = [] := fun f => rfl
    rw [e0, List.append_nil]
    by_cases h1 : (i : Int) < (zs.length : Int)
    · simp -implicitDefEqProofs (disch := omega) only [lt_t, lt_f, gt_t, gt_f, le_t, le_f, ge_t, ge_f, ne_t, ne_f, eq_t, eq_f, w64, chk_true, Option.bind_some, decide_true, decide_false, cond_true, cond_false, seqJ_n, seqJ_r, seqJ_e, headK_c, asB_bool, asI_int, asS_s, asN_int, extrK_0, extrK_1, extrK_2, Bool.not_true, Bool.not_false, Nat.beq_refl]
      exact ⟨y, μ, rfl, hs, hy⟩
    · simp -implicitDefEqProofs (disch := omega) only [lt_t, lt_f, gt_t, gt_f, le_t, le_f, ge_t, ge_f, ne_t, ne_f, eq_t, eq_f, w64, chk_true, Option.bind_some, decide_true, decide_false, cond_true, cond_false, seqJ_n, seqJ_r, seqJ_e, headK_c, asB_bool, asI_int, asS_s, asN_int, extrK_0, extrK_1, extrK_2, Bool.not_true, Bool.not_false, Nat.beq_refl]
      exact ⟨y, μ, rfl, hs, hy⟩
  | k + 1, i, μ, y, ws, h, hl, hs, hy => by
    have hi : i < zs.length := by omega
    have hx1 := hx.same hs
    have hx14 := hx.same (bumpS hs 14)
    have hw := within_is (zs.getD i 0) (2 * B + 1) (wf64 (hz _ (getD_mem hi))) (by omega) (by omega) (μ.bump 14)
    have h1 := Int.emod_nonneg (zs.getD i 0) (show ¬ 2 * B + 1 = 0 by omega)
    have h2 := Int.emod_lt_of_pos (zs.getD i 0) (show 0 < 2 * B + 1 by omega)
    obtain ⟨y', μ', p1, p2, p3⟩ := pushS (B := 8) (a := 11) (b := 12) (n := 14) (q := some 1) h0 hs hy (zs.getD i 0 % (2 * B + 1) - B) (by omega) (by omega) (by omega) (by omega) (by omega)
    obtain ⟨y2, μ2, q1, q2, q3⟩ := bounds_loop h0 hB hx hz k (i + 1) μ' y' _ (by omega) (by simp; omega) p2 p3
    rw [nsu] at q1
    rw [List.append_assoc] at q3
    refine ⟨y2, μ2, ?_, q2, q3⟩
    rw [overdublaw07_LevinBounds_L1_eq, overdublaw07_LevinBounds_L1_B_eq, hx1.len]
    simp -implicitDefEqProofs (disch := omega) only [lt_t, lt_f, gt_t, gt_f, le_t, le_f, ge_t, ge_f, ne_t, ne_f, eq_t, eq_f, w64, chk_true, Option.bind_some, decide_true, decide_false, cond_true, cond_false, seqJ_n, seqJ_r, seqJ_e, headK_c, asB_bool, asI_int, asS_s, asN_int, extrK_0, extrK_1, extrK_2, Bool.not_true, Bool.not_false, Nat.beq_refl, hx14.ind, hx14.load, nat_toNat, hw, p1]
    exact q1
theorem shift_loop {μ : AMem} {x y : SV} {ls : List Int} {s : Nat} (hs : s ≤ 40) (hx : IsRow μ .i64 x ls) (hy : IsRow μ .i64 y (ls.map fun v => v / 2 ^ s)) (hb : ls.length ≤ 1000) :
    ∀ k i : Nat, i + k = ls.length → overdublaw07_LevinBounds_L2 [.s x, .s y, .s (.int .i64 s), .s (.int .i64 ls.length)] [.s (.int .i64 i)] μ = some (.exit 2, [], μ)
  | 0, i, h => by
    rw [overdublaw07_LevinBounds_L2_eq, overdublaw07_LevinBounds_L2_B_eq]
    simp -implicitDefEqProofs (disch := omega) only [lt_t, lt_f, gt_t, gt_f, le_t, le_f, ge_t, ge_f, ne_t, ne_f, eq_t, eq_f, w64, chk_true, Option.bind_some, decide_true, decide_false, cond_true, cond_false, seqJ_n, seqJ_r, seqJ_e, headK_c, asB_bool, asI_int, asS_s, asN_int, extrK_0, extrK_1, extrK_2, Bool.not_true, Bool.not_false, Nat.beq_refl]
  | k + 1, i, h => by
    have ih := shift_loop hs hx hy hb k (i + 1) (by omega)
    rw [nsu] at ih
    have hly : (ls.map fun v => v / 2 ^ s).length = ls.length := by simp
    have hi : i < ls.length := by omega
    have e1 : (ls.map fun v => v / 2 ^ s).getD i 0 = ls.getD i 0 / 2 ^ s := by
      rw [List.getD_eq_getElem?_getD, List.getD_eq_getElem?_getD, List.getElem?_map, List.getElem?_eq_getElem hi]; rfl
    have hiy := fun {R : Type} (K : AV → Option R) => hy.ind (i := (i : Int)) (by omega) (by omega) K
    have hly1 := fun {R : Type} (K : AV → Option R) => hy.load (i := (i : Int)) (by omega) (by omega) K
    rw [nat_toNat, e1] at hly1
    have hix := fun {R : Type} (K : AV → Option R) => hx.ind (i := (i : Int)) (by omega) (by omega) K
    have hlx1 := fun {R : Type} (K : AV → Option R) => hx.load (i := (i : Int)) (by omega) (by omega) K
    rw [nat_toNat] at hlx1
    have h1 : (i : Int) < (ls.length : Int) := by omega
    have ei : IntKind.wrap .i64 ((i : Int) + 1) = (i : Int) + 1 := wr (by omega)
    have hne : (ls.getD i 0 / 2 ^ s != ls.getD i 0 / 2 ^ s) = false := by simp
    rw [overdublaw07_LevinBounds_L2_eq, overdublaw07_LevinBounds_L2_B_eq]
    simp -implicitDefEqProofs only [lt_t h1, hiy, hly1, hix, hlx1, Option.bind_some, decide_true, decide_false, cond_true, cond_false, seqJ_n, seqJ_r, seqJ_e, headK_c, asB_bool, asI_int, asS_s, asN_int, extrK_0, extrK_1, extrK_2, Bool.not_true, Bool.not_false, Nat.beq_refl]
    rw [u64_nat hs, if_neg (by omega), min40 hs, fdivp, hne]
    simp -implicitDefEqProofs only [ei, Option.bind_some, decide_true, decide_false, cond_true, cond_false, seqJ_n, seqJ_r, seqJ_e, headK_c, asB_bool, asI_int, asS_s, asN_int, extrK_0, extrK_1, extrK_2, Bool.not_true, Bool.not_false, Nat.beq_refl]
    exact ih
theorem div1 (l : List Int) : (l.map fun v => v / 2 ^ (0 : Nat)) = l := by
  have : (fun v : Int => v / 2 ^ (0 : Nat)) = id := by funext v; simp
  rw [this, List.map_id]
theorem pureLevinBounds (x0 : Arg) (z0 : List Int) (s0 : Arg.isRow .i64 z0 x0) (w0 : ∀ n ∈ z0, (Lit.int .i64 n).wf = true) (y0 : z0.length * 8 ≤ 140737488351232) (a1 : Int) (w1 : (Lit.int .i64 a1).wf = true) :
    ∃ μ', overdublaw07_LevinBounds (argVals 0 [x0, .i .i64 a1]) (argMem [x0, .i .i64 a1]) = some (.s (.bool true), μ') := by
  obtain ⟨a, ha, hx⟩ := IsRow.arg (l := [x0, .i .i64 a1]) (j := 0) s0 rfl
  have hw := WF.args [x0, .i .i64 a1]
  show ∃ μ', overdublaw07_LevinBounds [x0.val 0, .s (.int .i64 a1)] _ = _
  rw [ha]
  generalize argMem [x0, .i .i64 a1] = μ at *
  have e1 := within_is a1 288230376151711744 (wf64 w1) (by omega) (by omega) μ
  obtain ⟨B, hB, hB1⟩ : ∃ B, a1 % 288230376151711744 = B ∧ 0 ≤ B ∧ B ≤ 288230376151711744 := ⟨_, rfl, by omega, by omega⟩
  have k0 := Same.bumpSet hw (n := 3) (a := 1) (by omega) (rowObj [.int .i64 B] 1 3 (some 1))
  have r0 : OwnRow μ.next ((μ.bump 3).set (μ.next + 1) (rowObj [.int .i64 B] 1 3 (some 1))) .i64 3 (.slice (μ.next + 1) 0 0 1) [B] := OwnRow.new (o := rowObj [.int .i64 B] 1 3 (some 1)) (by simp) (by omega) rfl rfl rfl rfl rfl rfl
  obtain ⟨Y, m1, f1, k1, o1⟩ := bounds_loop hw hB1 hx w0 (min 12 z0.length) 0 _ _ [B] (by omega) (by simp) k0 r0
  rw [n0] at f1
  obtain ⟨L, hL⟩ : ∃ L, L = [B] ++ (List.range' 0 (min 12 z0.length)).map fun j => z0.getD j 0 % (2 * B + 1) - B := ⟨_, rfl⟩
  have lL : L.length ≤ 13 ∧ 1 ≤ L.length := by rw [hL]; simp; omega
  have g0 : L.getD 0 0 = B := by rw [hL]; rfl
  have bL : ∀ v ∈ L, -1152921504606846976 ≤ v ∧ v ≤ 1152921504606846976 := by
    intro v hv
    rw [hL] at hv
    rcases List.mem_append.mp hv with h | h
    · rw [List.mem_singleton.mp h]; omega
    · obtain ⟨j, _, rfl⟩ := List.mem_map.mp h
      have h1 := Int.emod_nonneg (z0.getD j 0) (show ¬ 2 * B + 1 = 0 by omega)
      have h2 := Int.emod_lt_of_pos (z0.getD j 0) (show 0 < 2 * B + 1 by omega)
      show -1152921504606846976 ≤ z0.getD j 0 % (2 * B + 1) - B ∧ z0.getD j 0 % (2 * B + 1) - B ≤ 1152921504606846976
      omega
  rw [← hL] at o1
  clear hL
  have hn : noScale L = false := by
    unfold noScale
    have h1 : L.isEmpty = false := by cases L with | nil => simp at lL | cons _ _ => rfl
    have h3 : L.any farB = false := by
      rw [List.any_eq_false]
      intro v hv
      have := bL v hv
      unfold farB
      rw [decide_eq_false (by omega), decide_eq_false (by omega)]; decide
    rw [h1, h3, g0, decide_eq_false (by omega)]; rfl
  have hsE : scaledE L = scaleS B := by unfold scaledE; rw [hn, g0]; rfl
  have hsZ : scaledZ L = L.map fun v => v / 2 ^ scaleS B := by unfold scaledZ; rw [hn, hsE]; rfl
  have hle := scaledE_le L
  rw [hsE] at hle
  obtain ⟨c1, c2⟩ := scale_spec (r := B) (by omega) (by omega)
  obtain ⟨M, m2, f2, k2, o2⟩ := scaled_is k1.wf o1.row (by omega)
  rw [hsE] at f2
  rw [hsZ] at o2
  have lM : (L.map fun v => v / 2 ^ scaleS B).length = L.length := by simp
  have hl1 := o2.row.len
  rw [lM] at hl1
  have hl2 := (o1.row.same k2).len
  have gM : (L.map fun v => v / 2 ^ scaleS B).getD 0 0 = B / 2 ^ scaleS B := by
    rw [List.getD_eq_getElem?_getD, List.getElem?_map, List.getElem?_eq_getElem (by omega)]
    rw [getD_lt (by omega)] at g0
    rw [g0]; rfl
  have hi0 := fun {R : Type} (K : AV → Option R) => o2.row.ind (i := 0) (by omega) (by omega) K
  have hl0 := fun {R : Type} (K : AV → Option R) => o2.row.load (i := 0) (by omega) (by omega) K
  rw [Int.toNat_zero, gM] at hl0
  have f3 := shift_loop hle (o1.row.same k2) o2.row (by omega) _ 0 (Nat.zero_add _)
  rw [n0] at f3
  have k3 := Same.bumpSet k2.wf (n := 7) (a := 0) (by omega) (rowObj [.int .i64 (-1)] 1 3 (some 1))
  have r3 : IsRow ((m2.bump 7).set (m2.next + 0) (rowObj [.int .i64 (-1)] 1 3 (some 1))) .i64 (.slice (m2.next + 0) 0 0 1) [-1] := IsRow.made (o := rowObj [.int .i64 (-1)] 1 3 (some 1)) (by simp) rfl rfl rfl
  obtain ⟨N, m4, f4, k4, _⟩ := scaled_is k3.wf r3 (by simp)
  have hneg : ((scaledE [-1] : Nat) : Int) = 0 := by decide
  rw [hneg] at f4
  obtain ⟨μ', f5⟩ := wakes_is m4 k4.wf
  rw [overdublaw07_LevinBounds_eq]
  have t0 : ((0 : Int) == 0) = true := rfl
  have q1 := ne_f (a := (L.length : Int)) (b := (L.length : Int)) rfl
  have q2 := lt_f (a := (scaleS B : Int)) (b := 0) (by omega)
  have q3 := ge_f (a := B / 2 ^ scaleS B) (b := 1073741824) (by omega)
  rcases c2 with hs | ⟨hs, _⟩
  · rw [hs] at f2 f3 o2 hl0 q2 q3 c1
    rw [div1] at o2
    have e6 := same_is o2.row (o1.row.same k2) (by omega)
    rw [decide_eq_true rfl] at e6
    have q4 := eq_t (a := ((0 : Nat) : Int)) (b := 0) rfl
    have q5 := gt_f (a := ((0 : Nat) : Int)) (b := 0) (by omega)
    simp -implicitDefEqProofs only [e1, hB, f1, f2, hl1, hl2, q1, q2, hi0, hl0, q3, q4, q5, e6, f3, f4, t0, f5, Option.bind_some, decide_true, decide_false, cond_true, cond_false, seqJ_n, seqJ_r, seqJ_e, headK_c, asB_bool, asI_int, asS_s, asN_int, extrK_0, extrK_1, extrK_2, Bool.not_true, Bool.not_false, Nat.beq_refl]
    exact ⟨_, rfl⟩
  · by_cases hz : scaleS B = 0
    · rw [hz] at f2 f3 o2 hl0 q2 q3 c1
      rw [div1] at o2
      have e6 := same_is o2.row (o1.row.same k2) (by omega)
      rw [decide_eq_true rfl] at e6
      have q4 := eq_t (a := ((0 : Nat) : Int)) (b := 0) rfl
      have q5 := gt_f (a := ((0 : Nat) : Int)) (b := 0) (by omega)
      simp -implicitDefEqProofs only [e1, hB, f1, f2, hl1, hl2, q1, q2, hi0, hl0, q3, q4, q5, e6, f3, f4, t0, f5, Option.bind_some, decide_true, decide_false, cond_true, cond_false, seqJ_n, seqJ_r, seqJ_e, headK_c, asB_bool, asI_int, asS_s, asN_int, extrK_0, extrK_1, extrK_2, Bool.not_true, Bool.not_false, Nat.beq_refl]
      exact ⟨_, rfl⟩
    · have q4 := eq_f (a := (scaleS B : Int)) (b := 0) (by omega)
      have q5 := gt_t (a := (scaleS B : Int)) (b := 0) (by omega)
      have q6 := lt_f (a := B / 2 ^ scaleS B) (b := 536870912) (by omega)
      simp -implicitDefEqProofs only [e1, hB, f1, f2, hl1, hl2, q1, q2, hi0, hl0, q3, q4, q5, q6, f3, f4, t0, f5, Option.bind_some, decide_true, decide_false, cond_true, cond_false, seqJ_n, seqJ_r, seqJ_e, headK_c, asB_bool, asI_int, asS_s, asN_int, extrK_0, extrK_1, extrK_2, Bool.not_true, Bool.not_false, Nat.beq_refl]
      exact ⟨_, rfl⟩
end Go.Proofs.Ytkcaigagilpomaa
