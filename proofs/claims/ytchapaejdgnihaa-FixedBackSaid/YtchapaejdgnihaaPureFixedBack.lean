/- The plain answer of FixedBack. -/
import Derived.Test.YtchapaejdgnihaaQFixRest
import Derived.Test.YtchapaejdgnihaaQWakes
import Derived.Test.YtchapaejdgnihaaQGuesses
import Derived.Test.YtchapaejdgnihaaQBack
import Derived.Test.YtchapaejdgnihaaKSame
namespace Go.Proofs.Ytchapaejdgnihaa
open Go Go.Proofs.Ytchapaejdgnihaa.E
set_option linter.unusedVariables false
set_option linter.unusedSimpArgs false
theorem diff_loop {μ : AMem} {x y : SV} {ls ms : List Int} (hx : IsRow μ .i64 x ls) (hy : IsRow μ .i64 y ms) (hl : ls.length = ms.length + 1) (hb : ls.length ≤ 1000) (hls : ∀ i, -9000000000 ≤ ls.getD i 0 ∧ ls.getD i 0 ≤ 9000000000)
    (hd : ∀ i, i < ms.length → ms.getD i 0 = ls.getD (i + 1) 0 - ls.getD i 0) :
    ∀ k i : Nat, i + k = ms.length → overdublaw05_FixedBack_L1 [.s x, .s y, .s (.int .i64 ms.length)] [.s (.int .i64 i)] μ = some (.exit 0, [], μ)
  | 0, i, h => by
    rw [overdublaw05_FixedBack_L1_eq, overdublaw05_FixedBack_L1_B_eq]
    simp -implicitDefEqProofs (disch := omega) only [lt_t, lt_f, gt_t, gt_f, le_t, le_f, ge_t, ge_f, ne_t, ne_f, eq_t, eq_f, w64, chk_true, Option.bind_some, decide_true, decide_false, cond_true, cond_false, seqJ_n, seqJ_r, seqJ_e, headK_c, asB_bool, asI_int, asS_s, asN_int, extrK_0, extrK_1, extrK_2, Bool.not_true, Bool.not_false, Nat.beq_refl]
  | k + 1, i, h => by
    have ih := diff_loop hx hy hl hb hls hd k (i + 1) (by omega)
    rw [nsu] at ih
    have h1 := hls i
    have h2 := hls (i + 1)
    have h3 := hd i (by omega)
    have e1 : ((i : Int) + 1).toNat = i + 1 := rfl
    rw [overdublaw05_FixedBack_L1_eq, overdublaw05_FixedBack_L1_B_eq]
    simp -implicitDefEqProofs (disch := omega) only [lt_t, lt_f, gt_t, gt_f, le_t, le_f, ge_t, ge_f, ne_t, ne_f, eq_t, eq_f, w64, chk_true, Option.bind_some, decide_true, decide_false, cond_true, cond_false, seqJ_n, seqJ_r, seqJ_e, headK_c, asB_bool, asI_int, asS_s, asN_int, extrK_0, extrK_1, extrK_2, Bool.not_true, Bool.not_false, Nat.beq_refl, hx.ind, hx.load, hy.ind, hy.load, nat_toNat, e1]
    exact ih
theorem pureFixedBack (x0 : Arg) (z0 : List Int) (s0 : Arg.isRow .i64 z0 x0) (w0 : ∀ n ∈ z0, (Lit.int .i64 n).wf = true) (y0 : z0.length * 8 ≤ 140737488351232) (a1 : Int) (w1 : (Lit.int .i64 a1).wf = true) :
    ∃ μ', overdublaw05_FixedBack (argVals 0 [x0, .i .i64 a1]) (argMem [x0, .i .i64 a1]) = some (.s (.bool true), μ') := by
  obtain ⟨a, ha, hx⟩ := IsRow.arg (l := [x0, .i .i64 a1]) (j := 0) s0 rfl
  have hw := WF.args [x0, .i .i64 a1]
  show ∃ μ', overdublaw05_FixedBack [x0.val 0, .s (.int .i64 a1)] _ = _
  rw [ha]
  generalize argMem [x0, .i .i64 a1] = μ at *
  have c64 : (((64 : Nat) : Int)) = 64 := rfl
  obtain ⟨X, m1, e1, k1, o1⟩ := samples_is hw 64 false hx w0 (by omega)
  rw [c64] at e1
  have e2 := within_is a1 5 (wf64 w1) (by omega) (by omega) m1
  have hp : 0 ≤ a1 % 5 ∧ a1 % 5 ≤ 4 := by omega
  generalize a1 % 5 = p at *
  have tx : tame ((z0.take 64).map (sampleZ false)) := samples_tame
  have lx : ((z0.take 64).map (sampleZ false)).length ≤ 64 := by simp; omega
  generalize ((z0.take 64).map (sampleZ false)) = xs at *
  obtain ⟨l, m2, e3, k2, o2⟩ := fixRes_is k1.wf p o1.row (by omega)
  rw [overdublaw05_FixedBack_eq]
  by_cases c1 : (xs.length : Int) < p
  · have hE : fresE xs p = 1 := by unfold fresE; rw [if_neg (by omega)]
    rw [hE] at e3
    obtain ⟨μ', e5⟩ := wakes_is m2 k2.wf
    simp -implicitDefEqProofs (disch := omega) only [lt_t, lt_f, gt_t, gt_f, le_t, le_f, ge_t, ge_f, ne_t, ne_f, eq_t, eq_f, w64, chk_true, Option.bind_some, decide_true, decide_false, cond_true, cond_false, seqJ_n, seqJ_r, seqJ_e, headK_c, asB_bool, asI_int, asS_s, asN_int, extrK_0, extrK_1, extrK_2, Bool.not_true, Bool.not_false, Nat.beq_refl, e1, e2, o1.row.len, e3, e5]
    exact ⟨_, rfl⟩
  · have hE : fresE xs p = 0 := by unfold fresE; rw [if_pos (by omega), checkZ_tame tx lx]
    have hZ : fresZ xs p = leftZ (fguess p) p.toNat xs := by unfold fresZ; rw [if_pos hE]
    have hpn : ((p.toNat : Nat) : Int) = p := by omega
    rw [hE] at e3
    rw [hZ] at o2
    obtain ⟨z, f1, f2⟩ := (o1.row.same k2).front (n := p.toNat) (by omega)
    rw [hpn] at f1
    have hll := leftZ_len (fguess p) p.toNat xs
    obtain ⟨y, m3, e4, k3, o3⟩ := fixRest_is k2.wf f2 o2.row (by simp; omega) (by omega)
    have hrun := run_left (g := fguess p) (fun i => by have := fguess_le (p := p) (tame_take tx i); omega) tx lx (n := p.toNat) (by omega)
    have hlt : (xs.take p.toNat).length = p.toNat := by simp; omega
    have hRE : frestE (xs.take p.toNat) (leftZ (fguess p) p.toNat xs) = 0 := by unfold frestE; rw [hlt, if_pos (by omega), hpn]; exact hrun.1
    have hRZ : frestZ (xs.take p.toNat) (leftZ (fguess p) p.toNat xs) = xs := by unfold frestZ; rw [hlt, if_pos (by omega), hpn]; exact hrun.2
    rw [hRE] at e4
    rw [hRZ] at o3
    have e5 := same_is o3.row (o1.row.same (k2.trans k3)) (by omega)
    rw [decide_eq_true rfl] at e5
    have hl1 := (o2.row.same k3).len
    have hx1 := (o1.row.same (k2.trans k3)).len
    by_cases c2 : p = 4 ∨ (xs.length : Int) ≤ p
    · obtain ⟨μ', e6⟩ := wakes_is m3 k3.wf
      by_cases c3 : p = 4
      · simp -implicitDefEqProofs (disch := omega) only [lt_t, lt_f, gt_t, gt_f, le_t, le_f, ge_t, ge_f, ne_t, ne_f, eq_t, eq_f, w64, chk_true, Option.bind_some, decide_true, decide_false, cond_true, cond_false, seqJ_n, seqJ_r, seqJ_e, headK_c, asB_bool, asI_int, asS_s, asN_int, extrK_0, extrK_1, extrK_2, Bool.not_true, Bool.not_false, Nat.beq_refl, e1, e2, o1.row.len, e3, f1, e4, e5, hl1, hx1, e6]
        exact ⟨_, rfl⟩
      · simp -implicitDefEqProofs (disch := omega) only [lt_t, lt_f, gt_t, gt_f, le_t, le_f, ge_t, ge_f, ne_t, ne_f, eq_t, eq_f, w64, chk_true, Option.bind_some, decide_true, decide_false, cond_true, cond_false, seqJ_n, seqJ_r, seqJ_e, headK_c, asB_bool, asI_int, asS_s, asN_int, extrK_0, extrK_1, extrK_2, Bool.not_true, Bool.not_false, Nat.beq_refl, e1, e2, o1.row.len, e3, f1, e4, e5, hl1, hx1, e6]
        exact ⟨_, rfl⟩
    · have hE2 : fresE xs (p + 1) = 0 := by unfold fresE; rw [if_pos (by omega), checkZ_tame tx lx]
      have hZ2 : fresZ xs (p + 1) = leftZ (fguess (p + 1)) (p.toNat + 1) xs := by unfold fresZ; rw [if_pos hE2, show (p + 1).toNat = p.toNat + 1 by omega]
      obtain ⟨r, m4, e6, k4, o4⟩ := fixRes_is k3.wf (p + 1) (o1.row.same (k2.trans k3)) (by omega)
      rw [hE2] at e6
      rw [hZ2] at o4
      have hll2 := leftZ_len (fguess (p + 1)) (p.toNat + 1) xs
      have hl2 := (o2.row.same (k3.trans k4)).len
      have hls : ∀ i, -9000000000 ≤ (leftZ (fguess p) p.toNat xs).getD i 0 ∧ (leftZ (fguess p) p.toNat xs).getD i 0 ≤ 9000000000 := by
        intro i
        rcases Nat.lt_or_ge (p.toNat + i) xs.length with h | h
        · rw [leftZ_getD _ _ _ h]
          have := getD_tame tx (p.toNat + i)
          have := fguess_le (p := p) (tame_take tx (p.toNat + i))
          omega
        · rw [List.getD_eq_getElem?_getD, List.getElem?_eq_none (by omega)]; exact ⟨by decide, by decide⟩
      have hd : ∀ i, i < (leftZ (fguess (p + 1)) (p.toNat + 1) xs).length → (leftZ (fguess (p + 1)) (p.toNat + 1) xs).getD i 0 = (leftZ (fguess p) p.toNat xs).getD (i + 1) 0 - (leftZ (fguess p) p.toNat xs).getD i 0 := by
        intro i hi
        rw [leftZ_getD _ _ _ (by omega), leftZ_getD _ _ _ (by omega), leftZ_getD _ _ _ (by omega)]
        have := fg_next (xs := xs) (p := p) (by omega) (j := p.toNat + i) (by omega) (by omega)
        rw [show p.toNat + 1 + i = p.toNat + i + 1 by omega, show p.toNat + (i + 1) = p.toNat + i + 1 by omega]
        omega
      have e7 := diff_loop (o2.row.same (k3.trans k4)) o4.row (by omega) (by omega) hls hd _ 0 (Nat.zero_add _)
      rw [n0] at e7
      obtain ⟨μ', e8⟩ := wakes_is m4 k4.wf
      have q1 := lt_f (a := (xs.length : Int)) (b := p) (by omega)
      have q2 := ne_f (a := ((leftZ (fguess p) p.toNat xs).length : Int)) (b := IntKind.wrap .i64 ((xs.length : Int) - p)) (by rw [wr (by omega)]; omega)
      have q3 := eq_f (a := p) (b := 4) (by omega)
      have q4 := le_f (a := (xs.length : Int)) (b := p) (by omega)
      have q5 := ne_f (a := ((leftZ (fguess (p + 1)) (p.toNat + 1) xs).length : Int)) (b := IntKind.wrap .i64 (((leftZ (fguess p) p.toNat xs).length : Int) - 1)) (by rw [wr (by omega)]; omega)
      have q6 : IntKind.wrap .i64 (p + 1) = p + 1 := wr (by omega)
      have q7 := o4.row.len
      have ne00 : ((0 : Int) != 0) = false := rfl
      simp -implicitDefEqProofs only [ne00, e1, e2, o1.row.len, q1, e3, f1, e4, e5, hl1, hx1, q2, q3, q4, q5, q6, e6, hl2, q7, e7, e8, Option.bind_some, decide_true, decide_false, cond_true, cond_false, seqJ_n, seqJ_r, seqJ_e, headK_c, asB_bool, asI_int, asS_s, asN_int, extrK_0, extrK_1, extrK_2, Bool.not_true, Bool.not_false, Nat.beq_refl]
      exact ⟨_, rfl⟩
end Go.Proofs.Ytchapaejdgnihaa
