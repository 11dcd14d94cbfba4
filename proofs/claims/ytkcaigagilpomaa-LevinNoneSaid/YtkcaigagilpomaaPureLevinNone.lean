/- The plain answer of LevinNone. -/
import Derived.Test.YtkcaigagilpomaaQLevin2
import Derived.Test.YtkcaigagilpomaaQWakes
import Derived.Test.YtkcaigagilpomaaKSamples
namespace Go.Proofs.Ytkcaigagilpomaa
open Go Go.Proofs.Ytkcaigagilpomaa.E
set_option linter.unusedVariables false
set_option linter.unusedSimpArgs false

theorem asum_zero (n : Nat) : ∀ m, asum (List.replicate n 0) 0 m = 0
  | 0 => rfl
  | m + 1 => by
    have : (List.replicate n (0 : Int)).getD m 0 = 0 := by rw [List.getD_eq_getElem?_getD, List.getElem?_replicate]; split <;> rfl
    rw [asum, asum_zero n m, this]; simp
theorem cf_zero (n : Nat) (p : Int) : cfZ (List.replicate n 0) p = none := by
  unfold cfZ
  split
  · rename_i hok
    have h0 : (cfR (List.replicate n 0) p).getD 0 0 = 0 := by
      have hz := checkZ_ok hok.2.2.1
      have ha := (autoZ_of hok).2
      have hn := (cfR_of hok).1
      unfold cfR scaledZ
      rw [hn]
      simp only [Bool.false_eq_true, if_false]
      have hd : dotZ (List.replicate n 0) 0 = 0 := asum_zero n _
      rw [ha, List.range_succ_eq_map]; simp [hd]
    rw [h0]
    obtain ⟨k, hk⟩ : ∃ k, p.toNat = k + 1 := ⟨p.toNat - 1, by have := hok.1; omega⟩
    rw [hk, coefL, if_pos (by omega)]
  · rfl
theorem cf_no {xs : List Int} {p : Int} (h : ¬ cfOK xs p) : cfZ xs p = none := by unfold cfZ; rw [if_neg h]
theorem pureLevinNone (a0 : Int) (w0 : (Lit.int .i64 a0).wf = true) (a1 : Int) (w1 : (Lit.int .i64 a1).wf = true) (x2 : Arg) (z2 : List Int) (s2 : Arg.isRow .i64 z2 x2) (w2 : ∀ n ∈ z2, (Lit.int .i64 n).wf = true) (y2 : z2.length * 8 ≤ 140737488351232) :
    ∃ μ', overdublaw07_LevinNone (argVals 0 [.i .i64 a0, .i .i64 a1, x2]) (argMem [.i .i64 a0, .i .i64 a1, x2]) = some (.s (.bool true), μ') := by
  obtain ⟨a, ha, hx⟩ := IsRow.arg (l := [.i .i64 a0, .i .i64 a1, x2]) (j := 2) s2 rfl
  have hw := WF.args [.i .i64 a0, .i .i64 a1, x2]
  show ∃ μ', overdublaw07_LevinNone [.s (.int .i64 a0), .s (.int .i64 a1), x2.val 2] _ = _
  rw [ha]
  generalize argMem [.i .i64 a0, .i .i64 a1, x2] = μ at *
  have e1 := within_is a0 65 (wf64 w0) (by omega) (by omega) μ
  have e2 := within_is a1 12 (wf64 w1) (by omega) (by omega) μ
  obtain ⟨n, hn, hn1⟩ : ∃ n : Nat, a0 % 65 = (n : Int) ∧ n ≤ 64 := ⟨(a0 % 65).toNat, by omega, by omega⟩
  obtain ⟨p, hp, hp1⟩ : ∃ p : Nat, IntKind.wrap .i64 (1 + a1 % 12) = (p : Int) ∧ 1 ≤ p ∧ p ≤ 12 := ⟨(1 + a1 % 12).toNat, by rw [wr (by omega)]; omega, by omega, by omega⟩
  have hif : 0 ≤ (n : Int) ∧ (n : Int) ≤ (n : Int) ∧ (n : Int) ≤ 9223372036854775807 ∧ ((8 : Nat) : Int) * (n : Int) ≤ 140737488355328 := by omega
  have hif2 : 0 ≤ (20 : Int) ∧ (20 : Int) ≤ (20 : Int) ∧ (20 : Int) ≤ 9223372036854775807 ∧ ((8 : Nat) : Int) * (20 : Int) ≤ 140737488355328 := by omega
  have k0 := Same.bumpSet hw (n := 9) (a := 1) (by omega) (rowObj (zerosA [.int .i64 0] n) 1 3 (some n))
  have r0 : IsRow ((μ.bump 9).set (μ.next + 1) (rowObj (zerosA [.int .i64 0] n) 1 3 (some n))) .i64 (.slice (μ.next + 1) 0 0 n) (List.replicate n 0) := zeros_row (e := 3) (q := some n) (by simp)
  obtain ⟨y1, m1, f1, k1, _⟩ := levin_is k0.wf r0 (by simp; omega) (p := (p : Int)) (by omega)
  rw [cf_zero] at f1
  obtain ⟨X, m2, f2, k2, o2⟩ := samples_is k1.wf p false ((hx.same k0).same k1) w2 (by omega)
  obtain ⟨y3, m3, f3, k3, _⟩ := levin_is k2.wf o2.row (by simp; omega) (p := (p : Int)) (by omega)
  rw [cf_no (fun h => by have := h.2.2.2; simp at this; omega)] at f3
  have k4 := Same.bumpSet k3.wf (n := 7) (a := 0) (by omega) (rowObj [.int .i64 1, .int .i64 2, .int .i64 3] 1 3 (some 3))
  have r4 : IsRow ((m3.bump 7).set (m3.next + 0) (rowObj [.int .i64 1, .int .i64 2, .int .i64 3] 1 3 (some 3))) .i64 (.slice (m3.next + 0) 0 0 3) [1, 2, 3] := IsRow.made (o := rowObj [.int .i64 1, .int .i64 2, .int .i64 3] 1 3 (some 3)) (by simp) rfl rfl rfl
  obtain ⟨y5, m5, f5, k5, _⟩ := levin_is k4.wf r4 (by simp) (p := 0) (by omega)
  rw [cf_no (fun h => by have := h.1; omega)] at f5
  have k6 := Same.bumpSet k5.wf (n := 7) (a := 0) (by omega) (rowObj (zerosA [.int .i64 0] 20) 1 3 (some 20))
  have r6 : IsRow ((m5.bump 7).set (m5.next + 0) (rowObj (zerosA [.int .i64 0] 20) 1 3 (some 20))) .i64 (.slice (m5.next + 0) 0 0 20) (List.replicate 20 0) := zeros_row (e := 3) (q := some 20) (by simp)
  obtain ⟨y7, m7, f7, k7, _⟩ := levin_is k6.wf r6 (by simp) (p := 13) (by omega)
  rw [cf_no (fun h => by have := h.2.1; omega)] at f7
  obtain ⟨μ', f8⟩ := wakes_is m7 k7.wf
  have t20 : Int.toNat 20 = 20 := rfl
  have hno : (none : Option (List Int)).isSome = false := rfl
  rw [overdublaw07_LevinNone_eq]
  simp -implicitDefEqProofs only [e1, e2, hn, hp, nat_toNat, t20, Option.bind_some, decide_true, decide_false, cond_true, cond_false, seqJ_n, seqJ_r, seqJ_e, headK_c, asB_bool, asI_int, asS_s, asN_int, extrK_0, extrK_1, extrK_2, Bool.not_true, Bool.not_false, Nat.beq_refl]
  rw [if_pos hif]
  simp -implicitDefEqProofs only [f1, f2, f3, f5, hno, Option.bind_some, decide_true, decide_false, cond_true, cond_false, seqJ_n, seqJ_r, seqJ_e, headK_c, asB_bool, asI_int, asS_s, asN_int, extrK_0, extrK_1, extrK_2, Bool.not_true, Bool.not_false, Nat.beq_refl]
  rw [if_pos hif2]
  simp -implicitDefEqProofs only [f7, f8, hno, Option.bind_some, decide_true, decide_false, cond_true, cond_false, seqJ_n, seqJ_r, seqJ_e, headK_c, asB_bool, asI_int, asS_s, asN_int, extrK_0, extrK_1, extrK_2, Bool.not_true, Bool.not_false, Nat.beq_refl]
  exact ⟨_, rfl⟩
end Go.Proofs.Ytkcaigagilpomaa
