/- The plain answer of BitsOnes. -/
import Derived.Test.YtkbecppafippeaaQWakes
import Derived.Test.YtkbecppafippeaaKWithin
namespace Go.Proofs.Ytkbecppafippeaa
open Go Go.Proofs.Ytkbecppafippeaa.E
set_option linter.unusedVariables false
set_option linter.unusedSimpArgs false
theorem ones_all {bs : List Int} {a left : Nat} : ∀ k i : Nat, (∀ j, i ≤ j → j < i + k → digB bs (a + j) ≠ 0 ∧ j < left) → onesF bs a left k i = (((i + k : Nat) : Int), true, a + (i + k))
  | 0, i, _ => rfl
  | k + 1, i, h => by
    have h0 := h i (by omega) (by omega)
    rw [onesF, if_neg (by omega), if_neg h0.1, ones_all k (i + 1) (fun j h1 h2 => h j (by omega) (by omega)), show i + 1 + k = i + (k + 1) by omega]
theorem ones_stop {bs : List Int} {a left n : Nat} (hn : digB bs (a + n) = 0) (hl : n < left) : ∀ k i : Nat, i ≤ n → n < i + k → (∀ j, i ≤ j → j < n → digB bs (a + j) ≠ 0) → onesF bs a left k i = ((n : Int), true, a + n + 1)
  | 0, i, h1, h2, _ => by omega
  | k + 1, i, h1, h2, h => by
    rw [onesF, if_neg (by omega)]
    by_cases c : i = n
    · subst c; rw [if_pos hn]
    · rw [if_neg (h i (Nat.le_refl _) (by omega)), ones_stop hn hl k (i + 1) (by omega) (by omega) (fun j h1 h2 => h j (by omega) h2)]
theorem pureBitsOnes (a0 : Int) (w0 : (Lit.int .i64 a0).wf = true) (a1 : Int) (w1 : (Lit.int .i64 a1).wf = true) :
    ∃ μ', overdublaw01_BitsOnes (argVals 0 [.i .i64 a0, .i .i64 a1]) (argMem [.i .i64 a0, .i .i64 a1]) = some (.s (.bool true), μ') := by
  have hw := WF.args [.i .i64 a0, .i .i64 a1]
  show ∃ μ', overdublaw01_BitsOnes [.s (.int .i64 a0), .s (.int .i64 a1)] _ = _
  generalize argMem [.i .i64 a0, .i .i64 a1] = μ at *
  have e1 := within_is a0 60 (wf64 w0) (by omega) (by omega) μ
  have e2 := within_is a1 70 (wf64 w1) (by omega) (by omega) μ
  obtain ⟨n, hn, hn1⟩ : ∃ n : Nat, a0 % 60 = (n : Int) ∧ n < 60 := ⟨(a0 % 60).toNat, by omega, by omega⟩
  obtain ⟨m, hm, hm1⟩ : ∃ m : Nat, a1 % 70 = (m : Int) ∧ m < 70 := ⟨(a1 % 70).toNat, by omega, by omega⟩
  obtain ⟨A, F1, m1, f1, k1, wa1⟩ := newWriter_is hw
  obtain ⟨F2, m2, f2, k2, wa2, _⟩ := (Ones_is k1.wf wa1 (by simp) (n : Int)).2 (by omega)
  rw [nat_toNat] at wa2
  obtain ⟨F3, m3, f3, k3, wa3, _⟩ := (Put_is k2.wf wa2 (by simp; omega) 1 1).2 (by omega)
  have hp : putD 1 (1 : Int).toNat = [1] := by decide
  rw [hp, List.nil_append] at wa3
  have hld : (List.replicate n (1 : Int) ++ [0] ++ [1]).length = n + 2 := by simp
  obtain ⟨y, bs, m4, f4, k4, o4, h4⟩ := Bytes_is k3.wf wa3 (by omega)
  have hbl := h4.1
  rw [hld] at hbl
  obtain ⟨r, rb, m5, f5, k5, s5⟩ := newReader_is k4.wf o4.row (by omega)
  have hd := h4.2.2
  have d1 : ∀ j, j < n → digB bs j = 1 := fun j hj => by
    rw [hd, getD_app, if_pos (by simp; omega), getD_app, if_pos (by simp; omega), List.getD_eq_getElem?_getD, List.getElem?_replicate, if_pos hj]; rfl
  have d2 : digB bs n = 0 := by
    rw [hd, getD_app, if_pos (by simp), getD_app, if_neg (by simp)]; simp
  have d3 : digB bs (n + 1) = 1 := by
    rw [hd, getD_app, if_neg (by simp)]; simp
  obtain ⟨m6, f6, k6, s6⟩ := (OnesR_is k5.wf s5 (by omega) (by omega) h4.2.1 (m : Int)).2 (by omega)
  rw [nat_toNat] at f6 s6
  have hq : IntKind.wrap .i64 (IntKind.wrap .i64 (Int.tdiv (IntKind.wrap .i64 (IntKind.wrap .i64 ((n : Int) + 2) + 7)) 8) * 8) = ((8 * bs.length : Nat) : Int) := by
    rw [wr (n := (n : Int) + 2) (by omega), wr (n := (n : Int) + 2 + 7) (by omega), Int.tdiv_eq_ediv_of_nonneg (by omega), wr (n := ((n : Int) + 2 + 7) / 8) (by omega), wr (by omega)]; omega
  have nnp : ∀ i, isNil (.s (.ptr i 0 0)) = some false := fun i => rfl
  have t1 : ((1 : Int) == 1) = true := rfl
  rw [overdublaw01_BitsOnes_eq]
  by_cases c : n < m
  · have ho := ones_stop (bs := bs) (a := 0) (left := 8 * bs.length - 0) (n := n) (by rw [Nat.zero_add]; exact d2) (by omega) m 0 (by omega) (by omega) (fun j _ hj => by rw [Nat.zero_add, d1 j hj]; decide)
    rw [ho] at f6 s6
    dsimp only at f6 s6
    obtain ⟨m7, f7, k7, s7⟩ := (Get_is k6.wf s6 (by omega) (by omega) h4.2.1 1).2 (by omega)
    have hnum : numB bs (0 + n + 1) (1 : Int).toNat = 1 := by
      show 2 * numB bs (0 + n + 1) 0 + digB bs (0 + n + 1 + 0) = 1
      rw [numB, show 0 + n + 1 + 0 = n + 1 by omega, d3]; rfl
    rw [hnum] at f7
    have hL := Left_is s7 (by simp; omega) (by omega)
    obtain ⟨μ', g⟩ := wakes_is m7 k7.wf
    have q1 : (if (m : Int) < (n : Int) then (m : Int) else (n : Int)) = n := if_neg (by omega)
    have q2 := ne_f (a := (n : Int)) (b := (n : Int)) rfl
    have q3 := gt_t (a := (m : Int)) (b := (n : Int)) (by omega)
    have q4 : (((8 * bs.length - (0 + n + 1 + (1 : Int).toNat) : Nat) : Int) == IntKind.wrap .i64 (IntKind.wrap .i64 (IntKind.wrap .i64 (((8 * bs.length : Nat) : Int) - (n : Int)) - 1) - 1)) = true := by
      rw [wr (n := ((8 * bs.length : Nat) : Int) - (n : Int)) (by omega), wr (n := ((8 * bs.length : Nat) : Int) - (n : Int) - 1) (by omega), wr (by omega)]
      exact eq_t (by show ((8 * bs.length - (0 + n + 1 + 1) : Nat) : Int) = _; omega)
    simp -implicitDefEqProofs only [e1, e2, hn, hm, f1, wa1.nn, f2, f3, f4, f5, nnp, f6, q1, q2, q3, f7, t1, hL, hq, q4, g, Option.bind_some, decide_true, decide_false, cond_true, cond_false, seqJ_n, seqJ_r, seqJ_e, headK_c, asB_bool, asI_int, asS_s, asN_int, extrK_0, extrK_1, extrK_2, Bool.not_true, Bool.not_false, Nat.beq_refl]
    exact ⟨_, rfl⟩
  · have ho := ones_all (bs := bs) (a := 0) (left := 8 * bs.length - 0) m 0 (fun j _ hj => ⟨by rw [Nat.zero_add, d1 j (by omega)]; decide, by omega⟩)
    rw [Nat.zero_add, Nat.zero_add] at ho
    rw [ho] at f6 s6
    dsimp only at f6 s6
    have hL := Left_is s6 (by omega) (by omega)
    obtain ⟨μ', g⟩ := wakes_is m6 k6.wf
    have q1 : (if (m : Int) < (n : Int) then (m : Int) else (n : Int)) = m := by split <;> omega
    have q2 := ne_f (a := (m : Int)) (b := (m : Int)) rfl
    have q3 := gt_f (a := (m : Int)) (b := (n : Int)) (by omega)
    have q4 : (((8 * bs.length - m : Nat) : Int) == IntKind.wrap .i64 (((8 * bs.length : Nat) : Int) - (m : Int))) = true := by
      rw [wr (by omega)]
      exact eq_t (by omega)
    simp -implicitDefEqProofs only [e1, e2, hn, hm, f1, wa1.nn, f2, f3, f4, f5, nnp, f6, q1, q2, q3, hL, hq, q4, g, Option.bind_some, decide_true, decide_false, cond_true, cond_false, seqJ_n, seqJ_r, seqJ_e, headK_c, asB_bool, asI_int, asS_s, asN_int, extrK_0, extrK_1, extrK_2, Bool.not_true, Bool.not_false, Nat.beq_refl]
    exact ⟨_, rfl⟩
end Go.Proofs.Ytkbecppafippeaa
