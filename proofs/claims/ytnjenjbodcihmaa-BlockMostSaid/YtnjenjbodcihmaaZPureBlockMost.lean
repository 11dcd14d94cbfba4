/- The plain answer of BlockMost. -/
import Derived.Test.YtnjenjbodcihmaaZkc
/- The plain answer of BlockMost. -/
namespace Go.Proofs.Ytnjenjbodcihmaa
open Go Go.Proofs.Ytnjenjbodcihmaa.E
set_option linter.unusedVariables false
set_option linter.unusedSimpArgs false
theorem most_loop {μ0 : AMem} {y : SV} {xs : List Int} (hy : IsRow μ0 .i64 y xs) (ht : tame xs) (hl : xs.length ≤ 1000) :
    ∀ (k i : Nat) (μ : AMem), i + k = min 64 xs.length + 1 → packN xs < i → Same μ0 μ → ∃ μ', overdublaw09_BlockMost_L1 [.s y] [.s (.int .i64 (i : Int))] μ = some (.exit 0, [], μ') ∧ Same μ0 μ'
  | 0, i, μ, h, hi, hs => by
    refine ⟨μ, ?_, hs⟩
    rw [overdublaw09_BlockMost_L1_eq, overdublaw09_BlockMost_L1_B_eq, (hy.same hs).len]
    by_cases h1 : (i : Int) ≤ (xs.length : Int)
    · simp -implicitDefEqProofs only [le_t h1, le_f (show (64 : Int) < (i : Int) by omega), Option.bind_some, decide_true, decide_false, cond_true, cond_false, seqJ_n, seqJ_r, seqJ_e, headK_c, asB_bool, asI_int, asS_s, asN_int, extrK_0, extrK_1, extrK_2, Bool.not_true, Bool.not_false, Nat.beq_refl]
    · simp -implicitDefEqProofs only [le_f (show (xs.length : Int) < (i : Int) by omega), Option.bind_some, decide_true, decide_false, cond_true, cond_false, seqJ_n, seqJ_r, seqJ_e, headK_c, asB_bool, asI_int, asS_s, asN_int, extrK_0, extrK_1, extrK_2, Bool.not_true, Bool.not_false, Nat.beq_refl]
  | k + 1, i, μ, h, hi, hs => by
    have ei : IntKind.wrap .i64 ((i : Int) + 1) = ((i + 1 : Nat) : Int) := by rw [wr (by omega)]; rfl
    obtain ⟨y1, g1, r1⟩ := (hy.same hs).front (n := i) (by omega)
    obtain ⟨ds, bs, z, m2, d1, hh, e1, k1, f1⟩ := (encode_is hs.wf r1 (by simp; omega)).2 (encE_ok (tame_take ht i) (by simp; omega))
    have hm := packM_most xs (min 64 xs.length) i hi (by omega)
    rw [flen_of d1] at hm
    have hbl := hh.1
    obtain ⟨m3, q1, q2⟩ := most_loop hy ht hl k (i + 1) m2 (by omega) (by omega) (hs.trans k1)
    refine ⟨m3, ?_, q2⟩
    rw [overdublaw09_BlockMost_L1_eq, overdublaw09_BlockMost_L1_B_eq, (hy.same hs).len]
    simp -implicitDefEqProofs only [le_t (show (i : Int) ≤ (xs.length : Int) by omega), le_t (show (i : Int) ≤ 64 by omega), g1, e1, ne_f (rfl : (0 : Int) = 0), f1.own.row.len, le_f (show (124 : Int) < (bs.length : Int) by omega), ei, Option.bind_some, decide_true, decide_false, cond_true, cond_false, seqJ_n, seqJ_r, seqJ_e, headK_c, asB_bool, asI_int, asS_s, asN_int, extrK_0, extrK_1, extrK_2, Bool.not_true, Bool.not_false, Nat.beq_refl]
    exact q1
theorem pureBlockMost (x0 : Arg) (z0 : List Int) (s0 : Arg.isRow .i64 z0 x0) (w0 : ∀ n ∈ z0, (Lit.int .i64 n).wf = true) (y0 : z0.length * 8 ≤ 140737488351232) (a1 : Int) (w1 : (Lit.int .i64 a1).wf = true) (a2 : Int) (w2 : (Lit.int .i64 a2).wf = true) (a3 : Int) (w3 : (Lit.int .i64 a3).wf = true) :
    ∃ μ', overdublaw09_BlockMost (argVals 0 [x0, .i .i64 a1, .i .i64 a2, .i .i64 a3]) (argMem [x0, .i .i64 a1, .i .i64 a2, .i .i64 a3]) = some (.s (.bool true), μ') := by
  obtain ⟨a, ha, hx⟩ := IsRow.arg (l := [x0, .i .i64 a1, .i .i64 a2, .i .i64 a3]) (j := 0) s0 rfl
  have hw := WF.args [x0, .i .i64 a1, .i .i64 a2, .i .i64 a3]
  show ∃ μ', overdublaw09_BlockMost [x0.val 0, .s (.int .i64 a1), .s (.int .i64 a2), .s (.int .i64 a3)] _ = _
  rw [ha]
  generalize argMem [x0, .i .i64 a1, .i .i64 a2, .i .i64 a3] = μ at *
  have hfst : ∃ y m xs, ((Int.tmod a1 3 != 0) = true ∧ overdublaw08_Tone [.s a, .s (.int .i64 a3), .s (.int .i64 a1), .s (.int .i64 a2)] μ = some (.s y, m) ∨ (Int.tmod a1 3 != 0) = false ∧ overdubkeep_Samples [.s a, .s (.int .i64 80), .s (.bool false)] μ = some (.s y, m)) ∧ WF m ∧ IsRow m .i64 y xs ∧ tame xs ∧ xs.length ≤ 80 := by
    by_cases c : Int.tmod a1 3 = 0
    · obtain ⟨y, m, e1, k1, o1⟩ := samples_is hw 80 false hx w0 (by omega)
      exact ⟨y, m, _, .inr ⟨ne_f c, e1⟩, k1.wf, o1.row, samples_tame, by simp; omega⟩
    · obtain ⟨y, m, ys, e1, k1, o1, hl, hnr⟩ := tone_is hw hx w0 (n := a3) (s2 := a1) (p3 := a2) (wf64 w3) (wf64 w1) (wf64 w2)
      exact ⟨y, m, ys, .inl ⟨ne_t c, e1⟩, k1.wf, o1.row, near_tame hnr, by omega⟩
  obtain ⟨y, m, xs, hor, hwm, hy, ht, hl⟩ := hfst
  obtain ⟨p, tid, m1, e2, k1, c1⟩ := coderNew_is hwm
  have hy1 := hy.same k1
  have hlt1 := c1.lt k1.wf
  by_cases hz : xs.length = 0
  · have hpe : packE xs = 4 := by unfold packE; rw [if_pos hz]
    have e3 := pack_no (p := p) hy1 (by omega) (by rw [hpe]; omega)
    rw [hpe] at e3
    obtain ⟨m9, e9⟩ := wakes_is m1 k1.wf
    refine ⟨m9, ?_⟩
    rw [overdublaw09_BlockMost_eq]
    rcases hor with ⟨c, e1⟩ | ⟨c, e1⟩ <;> simp -implicitDefEqProofs only [c, e1, e2, isNil_ptr, e3, hy1.len, eq_t (show ((xs.length : Nat) : Int) = 0 by omega), eq_t (rfl : (4 : Int) = 4), eq_t (rfl : (0 : Int) = 0), lenS_nil, eq_t (show ((0 : Nat) : Int) = 0 from rfl), e9, Option.bind_some, decide_true, decide_false, cond_true, cond_false, seqJ_n, seqJ_r, seqJ_e, headK_c, asB_bool, asI_int, asS_s, asN_int, extrK_0, extrK_1, extrK_2, Bool.not_true, Bool.not_false, Nat.beq_refl]
  · obtain ⟨b, bs, ds, m2, d1, hh1, l1, e3, k2, c2, o2⟩ := pack_is k1.wf k1.next c1 (by omega) hy1 (by omega) ht (by omega)
    have hge := packN_ge ht
    have hle := packN_le xs
    obtain ⟨v, b3, m3, e4, k3, c3, o3⟩ := Open_is k2.wf (Nat.le_trans k1.next k2.next) c2 (by omega) o2.row (sealZ_byte hh1.2.1) (offNew hlt1 o2)
    have hob := open_back (tame_take ht _) (by simp; omega) d1 hh1 l1
    rw [hob] at e4 c3 o3
    simp only [Option.isSome_some, if_true, Option.getD_some] at e4 c3 o3
    have hy3 : IsRow m3 .i64 y xs := rowKeep hy1 (k2.trans k3) fun j hj e => offOld hwm c1 (Nat.le_refl _) hy j e hj
    obtain ⟨x36, g36, r36⟩ := hy3.front (n := packN xs) (by omega)
    have e5 := same_is o3.row r36 (by simp; omega)
    rw [decide_eq_true rfl] at e5
    have ei : IntKind.wrap .i64 ((packN xs : Int) + 1) = ((packN xs + 1 : Nat) : Int) := by rw [wr (by omega)]; rfl
    obtain ⟨m4, e6, k6⟩ := most_loop hy3 ht (by omega) (min 64 xs.length + 1 - (packN xs + 1)) (packN xs + 1) m3 (by omega) (by omega) (Keep.refl k3.wf)
    obtain ⟨m9, e9⟩ := wakes_is m4 k6.wf
    refine ⟨m9, ?_⟩
    have h40 : (if 40 < (xs.length : Int) then 40 else (xs.length : Int)) = ((min xs.length 40 : Nat) : Int) := by split <;> omega
    have h64 : (if 64 < (xs.length : Int) then 64 else (xs.length : Int)) = ((min 64 xs.length : Nat) : Int) := by split <;> omega
    rw [overdublaw09_BlockMost_eq]
    rcases hor with ⟨c, e1⟩ | ⟨c, e1⟩ <;> simp -implicitDefEqProofs only [c, e1, e2, isNil_ptr, e3, hy1.len, eq_f (show ¬ ((xs.length : Nat) : Int) = 0 by omega), ne_f (rfl : (0 : Int) = 0), h40, h64, lt_f (show ((min xs.length 40 : Nat) : Int) ≤ (packN xs : Int) by omega), gt_f (show (packN xs : Int) ≤ ((min 64 xs.length : Nat) : Int) by omega), e4, g36, e5, ei, e6, e9, Option.bind_some, decide_true, decide_false, cond_true, cond_false, seqJ_n, seqJ_r, seqJ_e, headK_c, asB_bool, asI_int, asS_s, asN_int, extrK_0, extrK_1, extrK_2, Bool.not_true, Bool.not_false, Nat.beq_refl]
end Go.Proofs.Ytnjenjbodcihmaa
