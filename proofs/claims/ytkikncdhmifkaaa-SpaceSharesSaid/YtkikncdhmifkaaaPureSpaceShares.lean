/- The plain answer of SpaceShares. -/
import Derived.Test.YtkikncdhmifkaaaQWakes
import Derived.Test.YtkikncdhmifkaaaKWithin
import Derived.Test.YtkikncdhmifkaaaKSame
namespace Go.Proofs.Ytkikncdhmifkaaa
open Go Go.Proofs.Ytkikncdhmifkaaa.E
set_option linter.unusedVariables false
set_option linter.unusedSimpArgs false
def csv5 (c : Int) : List Int := [0, 0, c, 0, 0]
def V5 : Nat → Bool := setV (fun j => decide (j < 2)) 2 true
theorem csv5_fit {c : Int} {k : Nat} (h0 : 0 ≤ c) (h : c + k ≤ 1000000) (hk : k ≤ 1000) : fits (csv5 c) k := by
  intro v hv
  simp only [csv5, List.mem_cons, List.not_mem_nil, or_false] at hv
  rcases hv with rfl | rfl | rfl | rfl | rfl <;> omega
theorem csv5_of (c : Int) : ofI (csv5 c) 2 = c := rfl
theorem csv5_inc (c : Int) : incZ (csv5 c) 2 = csv5 (c + 1) := rfl
theorem csv5_dec (c : Int) : decZ (csv5 c) 2 = csv5 (c - 1) := rfl
theorem shares_loop {μ0 : AMem} (h0 : WF μ0) {x : SV} {n : Nat} (hn : n ≤ 100) :
    ∀ (k i : Nat) (μ : AMem), i + k = n → Same μ0 μ → Sp μ0.next μ x 2 5 V5 (csv5 ((i : Int) + 1)) [] →
      ∃ μ', overdublaw13_SpaceShares_L1 [.s (.int .i64 n), .s x, .s (.int .i64 2)] [.s (.int .i64 i)] μ = some (.exit 0, [.s (.int .i64 n), .s x, .s (.int .i64 2)], μ') ∧ Same μ0 μ' ∧ Sp μ0.next μ' x 2 5 V5 (csv5 ((n : Int) + 1)) []
  | 0, i, μ, h, hs, hp => by
    obtain rfl : i = n := by omega
    refine ⟨μ, ?_, hs, hp⟩
    rw [overdublaw13_SpaceShares_L1_eq, overdublaw13_SpaceShares_L1_B_eq]
    simp -implicitDefEqProofs (disch := omega) only [lt_t, lt_f, gt_t, gt_f, le_t, le_f, ge_t, ge_f, ne_t, ne_f, eq_t, eq_f, w64, chk_true, Option.bind_some, decide_true, decide_false, cond_true, cond_false, seqJ_n, seqJ_r, seqJ_e, headK_c, asB_bool, asI_int, asS_s, asN_int, extrK_0, extrK_1, extrK_2, Bool.not_true, Bool.not_false, Nat.beq_refl]
  | k + 1, i, μ, h, hs, hp => by
    obtain ⟨m1, e1, k1, p1⟩ := (spShare_is hs.wf hp (csv5_fit (by omega) (by omega) (by omega)) 2).2 (by rw [csv5_of]; omega)
    rw [csv5_inc] at p1
    obtain ⟨m2, e2, k2, p2⟩ := shares_loop h0 hn k (i + 1) m1 (by omega) (kn_same h0 rfl hs k1) p1
    rw [nsu] at e2
    have ei : IntKind.wrap .i64 ((i : Int) + 1) = (i : Int) + 1 := wr (by omega)
    refine ⟨m2, ?_, k2, p2⟩
    rw [overdublaw13_SpaceShares_L1_eq, overdublaw13_SpaceShares_L1_B_eq]
    simp -implicitDefEqProofs only [lt_t (show (i : Int) < (n : Int) by omega), e1, ei, Option.bind_some, decide_true, decide_false, cond_true, cond_false, seqJ_n, seqJ_r, seqJ_e, headK_c, asB_bool, asI_int, asS_s, asN_int, extrK_0, extrK_1, extrK_2, Bool.not_true, Bool.not_false, Nat.beq_refl]
    exact e2
theorem drops_loop {μ0 : AMem} (h0 : WF μ0) {x : SV} {n : Nat} (hn : n ≤ 100) :
    ∀ (k i : Nat) (μ : AMem), i + k = n → Same μ0 μ → Sp μ0.next μ x 2 5 V5 (csv5 ((n : Int) + 1 - i)) [] →
      ∃ μ', overdublaw13_SpaceShares_L2 [.s (.int .i64 n), .s x, .s (.int .i64 2)] [.s (.int .i64 i)] μ = some (.exit 2, [.s x, .s (.int .i64 2)], μ') ∧ Same μ0 μ' ∧ Sp μ0.next μ' x 2 5 V5 (csv5 0) [2]
  | k, i, μ, h, hs, hp => by
    obtain ⟨y, m1, e1, k1, o1⟩ := spWaiting_is hs.wf hp (by simp)
    have p1 := hp.same k1
    have e2 := spOf_is p1 2
    rw [csv5_of] at e2
    obtain ⟨m3, e3, k3, p3⟩ := (spDrop_is k1.wf (Nat.le_trans hs.next k1.next) p1 (csv5_fit (by omega) (by omega) (by omega)) (by simp) 2).2 (by rw [csv5_of]; omega)
    rw [csv5_dec, csv5_of] at p3
    have hs3 := kn_same h0 rfl (hs.trans k1) k3
    have ei : IntKind.wrap .i64 ((i : Int) + 1) = (i : Int) + 1 := wr (by omega)
    have ec : IntKind.wrap .i64 (IntKind.wrap .i64 ((n : Int) + 1) - (i : Int)) = (n : Int) + 1 - i := by rw [wr (n := (n : Int) + 1) (by omega), wr (by omega)]
    have hl := o1.row.len
    rw [List.length_nil] at hl
    rcases k with _ | k
    · have hi : (i : Int) = n := by omega
      rw [if_pos (by omega), show insK [] 2 = [2] by decide, show (n : Int) + 1 - i - 1 = 0 by omega] at p3
      refine ⟨m3, ?_, hs3, p3⟩
      rw [overdublaw13_SpaceShares_L2_eq, overdublaw13_SpaceShares_L2_B_eq]
      simp -implicitDefEqProofs only [le_t (show (i : Int) ≤ (n : Int) by omega), e1, hl, ne_f (show ((0 : Nat) : Int) = 0 from rfl), e2, ec, ne_f (show (n : Int) + 1 - i = (n : Int) + 1 - i from rfl), e3, ei, Option.bind_some, decide_true, decide_false, cond_true, cond_false, seqJ_n, seqJ_r, seqJ_e, headK_c, asB_bool, asI_int, asS_s, asN_int, extrK_0, extrK_1, extrK_2, Bool.not_true, Bool.not_false, Nat.beq_refl]
      rw [overdublaw13_SpaceShares_L2_eq, overdublaw13_SpaceShares_L2_B_eq]
      simp -implicitDefEqProofs only [le_f (show (n : Int) < (i : Int) + 1 by omega), Option.bind_some, decide_true, decide_false, cond_true, cond_false, seqJ_n, seqJ_r, seqJ_e, headK_c, asB_bool, asI_int, asS_s, asN_int, extrK_0, extrK_1, extrK_2, Bool.not_true, Bool.not_false, Nat.beq_refl]
    · rw [if_neg (by omega), show (n : Int) + 1 - i - 1 = (n : Int) + 1 - ((i + 1 : Nat) : Int) by omega] at p3
      obtain ⟨m4, e4, k4, p4⟩ := drops_loop h0 hn k (i + 1) m3 (by omega) hs3 p3
      rw [nsu] at e4
      refine ⟨m4, ?_, k4, p4⟩
      rw [overdublaw13_SpaceShares_L2_eq, overdublaw13_SpaceShares_L2_B_eq]
      simp -implicitDefEqProofs only [le_t (show (i : Int) ≤ (n : Int) by omega), e1, hl, ne_f (show ((0 : Nat) : Int) = 0 from rfl), e2, ec, ne_f (show (n : Int) + 1 - i = (n : Int) + 1 - i from rfl), e3, ei, Option.bind_some, decide_true, decide_false, cond_true, cond_false, seqJ_n, seqJ_r, seqJ_e, headK_c, asB_bool, asI_int, asS_s, asN_int, extrK_0, extrK_1, extrK_2, Bool.not_true, Bool.not_false, Nat.beq_refl]
      exact e4
theorem pureSpaceShares (a0 : Int) (w0 : (Lit.int .i64 a0).wf = true) :
    ∃ μ', overdublaw13_SpaceShares (argVals 0 [.i .i64 a0]) (argMem [.i .i64 a0]) = some (.s (.bool true), μ') := by
  have hw := WF.args [.i .i64 a0]
  show ∃ μ', overdublaw13_SpaceShares [.s (.int .i64 a0)] _ = _
  generalize argMem [.i .i64 a0] = μ at *
  have hm1 := Int.emod_nonneg a0 (show ¬ (9 : Int) = 0 by omega)
  have hm2 := Int.emod_lt_of_pos a0 (show (0 : Int) < 9 by omega)
  obtain ⟨n, hn, hn1⟩ : ∃ n : Nat, a0 % 9 = (n : Int) ∧ n ≤ 9 := ⟨(a0 % 9).toNat, by omega, by omega⟩
  have e0 := within_is a0 9 (wf64 w0) (by omega) (by omega) μ
  rw [hn] at e0
  obtain ⟨x, m1, e1, k1, s1⟩ := spNew_is hw (n := 5) (fixed := 2) (by omega) (by omega) (by omega)
  rw [show ((5 : Nat) : Int) = 5 from rfl, show ((2 : Nat) : Int) = 2 from rfl] at e1
  obtain ⟨m2, e2, k2, s2⟩ := (spTake_is k1.wf s1 (by omega) (fits_zero _ _ (by omega))).2 2 (by omega) rfl (by decide)
  rw [show ((2 : Nat) : Int) = 2 from rfl] at e2 s2
  have k2' := kn_same hw rfl k1 k2
  obtain ⟨m3, e3, k3, s3⟩ := shares_loop hw (x := x) (n := n) (by omega) n 0 m2 (by omega) k2' s2
  obtain ⟨m4, e4, k4, s4⟩ := drops_loop hw (x := x) (n := n) (by omega) n 0 m3 (by omega) k3 (by rw [n0, Int.sub_zero]; exact s3)
  rw [n0] at e3 e4
  have kb := bumpS k4 46
  obtain ⟨y, m5, e5, k5, o5⟩ := spWaiting_is kb.wf (s4.same (Keep.bump k4.wf 46)) (by simp)
  obtain ⟨m6, hm6⟩ : ∃ m6, m6 = m5.set (m4.next + 2) (rowObj [.int .i64 2] 1 3 (some 1)) := ⟨_, rfl⟩
  have k45 : Same m4 m5 := (Keep.bump k4.wf 46).trans k5
  have hn5 := k5.next
  simp only [bump_next] at hn5
  have k46 : Same m4 m6 := by rw [hm6]; exact Keep.setS k4.wf k45 (by omega) (by omega)
  have s6 := s4.same k46
  have hy : IsRow m6 .i64 y [2] := by
    rw [hm6]
    refine row_set o5.row fun hi => ?_
    have := (own_lives o5 hi).1
    simp only [bump_next] at this
    omega
  have hz : IsRow m6 .i64 (.slice (m4.next + 2) 0 0 1) [2] := IsRow.made (o := rowObj [.int .i64 2] 1 3 (some 1)) (by rw [hm6]; simp) rfl rfl rfl
  have e6 := same_is hy hz (by simp)
  rw [decide_eq_true rfl] at e6
  have k6 := k4.trans k46
  have e7 := (spDrop_is k6.wf k6.next s6 (csv5_fit (by omega) (by omega) (by omega)) (by simp) 2).1 (csv5_of 0)
  obtain ⟨m8, e8, k8, s8⟩ := (spShare_is k6.wf s6 (csv5_fit (by omega) (by omega) (by omega)) 2).1 (csv5_of 0)
  have e9 := spUsed_is s8 2
  rw [show usedI 5 V5 2 = true by decide] at e9
  have e10 := spFree_is s8 (by omega)
  rw [show ((5 : Nat) : Int) - cntF V5 5 = 2 by decide] at e10
  obtain ⟨m9, e11, k9, s9⟩ := spCommit_is k8.wf s8 (by omega) (by simp) (by simp)
  rw [show ((([2] : List Int).length : Nat) : Int) = 1 by decide] at e11
  have e12 := spUsed_is s9 2
  rw [show usedI 5 (putV false V5 [2]) 2 = false by decide] at e12
  have e13 := spFree_is s9 (by omega)
  rw [show ((5 : Nat) : Int) - cntF (putV false V5 [2]) 5 = 3 by decide] at e13
  obtain ⟨mw, w⟩ := wakes_is m9 k9.wf
  refine ⟨mw, ?_⟩
  rw [overdublaw13_SpaceShares_eq]
  simp -implicitDefEqProofs only [e0, e1, s1.nn, e2, e3, e4, e5, ne_f (rfl : (0 : Int) = 0), ne_f (rfl : (2 : Int) = 2), Option.bind_some, decide_true, decide_false, cond_true, cond_false, seqJ_n, seqJ_r, seqJ_e, headK_c, asB_bool, asI_int, asS_s, asN_int, extrK_0, extrK_1, extrK_2, Bool.not_true, Bool.not_false, Nat.beq_refl]
  rw [← hm6]
  simp -implicitDefEqProofs only [e6, e7, e8, e9, e10, e11, e12, e13, w, eq_t (rfl : (1 : Int) = 1), eq_t (rfl : (2 : Int) = 2), eq_t (rfl : (3 : Int) = 3), Option.bind_some, decide_true, decide_false, cond_true, cond_false, seqJ_n, seqJ_r, seqJ_e, headK_c, asB_bool, asI_int, asS_s, asN_int, extrK_0, extrK_1, extrK_2, Bool.not_true, Bool.not_false, Nat.beq_refl]
end Go.Proofs.Ytkikncdhmifkaaa
