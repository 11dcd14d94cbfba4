/- The plain answer of FrameEncodes. -/
import Derived.Test.YtadhelkiinaenaaZkc
/- The plain answer of FrameEncodes. -/
namespace Go.Proofs.Ytadhelkiinaenaa
open Go Go.Proofs.Ytadhelkiinaenaa.E
set_option linter.unusedVariables false
set_option linter.unusedSimpArgs false
theorem pureFrameEncodes (x0 : Arg) (z0 : List Int) (s0 : Arg.isRow .i64 z0 x0) (w0 : ∀ n ∈ z0, (Lit.int .i64 n).wf = true) (y0 : z0.length * 8 ≤ 140737488351232) (a1 : Bool) (a2 : Int) (w2 : (Lit.int .i64 a2).wf = true) (a3 : Int) (w3 : (Lit.int .i64 a3).wf = true) (a4 : Int) (w4 : (Lit.int .i64 a4).wf = true) :
    ∃ μ', overdublaw08_FrameEncodes (argVals 0 [x0, .tf a1, .i .i64 a2, .i .i64 a3, .i .i64 a4]) (argMem [x0, .tf a1, .i .i64 a2, .i .i64 a3, .i .i64 a4]) = some (.s (.bool true), μ') := by
  obtain ⟨a, ha, hx⟩ := IsRow.arg (l := [x0, .tf a1, .i .i64 a2, .i .i64 a3, .i .i64 a4]) (j := 0) s0 rfl
  have hw := WF.args [x0, .tf a1, .i .i64 a2, .i .i64 a3, .i .i64 a4]
  show ∃ μ', overdublaw08_FrameEncodes [x0.val 0, .s (.bool a1), .s (.int .i64 a2), .s (.int .i64 a3), .s (.int .i64 a4)] _ = _
  rw [ha]
  generalize argMem [x0, .tf a1, .i .i64 a2, .i .i64 a3, .i .i64 a4] = μ at *
  have key : ∀ (m : AMem) (y : SV) (xs : List Int), WF m → IsRow m .i64 y xs → xs.length ≤ 1000 → ∃ c z w e m1 m2 m3 m4 m5, overdubkeep_Copy_int [.s y] m = some (.s c, m1) ∧ frame_Encode [.s c] m1 = some (.tuple [.s z, .s (.int .i64 e)], m2) ∧ overdubref05_Encode [.s y] m2 = some (.tuple [.s w, .s (.int .i64 e)], m3) ∧
      overdubkeep_Same_byte [.s z, .s w] m3 = some (.s (.bool true), m3) ∧ overdubkeep_Spoil [.s z] m3 = some (.tuple [], m4) ∧ overdubkeep_Same_int [.s y, .s c] m4 = some (.s (.bool true), m4) ∧ overdublaw08_wakes [] m4 = some (.s (.bool true), m5) := by
    intro m y xs hm hy hl
    obtain ⟨c, m1, e1, k1, o1⟩ := copy_is hm hy (by omega)
    by_cases hE : encE xs = 0
    · obtain ⟨ds, bs, z, m2, hds, hh, e2, k2, f2⟩ := (encode_is k1.wf o1.row (by omega)).2 hE
      obtain ⟨es, cs, w, m3, hes, hh3, e3, k3, o3⟩ := (refEncode_is k2.wf (hy.same (k1.trans k2)) (by omega)).2 hE
      rw [hds] at hes
      obtain rfl := Option.some.inj hes
      obtain rfl := holds_ext hh hh3
      have hEl : 1 ≤ xs.length ∧ xs.length ≤ 64 ∧ checkZ xs = 0 := by
        unfold encE at hE
        split at hE
        · cases hE
        · exact ⟨by omega, by omega, hE⟩
      have hbl : bs.length ≤ 6000 := by
        have := encD_small (checkZ_ok hEl.2.2).1 hEl.2.1 hds
        have := hh.1
        omega
      have f3 := f2.same k3
      have e4 := sameB_is f3.own.row o3.row (by omega)
      rw [decide_eq_true rfl] at e4
      obtain ⟨m4, e5, k5⟩ := spoil_is k3.wf f3
      have hzn : ∀ j, isId z j → m1.next ≤ j := fun j hj => (own_lives f3.own hj).1
      have k13 := k2.trans k3
      have hc4 : IsRow m4 .i64 c xs := rowKeep (o1.row.same k13) k5 fun j hj hc => by
        obtain ⟨o, ho⟩ := row_lives o1.row hc
        have := k1.wf.lt ho
        have := hzn j hj
        omega
      have hy4 : IsRow m4 .i64 y xs := rowKeep (hy.same (k1.trans k13)) k5 fun j hj hc => by
        obtain ⟨o, ho⟩ := row_lives hy hc
        have := hm.lt ho
        have := hzn j hj
        have := k1.next
        omega
      have e6 := same_is hy4 hc4 (by omega)
      rw [decide_eq_true rfl] at e6
      obtain ⟨m5, w5⟩ := wakes_is m4 k5.wf
      exact ⟨c, z, w, 0, m1, m2, m3, m4, m5, e1, e2, e3, e4, e5, e6, w5⟩
    · have e2 := (encode_is k1.wf o1.row (by omega)).1 hE
      have e3 := (refEncode_is k1.wf (hy.same k1) (by omega)).1 hE
      have e4 := sameB_is (μ := m1) (x := .nilSlice) (y := .nilSlice) (.inl ⟨rfl, rfl⟩) (.inl ⟨rfl, rfl⟩) (by simp)
      rw [decide_eq_true rfl] at e4
      obtain ⟨m4, e5, k5⟩ := spoil_is (N := 0) (x := .nilSlice) (bs := []) k1.wf (.inl ⟨rfl, rfl⟩)
      have e6 := same_is (rowKeep (hy.same k1) k5 fun j hj => hj.elim) (rowKeep o1.row k5 fun j hj => hj.elim) (by omega)
      rw [decide_eq_true rfl] at e6
      obtain ⟨m5, w5⟩ := wakes_is m4 k5.wf
      exact ⟨c, _, _, _, m1, m1, m1, m4, m5, e1, e2, e3, e4, e5, e6, w5⟩
  rw [overdublaw08_FrameEncodes_eq]
  by_cases c3 : Int.tmod a2 3 = 0
  · obtain ⟨X, m1, e1, k1, o1⟩ := samples_is hw 66 a1 hx w0 (by omega)
    rw [show ((66 : Nat) : Int) = 66 from rfl] at e1
    obtain ⟨c, z, w, e, m2, m3, m4, m5, m6, f1, f2, f3, f4, f5, f6, f7⟩ := key m1 X _ k1.wf o1.row (by simp; omega)
    refine ⟨m6, ?_⟩
    simp -implicitDefEqProofs only [ne_f c3, e1, f1, f2, f3, BEq.rfl, f4, f5, f6, f7, Option.bind_some, decide_true, decide_false, cond_true, cond_false, seqJ_n, seqJ_r, seqJ_e, headK_c, asB_bool, asI_int, asS_s, asN_int, extrK_0, extrK_1, extrK_2, Bool.not_true, Bool.not_false, Nat.beq_refl]
  · obtain ⟨X, m1, xs, e1, k1, o1, hl, ht⟩ := tone_is hw hx w0 (n := a4) (s2 := a2) (p3 := a3) (wf64 w4) (wf64 w2) (wf64 w3)
    have hm2 := Int.emod_lt_of_pos a4 (show (0 : Int) < 65 by omega)
    obtain ⟨c, z, w, e, m2, m3, m4, m5, m6, f1, f2, f3, f4, f5, f6, f7⟩ := key m1 X _ k1.wf o1.row (by omega)
    refine ⟨m6, ?_⟩
    simp -implicitDefEqProofs only [ne_t c3, e1, f1, f2, f3, BEq.rfl, f4, f5, f6, f7, Option.bind_some, decide_true, decide_false, cond_true, cond_false, seqJ_n, seqJ_r, seqJ_e, headK_c, asB_bool, asI_int, asS_s, asN_int, extrK_0, extrK_1, extrK_2, Bool.not_true, Bool.not_false, Nat.beq_refl]
end Go.Proofs.Ytadhelkiinaenaa
