/- The plain answer of BlockPacks. -/
import Derived.Test.YtnjenjbodcihmaaGreatZkc
namespace Go.Proofs.YtnjenjbodcihmaaGreat
open Go Go.Proofs.YtnjenjbodcihmaaGreat.E
set_option linter.unusedVariables false
set_option linter.unusedSimpArgs false
theorem packE_zero {xs : List Int} (h : packE xs = 0) : tame xs ∧ 1 ≤ xs.length := by
  unfold packE at h
  by_cases h0 : xs.length = 0
  · rw [if_pos h0] at h; omega
  · rw [if_neg h0] at h
    cases ha : xs.all okS
    · rw [ha] at h; simp at h
    · exact ⟨allOk_tame ha, by omega⟩
theorem pureBlockPacks (x0 : Arg) (z0 : List Int) (s0 : Arg.isRow .i64 z0 x0) (w0 : ∀ n ∈ z0, (Lit.int .i64 n).wf = true) (y0 : z0.length * 8 ≤ 140737488351232) (a1 : Bool) (a2 : Int) (w2 : (Lit.int .i64 a2).wf = true) (a3 : Int) (w3 : (Lit.int .i64 a3).wf = true) (a4 : Int) (w4 : (Lit.int .i64 a4).wf = true) :
    ∃ μ', overdublaw09_BlockPacks (argVals 0 [x0, .tf a1, .i .i64 a2, .i .i64 a3, .i .i64 a4]) (argMem [x0, .tf a1, .i .i64 a2, .i .i64 a3, .i .i64 a4]) = some (.s (.bool true), μ') := by
  obtain ⟨a, ha, hx⟩ := IsRow.arg (l := [x0, .tf a1, .i .i64 a2, .i .i64 a3, .i .i64 a4]) (j := 0) s0 rfl
  have hw := WF.args [x0, .tf a1, .i .i64 a2, .i .i64 a3, .i .i64 a4]
  show ∃ μ', overdublaw09_BlockPacks [x0.val 0, .s (.bool a1), .s (.int .i64 a2), .s (.int .i64 a3), .s (.int .i64 a4)] _ = _
  rw [ha]
  generalize argMem [x0, .tf a1, .i .i64 a2, .i .i64 a3, .i .i64 a4] = μ at *
  have hfst : ∃ y m xs, ((Int.tmod a2 3 != 0) = true ∧ overdublaw08_Tone [.s a, .s (.int .i64 a4), .s (.int .i64 a2), .s (.int .i64 a3)] μ = some (.s y, m) ∨ (Int.tmod a2 3 != 0) = false ∧ overdubkeep_Samples [.s a, .s (.int .i64 80), .s (.bool a1)] μ = some (.s y, m)) ∧ WF m ∧ IsRow m .i64 y xs ∧ xs.length ≤ 80 := by
    by_cases c : Int.tmod a2 3 = 0
    · obtain ⟨y, m, e1, k1, o1⟩ := samples_is hw 80 a1 hx w0 (by omega)
      exact ⟨y, m, _, .inr ⟨ne_f c, e1⟩, k1.wf, o1.row, by simp; omega⟩
    · obtain ⟨y, m, ys, e1, k1, o1, hl, hnr⟩ := tone_is hw hx w0 (n := a4) (s2 := a2) (p3 := a3) (wf64 w4) (wf64 w2) (wf64 w3)
      exact ⟨y, m, ys, .inl ⟨ne_t c, e1⟩, k1.wf, o1.row, by omega⟩
  obtain ⟨y, m, xs, hor, hwm, hy, hl⟩ := hfst
  obtain ⟨p, tid, m1, e2, k1, c1⟩ := coderNew_is hwm
  have hy1 := hy.same k1
  have hlt1 := c1.lt k1.wf
  by_cases hz : packE xs = 0
  · obtain ⟨ht, h1⟩ := packE_zero hz
    obtain ⟨b, bs, ds, m2, d1, hh1, l1, e3, k2, c2, o2⟩ := pack_is k1.wf k1.next c1 (by omega) hy1 (by omega) ht h1
    have hy2 : IsRow m2 .i64 y xs := rowKeep hy1 k2 fun j hj e => offOld hwm c1 (Nat.le_refl _) hy j e hj
    obtain ⟨b2, bs2, ds2, m3, d2, hh2, e4, k3, o3⟩ := refPack_is k2.wf hy2 (by omega) ht h1
    rw [d1] at d2
    obtain rfl := Option.some.inj d2
    obtain rfl := holds_ext hh1 hh2
    have e5 := sameB_is (o2.row.same k3) o3.row (by rw [sealZ_len l1]; omega)
    rw [decide_eq_true rfl] at e5
    obtain ⟨m9, e9⟩ := wakes_is m3 k3.wf
    refine ⟨m9, ?_⟩
    rw [overdublaw09_BlockPacks_eq]
    rcases hor with ⟨c, e1⟩ | ⟨c, e1⟩ <;> simp -implicitDefEqProofs only [c, e1, e2, isNil_ptr, e3, e4, eq_t (rfl : (0 : Int) = 0), eq_t (rfl : (packN xs : Int) = _), e5, e9, ss]
  · have e3 := pack_no (p := p) hy1 (by omega) hz
    have e4 := refPack_no hy1 (by omega) hz
    have e5 := sameB_is (μ := m1) (x := .nilSlice) (y := .nilSlice) (zs := []) (ws := []) (.inl ⟨rfl, rfl⟩) (.inl ⟨rfl, rfl⟩) (by simp)
    rw [decide_eq_true rfl] at e5
    obtain ⟨m9, e9⟩ := wakes_is m1 k1.wf
    refine ⟨m9, ?_⟩
    rw [overdublaw09_BlockPacks_eq]
    rcases hor with ⟨c, e1⟩ | ⟨c, e1⟩ <;> simp -implicitDefEqProofs only [c, e1, e2, isNil_ptr, e3, e4, eq_t (rfl : (0 : Int) = 0), eq_t (rfl : packE xs = _), e5, e9, ss]
end Go.Proofs.YtnjenjbodcihmaaGreat
