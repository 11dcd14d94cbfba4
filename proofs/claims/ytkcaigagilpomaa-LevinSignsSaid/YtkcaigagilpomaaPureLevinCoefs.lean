/- The plain answer of LevinCoefs. -/
import Derived.Test.YtkcaigagilpomaaQLevin2
import Derived.Test.YtkcaigagilpomaaQWakes
import Derived.Test.YtkcaigagilpomaaKSamples
import Derived.Test.YtkcaigagilpomaaKSame
namespace Go.Proofs.Ytkcaigagilpomaa
open Go Go.Proofs.Ytkcaigagilpomaa.E
set_option linter.unusedVariables false
set_option linter.unusedSimpArgs false

theorem coefL_len (R : List Int) : ∀ (n i : Nat) (e : Int) (A B : List Int), coefL R n i e A = some B → B.length = A.length
  | 0, i, e, A, B, h => by simp only [coefL, Option.some.injEq] at h; rw [h]
  | n + 1, i, e, A, B, h => by
    rw [coefL] at h
    split at h
    · cases h
    · rw [coefL_len R n _ _ _ B h]; simp [upd_len]
theorem cfZ_len (xs : List Int) (p : Int) : (cfRow (cfZ xs p)).length ≤ 13 := by
  unfold cfZ
  split
  · rename_i hok
    have := hok.2.1
    split
    · simp [cfRow]
    · rename_i B hB
      have hl := coefL_len _ _ _ _ _ _ hB
      simp only [List.length_replicate] at hl
      split
      · show (B.drop 1).length ≤ 13
        simp; omega
      · simp [cfRow]
  · simp [cfRow]
theorem pureLevinCoefs (x0 : Arg) (z0 : List Int) (s0 : Arg.isRow .i64 z0 x0) (w0 : ∀ n ∈ z0, (Lit.int .i64 n).wf = true) (y0 : z0.length * 8 ≤ 140737488351232) (a1 : Int) (w1 : (Lit.int .i64 a1).wf = true) (a2 : Bool) :
    ∃ μ', overdublaw07_LevinCoefs (argVals 0 [x0, .i .i64 a1, .tf a2]) (argMem [x0, .i .i64 a1, .tf a2]) = some (.s (.bool true), μ') := by
  obtain ⟨a, ha, hx⟩ := IsRow.arg (l := [x0, .i .i64 a1, .tf a2]) (j := 0) s0 rfl
  have hw := WF.args [x0, .i .i64 a1, .tf a2]
  show ∃ μ', overdublaw07_LevinCoefs [x0.val 0, .s (.int .i64 a1), .s (.bool a2)] _ = _
  rw [ha]
  generalize argMem [x0, .i .i64 a1, .tf a2] = μ at *
  have c70 : (((70 : Nat) : Int)) = 70 := rfl
  obtain ⟨X, m1, e1, k1, o1⟩ := samples_is hw 70 a2 hx w0 (by omega)
  rw [c70] at e1
  have lx : ((z0.take 70).map (sampleZ a2)).length ≤ 70 := by simp; omega
  generalize ((z0.take 70).map (sampleZ a2)) = xs at *
  obtain ⟨l, m2, e2, k2, o2⟩ := levin_is k1.wf o1.row (by omega) (wf64 w1)
  obtain ⟨r, m3, e3, k3, o3⟩ := refLevin_is k2.wf (o1.row.same k2) (by omega) (wf64 w1)
  have e4 := same_is (o2.same k3) o3 (by have := cfZ_len xs a1; omega)
  rw [decide_eq_true rfl] at e4
  obtain ⟨μ', e5⟩ := wakes_is m3 k3.wf
  rw [overdublaw07_LevinCoefs_eq]
  have hbb : ((cfZ xs a1).isSome == (cfZ xs a1).isSome) = true := by simp
  simp -implicitDefEqProofs only [e1, e2, e3, hbb, e4, e5, Option.bind_some, decide_true, decide_false, cond_true, cond_false, seqJ_n, seqJ_r, seqJ_e, headK_c, asB_bool, asI_int, asS_s, asN_int, extrK_0, extrK_1, extrK_2, Bool.not_true, Bool.not_false, Nat.beq_refl]
  exact ⟨_, rfl⟩
end Go.Proofs.Ytkcaigagilpomaa
