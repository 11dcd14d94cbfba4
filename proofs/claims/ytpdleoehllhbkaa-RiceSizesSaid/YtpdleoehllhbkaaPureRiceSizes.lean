/- The plain answer of RiceSizes. -/
import Derived.Test.YtpdleoehllhbkaaQBest
import Derived.Test.YtpdleoehllhbkaaQWakes
import Derived.Test.YtpdleoehllhbkaaKCut
namespace Go.Proofs.Ytpdleoehllhbkaa
open Go Go.Proofs.Ytpdleoehllhbkaa.E
set_option linter.unusedVariables false
set_option linter.unusedSimpArgs false
theorem pureRiceSizes (a0 : Int) (w0 : (Lit.int .i64 a0).wf = true) (a1 : Int) (w1 : (Lit.int .i64 a1).wf = true) (x2 : Arg) (z2 : List Int) (s2 : Arg.isRow .i64 z2 x2) (w2 : ∀ n ∈ z2, (Lit.int .i64 n).wf = true) (y2 : z2.length * 8 ≤ 140737488351232) :
    ∃ μ', overdublaw02_RiceSizes (argVals 0 [.i .i64 a0, .i .i64 a1, x2]) (argMem [.i .i64 a0, .i .i64 a1, x2]) = some (.s (.bool true), μ') := by
  obtain ⟨a, ha, hx⟩ := IsRow.arg (l := [.i .i64 a0, .i .i64 a1, x2]) (j := 2) s2 rfl
  have hw := WF.args [.i .i64 a0, .i .i64 a1, x2]
  show ∃ μ', overdublaw02_RiceSizes [.s (.int .i64 a0), .s (.int .i64 a1), x2.val 2] _ = _
  rw [ha]
  generalize argMem [.i .i64 a0, .i .i64 a1, x2] = μ at *
  have c70 : (((70 : Nat) : Int)) = 70 := rfl
  obtain ⟨d, e1, hd⟩ := cutN_is hx 70
  rw [c70] at e1
  have hl : (z2.take 70).length ≤ 70 := by simp; omega
  have e2 := best_is hd (by omega)
  have e3 := refBest_is hd (by omega)
  have hb : ∀ n : Int, (n == n) = true := fun n => by simp
  rw [overdublaw02_RiceSizes_eq]
  simp -implicitDefEqProofs only [e1, e2, e3, size_is, refSize_is, hb, wakes_is, Option.bind_some, decide_true, decide_false, cond_true, cond_false, seqJ_n, seqJ_r, seqJ_e, headK_c, asB_bool, asI_int, asS_s, asN_int, extrK_0, extrK_1, extrK_2, Bool.not_true, Bool.not_false, Nat.beq_refl]
  exact ⟨_, rfl⟩
end Go.Proofs.Ytpdleoehllhbkaa
