/- The plain answer of LpcGuesses. -/
import Derived.Test.YtbknenfbdhginaaQCut
import Derived.Test.YtbknenfbdhginaaQWakes
namespace Go.Proofs.Ytbknenfbdhginaa
open Go Go.Proofs.Ytbknenfbdhginaa.E
set_option linter.unusedVariables false
theorem pureLpcGuesses (x0 : Arg) (z0 : List Int) (s0 : Arg.isRow .i64 z0 x0) (w0 : ∀ n ∈ z0, (Lit.int .i64 n).wf = true) (y0 : z0.length * 8 ≤ 140737488351232) (x1 : Arg) (z1 : List Int) (s1 : Arg.isRow .i64 z1 x1) (w1 : ∀ n ∈ z1, (Lit.int .i64 n).wf = true) (y1 : z1.length * 8 ≤ 140737488351232) :
    ∃ μ', overdublaw06_LpcGuesses (argVals 0 [x0, x1]) (argMem [x0, x1]) = some (.s (.bool true), μ') := by
  obtain ⟨a, ha, hx⟩ := IsRow.arg (l := [x0, x1]) (j := 0) s0 rfl
  obtain ⟨b, hb, hy⟩ := IsRow.arg (l := [x0, x1]) (j := 1) s1 rfl
  have hw := WF.args [x0, x1]
  show ∃ μ', overdublaw06_LpcGuesses [x0.val 0, x1.val 1] _ = _
  rw [ha, hb]
  generalize argMem [x0, x1] = μ at *
  obtain ⟨c, hc, hc'⟩ := cutN_is hx 30
  obtain ⟨d, hd, hd'⟩ := cutN_is hy 20
  have h30 : (((30 : Nat) : Int)) = 30 := rfl
  have h20 : (((20 : Nat) : Int)) = 20 := rfl
  rw [h30] at hc
  rw [h20] at hd
  rw [overdublaw06_LpcGuesses_eq, hc, Option.bind_some, asS_s, hd, Option.bind_some, asS_s, guess_is hc' hd' (by simp; omega), Option.bind_some, asI_int, refGuess_is hc' hd' (by simp; omega), Option.bind_some, asI_int]
  obtain ⟨μ', hwk⟩ := wakes_is _ hw
  simp only [beq_self_eq_true, cond_true, hwk, Option.bind_some, asB_bool]
  exact ⟨_, rfl⟩
end Go.Proofs.Ytbknenfbdhginaa
