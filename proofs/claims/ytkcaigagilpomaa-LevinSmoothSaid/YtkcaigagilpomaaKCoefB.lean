/- Coefficients that may be. -/
import Derived.Test.YtkcaigagilpomaaKBase
namespace Go.Proofs.Ytkcaigagilpomaa
open Go Go.Proofs.Ytkcaigagilpomaa.E
set_option linter.unusedVariables false
set_option linter.unusedSimpArgs false
def coefB (p : Int) : Bool := decide (-32768 ≤ p) && decide (p ≤ 32767)
def mayC (cs : List Int) : Bool := cs.all coefB && (decide (1 ≤ cs.length) && decide (cs.length ≤ 12))
theorem mayC_spec {cs : List Int} (h : mayC cs = true) : 1 ≤ cs.length ∧ cs.length ≤ 12 := by
  unfold mayC at h
  simp only [Bool.and_eq_true, decide_eq_true_eq] at h
  exact h.2
end Go.Proofs.Ytkcaigagilpomaa
