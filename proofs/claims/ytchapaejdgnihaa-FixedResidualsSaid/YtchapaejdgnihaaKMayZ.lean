/- Samples that may be. -/
import Derived.Test.YtchapaejdgnihaaKBase
namespace Go.Proofs.Ytchapaejdgnihaa
open Go Go.Proofs.Ytchapaejdgnihaa.E
set_option linter.unusedVariables false
set_option linter.unusedSimpArgs false
def okS (v : Int) : Bool := decide (v ≥ -8388608) && decide (v ≤ 8388607)
def checkZ (zs : List Int) : Int := if zs.all okS then (if zs.length > 64 then 4 else 0) else 8
theorem okS_spec {v : Int} (h : okS v = true) : -8388608 ≤ v ∧ v ≤ 8388607 := by simp [okS] at h; omega
theorem checkZ_ok {zs : List Int} (h : checkZ zs = 0) : (∀ v ∈ zs, -8388608 ≤ v ∧ v ≤ 8388607) ∧ zs.length ≤ 64 := by
  unfold checkZ at h
  split at h
  · rename_i ha
    split at h
    · omega
    · exact ⟨fun v hv => okS_spec (List.all_eq_true.mp ha v hv), by omega⟩
  · omega
end Go.Proofs.Ytchapaejdgnihaa
