/- The plain answer of FrameDecodes. -/
import Derived.Test.YtadhelkiinaenaaZkc
/- The plain answer of FrameDecodes. -/
namespace Go.Proofs.Ytadhelkiinaenaa
open Go Go.Proofs.Ytadhelkiinaenaa.E
set_option linter.unusedVariables false
set_option linter.unusedSimpArgs false
theorem pureFrameDecodes (x0 : Arg) (z0 : List Int) (s0 : Arg.isRow .u8 z0 x0) (w0 : ∀ n ∈ z0, (Lit.int .u8 n).wf = true) (y0 : z0.length * 1 ≤ 140737488351232) :
    ∃ μ', overdublaw08_FrameDecodes (argVals 0 [x0]) (argMem [x0]) = some (.s (.bool true), μ') := by
  obtain ⟨a, ha, hx⟩ := IsRow.arg (l := [x0]) (j := 0) s0 rfl
  show ∃ μ', overdublaw08_FrameDecodes [x0.val 0] _ = _
  rw [ha]
  obtain ⟨m, e, _⟩ := decodes_is (WF.args [x0]) hx fun v hv => wf8 (w0 v hv)
  exact ⟨m, e⟩
end Go.Proofs.Ytadhelkiinaenaa
