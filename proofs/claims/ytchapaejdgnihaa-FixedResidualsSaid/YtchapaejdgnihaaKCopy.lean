/- What Copy comes to. -/
import Derived.Test.YtchapaejdgnihaaKRows
namespace Go.Proofs.Ytchapaejdgnihaa
open Go Go.Proofs.Ytchapaejdgnihaa.E
set_option linter.unusedVariables false
set_option linter.unusedSimpArgs false
theorem copy_is {μ : AMem} (h0 : WF μ) {x : SV} {zs : List Int} (hx : IsRow μ .i64 x zs) (hb : zs.length ≤ 1000000000000) :
    ∃ y μ', overdubkeep_Copy_int [.s x] μ = some (.s y, μ') ∧ Same μ μ' ∧ OwnRow μ.next μ' .i64 3 y zs := by
  obtain ⟨y, μ', g1, g2, g3⟩ := copyS (e := 3) (B := 8) (b := 1) (n := 3) h0 (Keep.refl h0) hx (by omega) (by omega) (by omega)
  refine ⟨y, μ', ?_, g2, g3⟩
  rw [overdubkeep_Copy_int_eq, g1, asS_s]
end Go.Proofs.Ytchapaejdgnihaa
