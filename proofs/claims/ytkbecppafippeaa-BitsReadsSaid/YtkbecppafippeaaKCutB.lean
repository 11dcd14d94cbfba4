/- What Cut of bytes comes to. -/
import Derived.Test.YtkbecppafippeaaKBase
namespace Go.Proofs.Ytkbecppafippeaa
open Go Go.Proofs.Ytkbecppafippeaa.E
set_option linter.unusedVariables false
set_option linter.unusedSimpArgs false
theorem cutB_is {μ : AMem} {x : SV} {zs : List Int} (h : IsRow μ .u8 x zs) (n : Nat) :
    ∃ y, overdubkeep_Cut_byte [.s x, .s (.int .i64 n)] μ = some (.s y, μ) ∧ IsRow μ .u8 y (zs.take n) := by
  rw [overdubkeep_Cut_byte_eq, h.len]
  simp only [Option.bind_some]
  have e : (if ((n : Nat) : Int) < ((zs.length : Nat) : Int) then ((n : Nat) : Int) else ((zs.length : Nat) : Int)) = ((min n zs.length : Nat) : Int) := by split <;> omega
  rw [e, h.cut (by omega) (by omega) (by omega)]
  refine ⟨_, rfl, ?_⟩
  have := h.cutRow (a := 0) (b := ((min n zs.length : Nat) : Int)) (by omega) (by omega) (by omega)
  have e2 : (zs.take (((min n zs.length : Nat) : Int)).toNat).drop (0 : Int).toNat = zs.take n := by
    simp only [Int.toNat_zero, List.drop_zero]
    rw [show (((min n zs.length : Nat) : Int)).toNat = min n zs.length by omega]
    rcases Nat.le_total n zs.length with hl | hl
    · rw [Nat.min_eq_left hl]
    · rw [Nat.min_eq_right hl, List.take_of_length_le (Nat.le_refl _), List.take_of_length_le hl]
  rw [e2] at this
  exact this
end Go.Proofs.Ytkbecppafippeaa
