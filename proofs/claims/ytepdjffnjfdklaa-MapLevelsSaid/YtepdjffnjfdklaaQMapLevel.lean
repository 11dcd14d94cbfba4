/- Levels of a map. -/
import Derived.Test.YtepdjffnjfdklaaQMapUse
namespace Go.Proofs.Ytepdjffnjfdklaa
open Go Go.Proofs.Ytepdjffnjfdklaa.E
set_option linter.unusedVariables false
set_option linter.unusedSimpArgs false
theorem mapLevel_is {N : Nat} {μ : AMem} (hw : WF μ) {x : SV} {n : Nat} {rs : List SV} {wss : List (List Int)} (h : Mp N μ x n rs wss) {k : Nat} {ws : List Int} (hk : wss[k]? = some ws) (hl : ws.length ≤ 10000) (hk2 : k ≤ 100) :
    ∃ y μ', bitmap_Map_Level [.s x, .s (.int .i64 k)] μ = some (.s y, μ') ∧ Same μ μ' ∧ OwnRow μ.next μ' .u64 31 y ws := by
  obtain ⟨sid, r, L, p, rfl, hr, hc0, hc1, hL, hi, hld, ⟨e, ho⟩, hok⟩ := h.level hk
  obtain ⟨y, m, g1, g2, g3⟩ := copyS (e := 31) (B := 8) (b := 7) (n := 9) hw (Keep.refl hw) ho.row (by omega) (by omega) (by omega)
  have hkl := (List.getElem?_eq_some_iff.mp hk).1
  have hld9 : ∀ {R : Type} (K : AV → Option R), loadAt (μ.bump 9) p K = K (.s r) := fun K => hld K
  refine ⟨y, m, ?_, g2, g3⟩
  rw [bitmap_Map_Level_eq]
  simp -implicitDefEqProofs only [lt_f (show (0 : Int) ≤ (k : Int) by omega), hc1, hL, ge_f (show (k : Int) < (wss.length : Int) by omega), bump_cell, hi, hld9, g1, Option.bind_some, decide_true, decide_false, cond_true, cond_false, seqJ_n, seqJ_r, seqJ_e, headK_c, asB_bool, asI_int, asS_s, asN_int, extrK_0, extrK_1, extrK_2, Bool.not_true, Bool.not_false, Nat.beq_refl]
end Go.Proofs.Ytepdjffnjfdklaa
