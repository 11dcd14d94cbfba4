/- Maps in use: what each call leaves. -/
import Derived.Test.YtkikncdhmifkaaaQMapNew
namespace Go.Proofs.Ytkikncdhmifkaaa
open Go Go.Proofs.Ytkikncdhmifkaaa.E
set_option linter.unusedVariables false
set_option linter.unusedSimpArgs false
theorem Mw.len {N : Nat} {μ : AMem} {x : SV} {n : Nat} {rs : List SV} {ws : List Int} (h : Mw N μ x n rs ws) : n ≤ 64 * ws.length := by
  obtain ⟨wss, _, ⟨_, _, h3, _⟩, h0⟩ := h.ex
  exact (h3 ws h0).1
theorem Mw.nn {N : Nat} {μ : AMem} {x : SV} {n : Nat} {rs : List SV} {ws : List Int} (h : Mw N μ x n rs ws) : isNil (.s x) = some false := by
  obtain ⟨wss, hm, _⟩ := h.ex
  exact hm.nn
theorem Mw.isPtr {N : Nat} {μ : AMem} {x : SV} {n : Nat} {rs : List SV} {ws : List Int} (h : Mw N μ x n rs ws) : ∃ sid, x = .ptr sid 0 0 := by
  obtain ⟨wss, ⟨sid, so, lid, lo, ver, rfl, _⟩, _⟩ := h.ex
  exact ⟨sid, rfl⟩
theorem Mw.ids {N : Nat} {μ : AMem} {x : SV} {n : Nat} {rs : List SV} {ws : List Int} (h : Mw N μ x n rs ws) {j : Nat} (hj : feet rs j) : N ≤ j := by
  obtain ⟨wss, hm, _⟩ := h.ex
  exact (hm.ids hj).1
theorem Mw.same {N : Nat} {μ μ' : AMem} {x : SV} {n : Nat} {rs : List SV} {ws : List Int} (h : Mw N μ x n rs ws) (hs : Same μ μ') : Mw N μ' x n rs ws := by
  obtain ⟨wss, hm, hl, h0⟩ := h.ex
  exact ⟨wss, hm.keep (S := fun _ => False) hs, hl, h0⟩
theorem U_setW {N : Nat} {μ : AMem} {x : SV} {n : Nat} {rs : List SV} {ws : List Int} (h : Mw N μ x n rs ws) {i : Nat} (hi : i < n) (b : Bool) (j : Nat) : U (setWd ws i b) j = if j = i then b else U ws j := by
  have := h.len
  exact U_set (by omega) b j
/-- Set, whatever it answers. -/
theorem mapSet_any {N : Nat} {μ : AMem} (hw : WF μ) {x : SV} {n : Nat} {rs : List SV} {ws : List Int} (h : Mw N μ x n rs ws) (hn : n ≤ 5000) (i : Int) (b : Bool) :
    ∃ a ws' μ', bitmap_Map_Set [.s x, .s (.int .i64 i), .s (.bool b)] μ = some (.s (.bool a), μ') ∧ Keep (feet rs) μ μ' ∧ Mw N μ' x n rs ws' := by
  obtain ⟨h1, h2⟩ := mapSet_is hw h hn i b
  by_cases hb : 0 ≤ i ∧ i < n
  · by_cases hu : usedZ n ws i = b
    · exact ⟨_, ws, μ, h1 (.inr hu), Keep.refl hw, h⟩
    · obtain ⟨m, e, k, g⟩ := h2 hb hu
      exact ⟨_, _, m, e, k, g⟩
  · exact ⟨_, ws, μ, h1 (.inl hb), Keep.refl hw, h⟩
theorem cnt_all {V : Nat → Bool} : ∀ n : Nat, (∀ j, j < n → V j = true) → cntF V n = n
  | 0, _ => rfl
  | n + 1, h => by rw [cntF, cnt_all n fun j hj => h j (by omega), h n (by omega), if_pos rfl]; rfl
end Go.Proofs.Ytkikncdhmifkaaa
