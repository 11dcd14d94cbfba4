/- Rows that were just made. -/
import Derived.Test.YtkbecppafippeaaKRows
namespace Go.Proofs.Ytkbecppafippeaa
open Go Go.Proofs.Ytkbecppafippeaa.E
set_option linter.unusedVariables false
set_option linter.unusedSimpArgs false
/-- A row that was just made: nothing behind it is known but that it is zeros. -/
def Fresh (N : Nat) (μ : AMem) (k : IntKind) (e : TypeId) (x : SV) (zs : List Int) : Prop :=
  (x = .nilSlice ∧ zs = []) ∨ ∃ id o, x = .slice id 0 0 zs.length ∧ N ≤ id ∧ μ.obj id = some o ∧ o.own = true ∧ o.ver = 0 ∧ o.size = 1 ∧ o.elem = e ∧ o.cells = zs.map (.int k)
theorem Fresh.own {N : Nat} {μ : AMem} {k : IntKind} {e : TypeId} {x : SV} {zs : List Int} (h : Fresh N μ k e x zs) : OwnRow N μ k e x zs := by
  rcases h with h | ⟨id, o, rfl, hN, ho, hw, hv, hs, he, hc⟩
  · exact .inl h
  · exact .inr ⟨id, 0, o, rfl, hN, ho, hw, hv, hs, he, fun i n hi => by rw [hc, List.getElem?_map, hi]; rfl⟩
theorem Fresh.keep {N : Nat} {m m' : AMem} {S : Nat → Prop} {k : IntKind} {e : TypeId} {x : SV} {zs : List Int} (h : Fresh N m k e x zs) (hk : Keep S m m') (hS : ∀ j, S j → ¬ isId x j) : Fresh N m' k e x zs := by
  rcases h with h | ⟨id, o, rfl, hN, ho, r⟩
  · exact .inl h
  · exact .inr ⟨id, o, rfl, hN, hk.old id o ho fun h => hS id h rfl, r⟩
theorem Fresh.same {N : Nat} {m m' : AMem} {k : IntKind} {e : TypeId} {x : SV} {zs : List Int} (h : Fresh N m k e x zs) (hk : Same m m') : Fresh N m' k e x zs := h.keep hk fun _ h => h.elim
/-- A copy of a row, just made. -/
theorem copyF {μ0 μ : AMem} (h0 : WF μ0) (hs : Same μ0 μ) {k : IntKind} {e : TypeId} {x : SV} {zs : List Int} (hx : IsRow μ k x zs) {B b n : Nat} (hB : 1 ≤ B) (hb : zs.length * B ≤ 140737488355328) (hbn : b < n) :
    ∃ y μ', (∀ {R : Type} (K : AV → AMem → Option R), appendA e 1 B (μ.next + b) (μ.bump n) (.s .nilSlice) (.s x) K = K (.s y) μ') ∧ Same μ0 μ' ∧ Fresh μ0.next μ' k e y zs := by
  obtain ⟨hyl, hyr⟩ := row_cells (hx.same (Keep.bump hs.wf n))
  have hmul : zs.length ≤ zs.length * B := Nat.le_mul_of_pos_right _ hB
  have hnx := hs.next
  by_cases hw0 : zs = []
  · subst hw0
    refine ⟨.nilSlice, μ.bump n, fun K => ?_, bumpS hs n, .inl ⟨rfl, rfl⟩⟩
    simp only [appendA, hyl, Option.bind_some, hyr, appendS]; simp
  · have hwp : ¬ zs.length = 0 := fun h => hw0 (List.eq_nil_of_length_eq_zero h)
    refine ⟨.slice (μ.next + b) 0 0 zs.length, (μ.bump n).set (μ.next + b) (rowObj (zs.map (.int k)) 1 e none), fun K => ?_, newS hs hbn _, .inr ⟨_, _, rfl, by omega, set_self _ _ _, rfl, rfl, rfl, rfl, rfl⟩⟩
    simp only [appendA, hyl, Option.bind_some, hyr, appendS]
    rw [if_pos ⟨hb, by omega⟩, if_neg hwp]
end Go.Proofs.Ytkbecppafippeaa
