/- A record that is copied into a box. -/
import Derived.Test.YtkbecppafippeaaKRecs
namespace Go.Proofs.Ytkbecppafippeaa
open Go Go.Proofs.Ytkbecppafippeaa.E
set_option linter.unusedVariables false
set_option linter.unusedSimpArgs false
theorem set_set (μ : AMem) (i : Nat) (o o' : AObj) : (μ.set i o).set i o' = μ.set i o' := by
  unfold AMem.set
  congr 1
  funext j
  dsimp only
  split <;> rfl
theorem box3 {R : Type} (M : AMem) (i T : Nat) (q : Option Nat) (z1 z2 z3 a b c : SV) (K : AMem → Option R) :
    storeAt 3 (M.set i (rowObj [z1, z2, z3] 3 T q)) (.s (.ptr i 0 0)) (.agg [a, b, c]) K = K (M.set i (rowObj [a, b, c] 3 T q)) := by
  simp only [storeAt, AV.cells, List.length_cons, List.length_nil, AMem.store, set_self, Option.bind_some, rowObj, if_true, true_and, Nat.zero_add]
  rw [if_pos (Nat.le_refl _), Option.bind_some, set_set]
  rfl
theorem box3_0 (M : AMem) (i T : Nat) (q : Option Nat) (a b c : SV) : (M.set i (rowObj [a, b, c] 3 T q)).cell i 0 (0 + 0) = some a := by
  simp [AMem.cell, rowObj]
theorem box3_1 (M : AMem) (i T : Nat) (q : Option Nat) (a b c : SV) : (M.set i (rowObj [a, b, c] 3 T q)).cell i 0 (0 + 1) = some b := by
  simp [AMem.cell, rowObj]
theorem box3_2 (M : AMem) (i T : Nat) (q : Option Nat) (a b c : SV) : (M.set i (rowObj [a, b, c] 3 T q)).cell i 0 (0 + 2) = some c := by
  simp [AMem.cell, rowObj]
theorem loadN3 {μ : AMem} {id ver off : Nat} {a b c : SV} (h0 : μ.cell id ver off = some a) (h1 : μ.cell id ver (off + 1) = some b) (h2 : μ.cell id ver (off + 2) = some c) : μ.loadN id ver off 3 = some [a, b, c] := by
  simp only [AMem.loadN, h0, h1, h2, Option.bind_some, Option.map_some]
/-- A record of three numbers. -/
theorem rec3 {μ : AMem} {k : IntKind} {x : SV} {zs : List Int} {len : Nat} (h : IsRecs μ k 3 x zs len) {i : Nat} (h1 : i < len) {R : Type} (K : AV → Option R) :
    loadsAt μ 3 (plcR 3 x (i : Int)) K = K (.agg [.int k (zs.getD (i * 3 + 0) 0), .int k (zs.getD (i * 3 + 1) 0), .int k (zs.getD (i * 3 + 2) 0)]) := by
  obtain ⟨hl, ⟨rfl, rfl⟩ | ⟨id, ver, off, o, rfl, ho, hv, hc⟩⟩ := h
  · omega
  · have hg : ∀ f, f < 3 → μ.cell id ver (off + i * 3 + f) = some (.int k (zs.getD (i * 3 + f) 0)) := fun f hf => by
      have hlt : i * 3 + f < zs.length := by omega
      have := hc _ _ (List.getElem?_eq_getElem hlt)
      simp only [AMem.cell, ho, Option.bind_some, hv, if_true, Nat.add_assoc, this, getD_lt hlt]
    have e0 := hg 0 (by omega)
    have e1 := hg 1 (by omega)
    have e2 := hg 2 (by omega)
    rw [Nat.add_zero] at e0
    simp only [loadsAt, plcR, nat_toNat, loadN3 e0 e1 e2, Option.bind_some]
end Go.Proofs.Ytkbecppafippeaa
