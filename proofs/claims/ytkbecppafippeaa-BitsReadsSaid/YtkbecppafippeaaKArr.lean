/- Arrays of a function's own. -/
import Derived.Test.YtkbecppafippeaaKStore
namespace Go.Proofs.Ytkbecppafippeaa
open Go Go.Proofs.Ytkbecppafippeaa.E
set_option linter.unusedVariables false
set_option linter.unusedSimpArgs false
def Arr (μ : AMem) (id : Nat) (vs : List SV) : Prop := ∃ o, μ.obj id = some o ∧ o.own = true ∧ o.ver = 0 ∧ o.cells = vs
theorem Arr.cell {μ : AMem} {id : Nat} {vs : List SV} (h : Arr μ id vs) {k : Nat} {v : SV} (hv : vs[k]? = some v) : μ.cell id 0 (0 + k * 1) = some v := by
  obtain ⟨o, h1, h2, h3, h4⟩ := h
  simp only [AMem.cell, h1, Option.bind_some, h3, if_true, h4, Nat.zero_add, Nat.mul_one, hv]
theorem Arr.keep {μ μ' : AMem} {S : Nat → Prop} {id : Nat} {vs : List SV} (h : Arr μ id vs) (hK : Keep S μ μ') (hS : ¬ S id) : Arr μ' id vs := by
  obtain ⟨o, h1, r⟩ := h
  exact ⟨o, hK.old _ _ h1 hS, r⟩
theorem overA_set (vs : List SV) {k : Nat} (hk : k < vs.length) (v : SV) : overA vs k [v] = vs.set k v := by
  apply List.ext_getElem?
  intro j
  rw [overA_get _ _ _ hk, List.getElem?_set]
  by_cases h : j = k
  · rw [if_pos h, if_pos h.symm, if_pos hk]
  · rw [if_neg h, if_neg fun e => h e.symm]
theorem Arr.store {μ : AMem} (hw : WF μ) {id : Nat} {vs : List SV} (h : Arr μ id vs) {k : Nat} (hk : k < vs.length) (v : SV) : ∃ μ', μ.store id 0 (0 + k * 1) [v] = some μ' ∧ Keep (fun j => j = id) μ μ' ∧ Arr μ' id (vs.set k v) := by
  obtain ⟨o, h1, h2, h3, h4⟩ := h
  refine ⟨μ.set id { o with cells := overA o.cells (0 + k * 1) [v] }, ?_, Keep.set hw h1 rfl, ⟨_, set_self .., h2, h3, ?_⟩⟩
  · simp only [AMem.store, h1, Option.bind_some]
    rw [if_pos ⟨h2, h3, by rw [h4]; simp; omega⟩]
  · show overA o.cells (0 + k * 1) [v] = _
    rw [Nat.zero_add, Nat.mul_one, h4, overA_set vs hk]
theorem indP_p {R : Type} (len id ver off : Nat) {i : Int} (h : 0 ≤ i ∧ i < len) (K : AV → Option R) : indP len 1 (.s (.ptr id ver off)) i K = K (.s (.ptr id ver (off + i.toNat * 1))) := by
  simp only [indP]
  rw [if_pos h]
theorem Arr.new {μ : AMem} {id : Nat} {vs : List SV} {n : Nat} {e : TypeId} {q : Option Nat} (h : μ.obj id = some (rowObj vs n e q)) : Arr μ id vs := ⟨_, h, rfl, rfl, rfl⟩
theorem ints_get {cs : List Int} {k : Nat} (h : k < cs.length) : (cs.map (SV.int .i64))[k]? = some (.int .i64 (cs.getD k 0)) := by
  rw [List.getElem?_map, List.getElem?_eq_getElem h, getD_lt h]; rfl
theorem ints_set (cs : List Int) (k : Nat) (v : Int) : (cs.map (SV.int .i64)).set k (.int .i64 v) = (cs.set k v).map (SV.int .i64) := by
  rw [List.map_set]
end Go.Proofs.Ytkbecppafippeaa
