/- A number behind one of several rows of the call's own: the others stay. -/
import Derived.Test.YtchapaejdgnihaaKRows
namespace Go.Proofs.Ytchapaejdgnihaa
open Go Go.Proofs.Ytchapaejdgnihaa.E
set_option linter.unusedVariables false
set_option linter.unusedSimpArgs false
/-- Two rows are not of one object. -/
def Apart (x y : SV) : Prop := ∀ id, isId x id → ¬ isId y id
theorem Apart.symm {x y : SV} (h : Apart x y) : Apart y x := fun id h1 h2 => h id h2 h1
theorem apart_nil (y : SV) : Apart .nilSlice y := fun id h _ => h.elim
theorem own_lives {N : Nat} {μ : AMem} {k : IntKind} {e : TypeId} {x : SV} {zs : List Int} (h : OwnRow N μ k e x zs) {id : Nat} (hi : isId x id) : N ≤ id ∧ ∃ o, μ.obj id = some o := by
  rcases h with ⟨rfl, _⟩ | ⟨j, ver, o, rfl, hN, ho, _⟩
  · exact hi.elim
  · have : j = id := hi
    subst this
    exact ⟨hN, o, ho⟩
/-- The literal's box is written, then the row grows: what else lives stays, what else is free stays free. -/
theorem pushX {μ0 m : AMem} (h0 : WF μ0) (hs : Same μ0 m) {k : IntKind} {e : TypeId} {x : SV} {zs : List Int} (h : OwnRow μ0.next m k e x zs) {B ra rb : Nat} (v : Int) (hB : 1 ≤ B) (hb : (zs.length + 1) * B ≤ 140737488355328)
    (ha0 : μ0.next ≤ ra) (hb0 : μ0.next ≤ rb) (ha : ra < m.next) (hbn : rb < m.next) (hab : ra ≠ rb) (hfa : m.obj ra = none) (hfb : m.obj rb = none) {q : Option Nat} :
    ∃ x' m', (∀ {R : Type} (K : AV → AMem → Option R), appendA e 1 B rb (m.set ra (rowObj [.int k v] 1 e q)) (.s x) (.s (.slice ra 0 0 1)) K = K (.s x') m') ∧ Same μ0 m' ∧ OwnRow μ0.next m' k e x' (zs ++ [v]) ∧ m'.next = m.next ∧
      (∀ id o, m.obj id = some o → ¬ isId x id → m'.obj id = some o) ∧ (∀ id, id ≠ ra → id ≠ rb → m.obj id = none → m'.obj id = none) ∧ (∀ id, isId x' id → isId x id ∨ id = rb) := by
  have hsm : Same μ0 (m.set ra (rowObj [.int k v] 1 e q)) := Keep.setS h0 hs ha0 ha
  have hy : IsRow (m.set ra (rowObj [.int k v] 1 e q)) k (.slice ra 0 0 1) [v] := IsRow.made (o := rowObj [.int k v] 1 e q) (by simp) rfl rfl rfl
  have hne : ∀ id o, m.obj id = some o → id ≠ ra := fun id o ho e => by rw [e, hfa] at ho; cases ho
  have h' : OwnRow μ0.next (m.set ra (rowObj [.int k v] 1 e q)) k e x zs := h.old fun id o ho _ => by rw [set_obj, if_neg (hne id o ho)]; exact ho
  obtain ⟨x', m', g1, g2, g3, g4, g5, g6⟩ := OwnRow.append hsm.wf h' hy hB (by simpa using hb) hb0 (by simp; exact hbn) (by rw [set_obj, if_neg (fun e => hab e.symm)]; exact hfb)
  refine ⟨x', m', g1, ⟨g3, by rw [g4]; exact hs.next, fun id o ho hf => g5.1 id o (hsm.old id o ho hf) (h'.notOld (h0.lt ho)), fun id hi hno => g5.2 id (by omega) (hsm.low id hi hno)⟩, g2, g4, fun id o ho hx => g5.1 id o (by rw [set_obj, if_neg (hne id o ho)]; exact ho) hx, fun id h1 h2 hno => g5.2 id h2 (by rw [set_obj, if_neg h1]; exact hno), g6⟩
/-- Another row of the call's own stays, and stays apart. -/
theorem other {N : Nat} {m m' : AMem} {k : IntKind} {e : TypeId} {x x' y : SV} {zs : List Int} {rb : Nat} (hy : OwnRow N m k e y zs) (hxy : Apart x y) (hfb : m.obj rb = none)
    (g5 : ∀ id o, m.obj id = some o → ¬ isId x id → m'.obj id = some o) (g6 : ∀ id, isId x' id → isId x id ∨ id = rb) : OwnRow N m' k e y zs ∧ Apart x' y := by
  refine ⟨hy.old fun id o ho hi => g5 id o ho fun hx => hxy id hx hi, fun id h1 h2 => ?_⟩
  rcases g6 id h1 with h3 | h3
  · exact hxy id h3 h2
  · obtain ⟨_, o, ho⟩ := own_lives hy h2
    rw [h3, hfb] at ho; cases ho
end Go.Proofs.Ytchapaejdgnihaa
