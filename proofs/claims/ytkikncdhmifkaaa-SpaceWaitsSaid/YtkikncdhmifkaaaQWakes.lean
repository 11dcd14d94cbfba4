/- The example of the document holds. -/
import Derived.Test.YtkikncdhmifkaaaQSpace4
namespace Go.Proofs.Ytkikncdhmifkaaa
open Go Go.Proofs.Ytkikncdhmifkaaa.E
set_option linter.unusedVariables false
set_option linter.unusedSimpArgs false
theorem fits_get {c : List Int} {k : Nat} (h : ∀ v ∈ c, 0 ≤ v ∧ v ≤ 1000) (hk : k ≤ 1000) : fits c k := fun v hv => by have := h v hv; omega
theorem row_set {m : AMem} {k : IntKind} {y : SV} {zs : List Int} (hy : IsRow m k y zs) {i : Nat} {o : AObj} (h : ¬ isId y i) : IsRow (m.set i o) k y zs := by
  rcases hy with ⟨rfl, rfl⟩ | ⟨id, ver, off, ob, rfl, ho, r⟩
  · exact .inl ⟨rfl, rfl⟩
  · exact .inr ⟨id, ver, off, ob, rfl, by rw [set_obj, if_neg (show ¬ id = i from h)]; exact ho, r⟩
theorem wakes_is (μ : AMem) (hw : WF μ) : ∃ μ', overdublaw13_wakes [] μ = some (.s (.bool true), μ') := by
  obtain ⟨x, H, m1, e1, k1, s1⟩ := spNew_is hw (n := 4) (fixed := 2) (by omega) (by omega) (by omega)
  rw [show ((4 : Nat) : Int) = 4 from rfl, show ((2 : Nat) : Int) = 2 from rfl] at e1
  obtain ⟨m2, e2, k2, s2⟩ := (spTake_is k1.wf s1 (by omega) (fits_zero _ _ (by omega))).2 2 (by omega) rfl (by decide)
  rw [show ((2 : Nat) : Int) = 2 from rfl] at e2 s2
  have k2' := s1.since hw k1 k2
  obtain ⟨m3, H3, e3, k3, _, s3⟩ := (spDrop_is k2.wf k2'.next s2 (fits_get (by decide) (by omega)) (by simp) 2).2 (by decide)
  rw [if_pos (by decide)] at s3
  have e4 := spFree_is s3 (by omega)
  rw [show ((4 : Nat) : Int) - cntF (setV (fun j => decide (j < 2)) 2 true) 4 = 1 by decide] at e4
  obtain ⟨m5, e5, k5, s5⟩ := spCommit_is k3.wf s3 (by omega) (by decide) (by decide)
  rw [show (((insK [] 2).length : Nat) : Int) = 1 by decide] at e5
  have e6 := spFree_is s5 (by omega)
  rw [show ((4 : Nat) : Int) - cntF (putV false (setV (fun j => decide (j < 2)) 2 true) (insK [] 2)) 4 = 2 by decide] at e6
  refine ⟨m5, ?_⟩
  rw [overdublaw13_wakes_eq]
  simp -implicitDefEqProofs only [e1, s1.nn, e2, e3, e4, e5, e6, ne_f (rfl : (0 : Int) = 0), eq_t (rfl : (0 : Int) = 0), eq_t (rfl : (1 : Int) = 1), eq_t (rfl : (2 : Int) = 2), Option.bind_some, decide_true, decide_false, cond_true, cond_false, seqJ_n, seqJ_r, seqJ_e, headK_c, asB_bool, asI_int, asS_s, asN_int, extrK_0, extrK_1, extrK_2, Bool.not_true, Bool.not_false, Nat.beq_refl]
end Go.Proofs.Ytkikncdhmifkaaa
