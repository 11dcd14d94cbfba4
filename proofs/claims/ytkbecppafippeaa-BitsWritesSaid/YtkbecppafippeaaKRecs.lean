/- Rows of records of numbers. -/
import Derived.Test.YtkbecppafippeaaKStep
namespace Go.Proofs.Ytkbecppafippeaa
open Go Go.Proofs.Ytkbecppafippeaa.E
set_option linter.unusedVariables false
set_option linter.unusedSimpArgs false
/-- x is a row of len records of m numbers, all of them zs. -/
def IsRecs (μ : AMem) (k : IntKind) (m : Nat) (x : SV) (zs : List Int) (len : Nat) : Prop :=
  zs.length = len * m ∧ ((x = .nilSlice ∧ len = 0) ∨ ∃ id ver off o, x = .slice id ver off len ∧ μ.obj id = some o ∧ o.ver = ver ∧ ∀ (i : Nat) n, zs[i]? = some n → o.cells[off + i]? = some (.int k n))
def plcR (m : Nat) (x : SV) (i : Int) : AV :=
  match x with
  | .slice id ver off _ => .s (.ptr id ver (off + i.toNat * m))
  | _ => .unk
def plcF (m : Nat) (x : SV) (i : Int) (f : Nat) : AV :=
  match x with
  | .slice id ver off _ => .s (.ptr id ver (off + i.toNat * m + f))
  | _ => .unk
theorem IsRecs.lenS {μ : AMem} {k : IntKind} {m : Nat} {x : SV} {zs : List Int} {len : Nat} (h : IsRecs μ k m x zs len) : lenS (.s x) = some len := by
  rcases h with ⟨_, ⟨rfl, rfl⟩ | ⟨id, ver, off, o, rfl, _⟩⟩ <;> rfl
theorem IsRecs.ind {μ : AMem} {k : IntKind} {m : Nat} {x : SV} {zs : List Int} {len : Nat} (h : IsRecs μ k m x zs len) {i : Int} (h0 : 0 ≤ i) (h1 : i < len) {R : Type} (K : AV → Option R) : indS m (.s x) i K = K (plcR m x i) := by
  rcases h with ⟨_, ⟨rfl, rfl⟩ | ⟨id, ver, off, o, rfl, _⟩⟩
  · omega
  · simp [indS, plcR, h0, h1]
theorem IsRecs.add {μ : AMem} {k : IntKind} {m : Nat} {x : SV} {zs : List Int} {len : Nat} (h : IsRecs μ k m x zs len) {i : Int} (h0 : 0 ≤ i) (h1 : i < len) (f : Nat) {R : Type} (K : AV → Option R) : ptrAdd f (plcR m x i) K = K (plcF m x i f) := by
  rcases h with ⟨_, ⟨rfl, rfl⟩ | ⟨id, ver, off, o, rfl, _⟩⟩
  · omega
  · rfl
theorem IsRecs.load {μ : AMem} {k : IntKind} {m : Nat} {x : SV} {zs : List Int} {len : Nat} (h : IsRecs μ k m x zs len) {i : Nat} (h1 : i < len) {f : Nat} (hf : f < m) {R : Type} (K : AV → Option R) : loadAt μ (plcF m x (i : Int) f) K = K (.s (.int k (zs.getD (i * m + f) 0))) := by
  obtain ⟨hl, ⟨rfl, rfl⟩ | ⟨id, ver, off, o, rfl, ho, hv, hc⟩⟩ := h
  · omega
  · have hlt : i * m + f < zs.length := by
      rw [hl]
      calc i * m + f < i * m + m := by omega
        _ = (i + 1) * m := by rw [Nat.add_mul]; simp
        _ ≤ len * m := Nat.mul_le_mul_right _ (by omega)
    have hg := hc (i * m + f) _ (List.getElem?_eq_getElem hlt)
    have e : off + ((i : Nat) : Int).toNat * m + f = off + (i * m + f) := by rw [nat_toNat, Nat.add_assoc]
    simp only [plcF, loadAt, AMem.cell, ho, Option.bind_some, hv, if_true, e, hg]
    rw [List.getD_eq_getElem?_getD, List.getElem?_eq_getElem hlt]; rfl
theorem IsRecs.same {μ μ' : AMem} {k : IntKind} {m : Nat} {x : SV} {zs : List Int} {len : Nat} (h : IsRecs μ k m x zs len) (hs : Same μ μ') : IsRecs μ' k m x zs len := by
  obtain ⟨hl, h0 | ⟨id, ver, off, o, rfl, ho, r⟩⟩ := h
  · exact ⟨hl, .inl h0⟩
  · exact ⟨hl, .inr ⟨id, ver, off, o, rfl, hs.old id o ho fun h => h, r⟩⟩
theorem IsRecs.wf {μ : AMem} {k : IntKind} {m : Nat} {x : SV} {zs : List Int} {len : Nat} (h : IsRecs μ k m x zs len) (hz : ∀ n ∈ zs, (Lit.int k n).wf = true) {i : Nat} (h1 : i < len) {f : Nat} (hf : f < m) : (Lit.int k (zs.getD (i * m + f) 0)).wf = true := by
  have hlt : i * m + f < zs.length := by
    rw [h.1]
    calc i * m + f < i * m + m := by omega
      _ = (i + 1) * m := by rw [Nat.add_mul]; simp
      _ ≤ len * m := Nat.mul_le_mul_right _ (by omega)
  rw [getD_lt hlt]
  exact hz _ (List.getElem_mem hlt)
theorem IsRecs.arg {k : IntKind} {m : Nat} {zs : List Int} {len : Nat} {l : List Arg} {j : Nat} {a : Arg} (h : Arg.isRecs k zs len a) (hq : zs.length = len * m) (hj : l[j]? = some a) : ∃ x, a.val j = .s x ∧ IsRecs (argMem l) k m x zs len := by
  cases a with
  | nil =>
    obtain ⟨rfl, rfl⟩ := h
    exact ⟨.nilSlice, rfl, hq, .inl ⟨rfl, rfl⟩⟩
  | rs k' zs' len' =>
    obtain ⟨rfl, rfl, rfl⟩ := h
    exact ⟨_, rfl, hq, .inr ⟨j, 0, 0, rowA (zs'.map (.int k')), rfl, by simp [argMem, hj, Arg.obj], rfl, fun i n hi => by rw [Nat.zero_add]; simp [rowA, hi]⟩⟩
  | _ => exact h.elim
end Go.Proofs.Ytkbecppafippeaa
