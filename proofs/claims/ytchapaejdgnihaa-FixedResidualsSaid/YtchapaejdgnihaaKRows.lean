/- Rows behind rows. -/
import Derived.Test.YtchapaejdgnihaaKStep
namespace Go.Proofs.Ytchapaejdgnihaa
open Go Go.Proofs.Ytchapaejdgnihaa.E
set_option linter.unusedVariables false
set_option linter.unusedSimpArgs false
/-- A row behind a row of the call's own. -/
theorem appS {μ0 μ : AMem} (h0 : WF μ0) (hs : Same μ0 μ) {k : IntKind} {e : TypeId} {x y : SV} {zs ws : List Int} (h : OwnRow μ0.next μ k e x zs) (hy : IsRow μ k y ws) {B nid : Nat} (hB : 1 ≤ B) (hb : (zs.length + ws.length) * B ≤ 140737488355328)
    (hN : μ0.next ≤ nid) (hlt : nid < μ.next) (hf : μ.obj nid = none) : ∃ x' μ', (∀ {R : Type} (K : AV → AMem → Option R), appendA e 1 B nid μ (.s x) (.s y) K = K (.s x') μ') ∧ Same μ0 μ' ∧ OwnRow μ0.next μ' k e x' (zs ++ ws) := by
  obtain ⟨x', μ', g1, g2, g3, g4, g5, g6⟩ := OwnRow.append hs.wf h hy hB hb hN hlt hf
  exact ⟨x', μ', g1, ⟨g3, by rw [g4]; exact hs.next, fun id o ho hf => g5.1 id o (hs.old id o ho hf) (h.notOld (h0.lt ho)), fun id hi hno => g5.2 id (by omega) (hs.low id hi hno)⟩, g2⟩
/-- A number behind a row of the call's own, where its box was reserved ahead of a call. -/
theorem pushM {μ0 μ m : AMem} (h0 : WF μ0) (hs : Same μ0 μ) {n : Nat} (hm : Same (μ.bump n) m) {k : IntKind} {e : TypeId} {x : SV} {zs : List Int} (h : OwnRow μ0.next μ k e x zs) {B a b : Nat} (v : Int) (hB : 1 ≤ B) (hb : (zs.length + 1) * B ≤ 140737488355328)
    (ha : a < n) (hbn : b < n) (hab : a ≠ b) {q : Option Nat} : ∃ x' μ', (∀ {R : Type} (K : AV → AMem → Option R), appendA e 1 B (μ.next + b) (m.set (μ.next + a) (rowObj [.int k v] 1 e q)) (.s x) (.s (.slice (μ.next + a) 0 0 1)) K = K (.s x') μ') ∧
      Same μ0 μ' ∧ OwnRow μ0.next μ' k e x' (zs ++ [v]) := by
  have hn := hs.next
  have hmn := hm.next
  simp only [bump_next] at hmn
  have hsm : Same μ0 (m.set (μ.next + a) (rowObj [.int k v] 1 e q)) := Keep.setS h0 ((bumpS hs n).trans hm) (by omega) (by omega)
  have hy : IsRow (m.set (μ.next + a) (rowObj [.int k v] 1 e q)) k (.slice (μ.next + a) 0 0 1) [v] := IsRow.made (o := rowObj [.int k v] 1 e q) (by simp) rfl rfl rfl
  have h' : OwnRow μ0.next (m.set (μ.next + a) (rowObj [.int k v] 1 e q)) k e x zs := h.old fun id o ho _ => by
    have := hs.wf.lt ho
    rw [set_obj, if_neg (by omega)]
    exact hm.old _ _ ho (fun h => h)
  exact appS h0 hsm h' hy hB (by simpa using hb) (by omega) (by simp; omega) (by rw [set_obj, if_neg (by omega)]; exact freshS hs.wf hbn hm)
/-- A copy of a row. -/
theorem copyS {μ0 μ : AMem} (h0 : WF μ0) (hs : Same μ0 μ) {k : IntKind} {e : TypeId} {x : SV} {zs : List Int} (hx : IsRow μ k x zs) {B b n : Nat} (hB : 1 ≤ B) (hb : zs.length * B ≤ 140737488355328) (hbn : b < n) :
    ∃ y μ', (∀ {R : Type} (K : AV → AMem → Option R), appendA e 1 B (μ.next + b) (μ.bump n) (.s .nilSlice) (.s x) K = K (.s y) μ') ∧ Same μ0 μ' ∧ OwnRow μ0.next μ' k e y zs := by
  have hN := hs.next
  obtain ⟨y, μ', g1, g2, g3⟩ := appS (e := e) (B := B) (nid := μ.next + b) h0 (bumpS hs n) (OwnRow.nil μ0.next (μ.bump n) k e) (hx.same (Keep.bump hs.wf n)) hB (by simpa using hb) (by omega) (by simp; omega) (freshB hs.wf n b)
  exact ⟨y, μ', g1, g2, by simpa using g3⟩
/-- A copy of a row, and which object it is. -/
theorem copyI {μ0 μ : AMem} (h0 : WF μ0) (hs : Same μ0 μ) {k : IntKind} {e : TypeId} {x : SV} {zs : List Int} (hx : IsRow μ k x zs) {B b n : Nat} (hB : 1 ≤ B) (hb : zs.length * B ≤ 140737488355328) (hbn : b < n) :
    ∃ y μ', (∀ {R : Type} (K : AV → AMem → Option R), appendA e 1 B (μ.next + b) (μ.bump n) (.s .nilSlice) (.s x) K = K (.s y) μ') ∧ Same μ0 μ' ∧ OwnRow μ0.next μ' k e y zs ∧ μ'.next = μ.next + n ∧ ∀ id, isId y id → id = μ.next + b := by
  have hN := hs.next
  obtain ⟨x', μ', g1, g2, g3, g4, g5, g6⟩ := OwnRow.append (B := B) (nid := μ.next + b) (bumpS hs n).wf (OwnRow.nil μ0.next (μ.bump n) k e) (hx.same (Keep.bump hs.wf n)) hB (by simpa using hb) (by omega) (by simp; omega) (freshB hs.wf n b)
  refine ⟨x', μ', g1, ⟨g3, by rw [g4]; exact (bumpS hs n).next, fun id o ho hf => g5.1 id o ((bumpS hs n).old id o ho hf) fun h => h, fun id hi hno => g5.2 id (by omega) ((bumpS hs n).low id hi hno)⟩, by simpa using g2, g4, fun id hid => (g6 id hid).resolve_left fun h => h⟩
def leftZ (g : List Int → Int) (n : Nat) (xs : List Int) : List Int := (List.range' n (xs.length - n)).map fun i => xs.getD i 0 - g (xs.take i)
theorem drop_cons {zs : List Int} {i : Nat} (h : i < zs.length) : zs.drop i = zs.getD i 0 :: zs.drop (i + 1) := by rw [List.drop_eq_getElem_cons h, getD_lt h]
theorem take_map_snoc {zs : List Int} (f : Int → Int) {i : Nat} (h : i < zs.length) : (zs.take (i + 1)).map f = (zs.take i).map f ++ [f (zs.getD i 0)] := by rw [take_snoc h, List.map_append]; rfl
theorem getD_mem {zs : List Int} {i : Nat} (h : i < zs.length) : zs.getD i 0 ∈ zs := by rw [getD_lt h]; exact List.getElem_mem h
theorem take_min {zs : List Int} {i n : Nat} (h : i = min n zs.length) : zs.take i = zs.take n := by
  subst h
  rcases Nat.le_total n zs.length with hl | hl
  · rw [Nat.min_eq_left hl]
  · rw [Nat.min_eq_right hl, List.take_of_length_le (Nat.le_refl _), List.take_of_length_le hl]
end Go.Proofs.Ytchapaejdgnihaa
