/- Steps of a walk: facts with premises that arithmetic closes; a number put behind a row. -/
import Derived.Test.YtchapaejdgnihaaKBase
namespace Go.Proofs.Ytchapaejdgnihaa
open Go Go.Proofs.Ytchapaejdgnihaa.E
set_option linter.unusedVariables false
set_option linter.unusedSimpArgs false
theorem w64 {n : Int} (h : -9223372036854775808 ≤ n) (h' : n ≤ 9223372036854775807) : IntKind.wrap .i64 n = n := wr ⟨h, h'⟩
theorem lt_t {a b : Int} (h : a < b) : decide (a < b) = true := decide_eq_true h
theorem lt_f {a b : Int} (h : b ≤ a) : decide (a < b) = false := decide_eq_false (by omega)
theorem gt_t {a b : Int} (h : b < a) : decide (a > b) = true := decide_eq_true h
theorem gt_f {a b : Int} (h : a ≤ b) : decide (a > b) = false := decide_eq_false (by omega)
theorem le_t {a b : Int} (h : a ≤ b) : decide (a ≤ b) = true := decide_eq_true h
theorem le_f {a b : Int} (h : b < a) : decide (a ≤ b) = false := decide_eq_false (by omega)
theorem ge_t {a b : Int} (h : b ≤ a) : decide (a ≥ b) = true := decide_eq_true h
theorem ge_f {a b : Int} (h : a < b) : decide (a ≥ b) = false := decide_eq_false (by omega)
theorem ne_t {a b : Int} (h : ¬ a = b) : (a != b) = true := by simp [h]
theorem ne_f {a b : Int} (h : a = b) : (a != b) = false := by simp [h]
theorem eq_t {a b : Int} (h : a = b) : (a == b) = true := by simp [h]
theorem eq_f {a b : Int} (h : ¬ a = b) : (a == b) = false := by simp [h]
theorem n0 : ((0 : Nat) : Int) = 0 := rfl
theorem nsu (i : Nat) : ((i + 1 : Nat) : Int) = (i : Int) + 1 := rfl
theorem nat_toNat (i : Nat) : ((i : Nat) : Int).toNat = i := rfl
theorem chk {α : Type} {p : Prop} (h : p) (x : Option α) : checkA p x = x := checkA_pos h x
theorem chk_rfl {α β : Type} (a : α) (x : Option β) : checkA (a = a) x = x := checkA_pos rfl x
theorem chk_true {β : Type} (x : Option β) : checkA True x = x := checkA_pos trivial x
theorem ptrAdd_p {R : Type} (n a b c : Nat) (K : AV → Option R) : ptrAdd n (.s (.ptr a b c)) K = K (.s (.ptr a b (c + n))) := rfl
theorem loadAt_p {R : Type} (μ : AMem) (a b c : Nat) (K : AV → Option R) : loadAt μ (.s (.ptr a b c)) K = (μ.cell a b c).bind fun x => K (.s x) := rfl
theorem bump_cell (μ : AMem) (n a b c : Nat) : (μ.bump n).cell a b c = μ.cell a b c := rfl
theorem set_self (μ : AMem) (i : Nat) (o : AObj) : (μ.set i o).obj i = some o := by simp
/-- A number behind a row of the call's own. -/
theorem pushS {μ0 μ : AMem} (h0 : WF μ0) (hs : Same μ0 μ) {k : IntKind} {e : TypeId} {x : SV} {zs : List Int} (h : OwnRow μ0.next μ k e x zs) {B a b n : Nat} (v : Int) (hB : 1 ≤ B) (hb : (zs.length + 1) * B ≤ 140737488355328)
    (ha : a < n) (hbn : b < n) (hab : a ≠ b) {q : Option Nat} : ∃ x' μ', (∀ {R : Type} (K : AV → AMem → Option R), appendA e 1 B (μ.next + b) ((μ.bump n).set (μ.next + a) (rowObj [.int k v] 1 e q)) (.s x) (.s (.slice (μ.next + a) 0 0 1)) K = K (.s x') μ') ∧
      Same μ0 μ' ∧ OwnRow μ0.next μ' k e x' (zs ++ [v]) := by
  obtain ⟨y', μ', p1, p2, p3, p4, p5, p6⟩ := OwnRow.push (B := B) (a := a) (b := b) (n := n) (q := q) hs.wf h v hB hb hs.next ha hbn hab
  exact ⟨y', μ', p1, Same.push h0 hs h p3 p4 p5, p2⟩
theorem same_row {μ0 μ : AMem} {k : IntKind} {x : SV} {zs : List Int} (hs : Same μ0 μ) (hx : IsRow μ0 k x zs) : IsRow μ k x zs := hx.same hs
theorem bumpS {μ0 μ : AMem} (hs : Same μ0 μ) (n : Nat) : Same μ0 (μ.bump n) := hs.trans (Keep.bump hs.wf n)
/-- A new object of the call's own. -/
theorem newS {μ0 μ : AMem} (hs : Same μ0 μ) {n a : Nat} (ha : a < n) (o : AObj) : Same μ0 ((μ.bump n).set (μ.next + a) o) := hs.trans (Same.bumpSet hs.wf ha o)
theorem freshB {μ : AMem} (hw : WF μ) (n a : Nat) : (μ.bump n).obj (μ.next + a) = none := by rw [bump_obj]; exact hw _ (by omega)
theorem freshS {μ μ' : AMem} (hw : WF μ) {n a : Nat} (ha : a < n) (hs : Same (μ.bump n) μ') : μ'.obj (μ.next + a) = none := hs.low _ (by simp [ha]) (freshB hw n a)
theorem range_cons (f : Nat → Int) (i k : Nat) : (List.range' i (k + 1)).map f = f i :: (List.range' (i + 1) k).map f := rfl
theorem getD_lt {zs : List Int} {i : Nat} (h : i < zs.length) : zs.getD i 0 = zs[i] := by rw [List.getD_eq_getElem?_getD, List.getElem?_eq_getElem h]; rfl
theorem take_snoc {zs : List Int} {i : Nat} (h : i < zs.length) : zs.take (i + 1) = zs.take i ++ [zs.getD i 0] := by rw [List.take_add_one, List.getElem?_eq_getElem h, getD_lt h]; rfl
/-- A cut from the beginning. -/
theorem E.IsRow.front {μ : AMem} {k : IntKind} {x : SV} {zs : List Int} (h : IsRow μ k x zs) {n : Nat} (hn : n ≤ zs.length) : ∃ y, (∀ {R : Type} (K : AV → Option R), cutS 1 (.s x) 0 (n : Int) K = K (.s y)) ∧ IsRow μ k y (zs.take n) := by
  refine ⟨cutV x 0 n, fun K => h.cut (by omega) (by omega) (by omega) K, ?_⟩
  have := h.cutRow (a := 0) (b := (n : Int)) (by omega) (by omega) (by omega)
  simpa using this
/-- A cut up to the end. -/
theorem E.IsRow.back {μ : AMem} {k : IntKind} {x : SV} {zs : List Int} (h : IsRow μ k x zs) {n : Nat} (hn : n ≤ zs.length) : ∃ y, (∀ {R : Type} (K : AV → Option R), cutS 1 (.s x) (n : Int) (zs.length : Int) K = K (.s y)) ∧ IsRow μ k y (zs.drop n) := by
  refine ⟨cutV x n zs.length, fun K => h.cut (by omega) (by omega) (by omega) K, ?_⟩
  have := h.cutRow (a := n) (b := (zs.length : Int)) (by omega) (by omega) (by omega)
  simpa using this
theorem zerosA_rep (v : SV) : ∀ n, zerosA [v] n = List.replicate n v
  | 0 => rfl
  | n + 1 => by
    have := zerosA_rep v n
    simp only [zerosA, List.replicate_succ] at this ⊢
    simp_all
/-- A row of noughts that was made. -/
theorem zeros_row {μ : AMem} {id : Nat} {n : Nat} {q : Option Nat} {e : TypeId} (h : μ.obj id = some (rowObj (zerosA [.int .i64 0] n) 1 e q)) : IsRow μ .i64 (.slice id 0 0 n) (List.replicate n 0) :=
  IsRow.made h (by simp) rfl (by show zerosA _ n = _; rw [zerosA_rep]; simp)
end Go.Proofs.Ytchapaejdgnihaa
