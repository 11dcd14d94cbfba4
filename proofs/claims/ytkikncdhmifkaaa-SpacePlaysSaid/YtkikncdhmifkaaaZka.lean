/- What the functions come to. -/
import Derived.Test.YtkikncdhmifkaaaZs
/- Whole numbers of 64 digits, products. -/
namespace Go.Proofs.Ytkikncdhmifkaaa
open Go Go.Proofs.Ytkikncdhmifkaaa.E
set_option linter.unusedVariables false
set_option linter.unusedSimpArgs false
theorem wr {n : Int} (h : -9223372036854775808 ≤ n ∧ n ≤ 9223372036854775807) : IntKind.wrap .i64 n = n := i64_in' n h
theorem wf64 {n : Int} (h : (Lit.int .i64 n).wf = true) : -9223372036854775808 ≤ n ∧ n ≤ 9223372036854775807 := by
  simpa [Lit.wf, IntKind.min, IntKind.max, IntKind.signed, IntKind.bits] using h
theorem prod_le {a b A B : Int} (h1 : -A ≤ a) (h2 : a ≤ A) (h3 : -B ≤ b) (h4 : b ≤ B) : -(A * B) ≤ a * b ∧ a * b ≤ A * B := by
  have hA : 0 ≤ A := by omega
  have hB : 0 ≤ B := by omega
  have e1 := Int.mul_nonneg (show 0 ≤ A - a by omega) (show 0 ≤ B - b by omega)
  have e2 := Int.mul_nonneg (show 0 ≤ A + a by omega) (show 0 ≤ B + b by omega)
  have e3 := Int.mul_nonneg (show 0 ≤ A - a by omega) (show 0 ≤ B + b by omega)
  have e4 := Int.mul_nonneg (show 0 ≤ A + a by omega) (show 0 ≤ B - b by omega)
  simp only [Int.sub_mul, Int.mul_sub, Int.add_mul, Int.mul_add] at e1 e2 e3 e4
  constructor <;> omega
end Go.Proofs.Ytkikncdhmifkaaa
/- Steps of a walk: facts with premises that arithmetic closes; a number put behind a row. -/
namespace Go.Proofs.Ytkikncdhmifkaaa
open Go Go.Proofs.Ytkikncdhmifkaaa.E
set_option linter.unusedVariables false
set_option linter.unusedSimpArgs false
theorem w64 {n : Int} (h : -9223372036854775808 ≤ n) (h' : n ≤ 9223372036854775807) : IntKind.wrap .i64 n = n := wr ⟨h, h'⟩
theorem lt_t {a b : Int} (h : a < b) : decide (a < b) = true := decide_eq_true h
theorem lt_f {a b : Int} (h : b ≤ a) : decide (a < b) = false := decide_eq_false (by omega)
theorem gt_t {a b : Int} (h : b < a) : decide (a > b) = true := decide_eq_true h
theorem gt_f {a b : Int} (h : a ≤ b) : decide (a > b) = false := decide_eq_false (by omega)
theorem le_t {a b : Int} (h : a ≤ b) : decide (a ≤ b) = true := decide_eq_true h
theorem le_f {a b : Int} (h : b < a) : decide (a ≤ b) = false := decide_eq_false (by omega)
theorem ge_t {a b : Int} (h : b ≤ a) : decide (a ≥ b) = true := decide_eq_true h
theorem ge_f {a b : Int} (h : a < b) : decide (a ≥ b) = false := decide_eq_false (by omega)
theorem ne_t {a b : Int} (h : ¬ a = b) : (a != b) = true := by simp [h]
theorem ne_f {a b : Int} (h : a = b) : (a != b) = false := by simp [h]
theorem eq_t {a b : Int} (h : a = b) : (a == b) = true := by simp [h]
theorem eq_f {a b : Int} (h : ¬ a = b) : (a == b) = false := by simp [h]
theorem n0 : ((0 : Nat) : Int) = 0 := rfl
theorem nsu (i : Nat) : ((i + 1 : Nat) : Int) = (i : Int) + 1 := rfl
theorem nat_toNat (i : Nat) : ((i : Nat) : Int).toNat = i := rfl
theorem chk {α : Type} {p : Prop} (h : p) (x : Option α) : checkA p x = x := checkA_pos h x
theorem chk_rfl {α β : Type} (a : α) (x : Option β) : checkA (a = a) x = x := checkA_pos rfl x
theorem chk_true {β : Type} (x : Option β) : checkA True x = x := checkA_pos trivial x
theorem ptrAdd_p {R : Type} (n a b c : Nat) (K : AV → Option R) : ptrAdd n (.s (.ptr a b c)) K = K (.s (.ptr a b (c + n))) := rfl
theorem loadAt_p {R : Type} (μ : AMem) (a b c : Nat) (K : AV → Option R) : loadAt μ (.s (.ptr a b c)) K = (μ.cell a b c).bind fun x => K (.s x) := rfl
theorem bump_cell (μ : AMem) (n a b c : Nat) : (μ.bump n).cell a b c = μ.cell a b c := rfl
theorem set_self (μ : AMem) (i : Nat) (o : AObj) : (μ.set i o).obj i = some o := by simp
/-- A number behind a row of the call's own. -/
theorem pushS {μ0 μ : AMem} (h0 : WF μ0) (hs : Same μ0 μ) {k : IntKind} {e : TypeId} {x : SV} {zs : List Int} (h : OwnRow μ0.next μ k e x zs) {B a b n : Nat} (v : Int) (hB : 1 ≤ B) (hb : (zs.length + 1) * B ≤ 140737488355328)
    (ha : a < n) (hbn : b < n) (hab : a ≠ b) {q : Option Nat} : ∃ x' μ', (∀ {R : Type} (K : AV → AMem → Option R), appendA e 1 B (μ.next + b) ((μ.bump n).set (μ.next + a) (rowObj [.int k v] 1 e q)) (.s x) (.s (.slice (μ.next + a) 0 0 1)) K = K (.s x') μ') ∧
      Same μ0 μ' ∧ OwnRow μ0.next μ' k e x' (zs ++ [v]) := by
  obtain ⟨y', μ', p1, p2, p3, p4, p5, p6⟩ := OwnRow.push (B := B) (a := a) (b := b) (n := n) (q := q) hs.wf h v hB hb hs.next ha hbn hab
  exact ⟨y', μ', p1, Same.push h0 hs h p3 p4 p5, p2⟩
theorem same_row {μ0 μ : AMem} {k : IntKind} {x : SV} {zs : List Int} (hs : Same μ0 μ) (hx : IsRow μ0 k x zs) : IsRow μ k x zs := hx.same hs
theorem bumpS {μ0 μ : AMem} (hs : Same μ0 μ) (n : Nat) : Same μ0 (μ.bump n) := hs.trans (Keep.bump hs.wf n)
/-- A new object of the call's own. -/
theorem newS {μ0 μ : AMem} (hs : Same μ0 μ) {n a : Nat} (ha : a < n) (o : AObj) : Same μ0 ((μ.bump n).set (μ.next + a) o) := hs.trans (Same.bumpSet hs.wf ha o)
theorem freshB {μ : AMem} (hw : WF μ) (n a : Nat) : (μ.bump n).obj (μ.next + a) = none := by rw [bump_obj]; exact hw _ (by omega)
theorem freshS {μ μ' : AMem} (hw : WF μ) {n a : Nat} (ha : a < n) (hs : Same (μ.bump n) μ') : μ'.obj (μ.next + a) = none := hs.low _ (by simp [ha]) (freshB hw n a)
theorem range_cons (f : Nat → Int) (i k : Nat) : (List.range' i (k + 1)).map f = f i :: (List.range' (i + 1) k).map f := rfl
theorem getD_lt {zs : List Int} {i : Nat} (h : i < zs.length) : zs.getD i 0 = zs[i] := by rw [List.getD_eq_getElem?_getD, List.getElem?_eq_getElem h]; rfl
theorem take_snoc {zs : List Int} {i : Nat} (h : i < zs.length) : zs.take (i + 1) = zs.take i ++ [zs.getD i 0] := by rw [List.take_add_one, List.getElem?_eq_getElem h, getD_lt h]; rfl
/-- A cut from the beginning. -/
theorem E.IsRow.front {μ : AMem} {k : IntKind} {x : SV} {zs : List Int} (h : IsRow μ k x zs) {n : Nat} (hn : n ≤ zs.length) : ∃ y, (∀ {R : Type} (K : AV → Option R), cutS 1 (.s x) 0 (n : Int) K = K (.s y)) ∧ IsRow μ k y (zs.take n) := by
  refine ⟨cutV x 0 n, fun K => h.cut (by omega) (by omega) (by omega) K, ?_⟩
  have := h.cutRow (a := 0) (b := (n : Int)) (by omega) (by omega) (by omega)
  simpa using this
/-- A cut up to the end. -/
theorem E.IsRow.back {μ : AMem} {k : IntKind} {x : SV} {zs : List Int} (h : IsRow μ k x zs) {n : Nat} (hn : n ≤ zs.length) : ∃ y, (∀ {R : Type} (K : AV → Option R), cutS 1 (.s x) (n : Int) (zs.length : Int) K = K (.s y)) ∧ IsRow μ k y (zs.drop n) := by
  refine ⟨cutV x n zs.length, fun K => h.cut (by omega) (by omega) (by omega) K, ?_⟩
  have := h.cutRow (a := n) (b := (zs.length : Int)) (by omega) (by omega) (by omega)
  simpa using this
theorem zerosA_rep (v : SV) : ∀ n, zerosA [v] n = List.replicate n v
  | 0 => rfl
  | n + 1 => by
    have := zerosA_rep v n
    simp only [zerosA, List.replicate_succ] at this ⊢
    simp_all
/-- A row of noughts that was made. -/
theorem zeros_row {μ : AMem} {id : Nat} {n : Nat} {q : Option Nat} {e : TypeId} (h : μ.obj id = some (rowObj (zerosA [.int .i64 0] n) 1 e q)) : IsRow μ .i64 (.slice id 0 0 n) (List.replicate n 0) :=
  IsRow.made h (by simp) rfl (by show zerosA _ n = _; rw [zerosA_rep]; simp)
end Go.Proofs.Ytkikncdhmifkaaa
/- Rows behind rows. -/
namespace Go.Proofs.Ytkikncdhmifkaaa
open Go Go.Proofs.Ytkikncdhmifkaaa.E
set_option linter.unusedVariables false
set_option linter.unusedSimpArgs false
/-- A row behind a row of the call's own. -/
theorem appS {μ0 μ : AMem} (h0 : WF μ0) (hs : Same μ0 μ) {k : IntKind} {e : TypeId} {x y : SV} {zs ws : List Int} (h : OwnRow μ0.next μ k e x zs) (hy : IsRow μ k y ws) {B nid : Nat} (hB : 1 ≤ B) (hb : (zs.length + ws.length) * B ≤ 140737488355328)
    (hN : μ0.next ≤ nid) (hlt : nid < μ.next) (hf : μ.obj nid = none) : ∃ x' μ', (∀ {R : Type} (K : AV → AMem → Option R), appendA e 1 B nid μ (.s x) (.s y) K = K (.s x') μ') ∧ Same μ0 μ' ∧ OwnRow μ0.next μ' k e x' (zs ++ ws) := by
  obtain ⟨x', μ', g1, g2, g3, g4, g5, g6⟩ := OwnRow.append hs.wf h hy hB hb hN hlt hf
  exact ⟨x', μ', g1, ⟨g3, by rw [g4]; exact hs.next, fun id o ho hf => g5.1 id o (hs.old id o ho hf) (h.notOld (h0.lt ho)), fun id hi hno => g5.2 id (by omega) (hs.low id hi hno)⟩, g2⟩
/-- A number behind a row of the call's own, where its box was reserved ahead of a call. -/
theorem pushM {μ0 μ m : AMem} (h0 : WF μ0) (hs : Same μ0 μ) {n : Nat} (hm : Same (μ.bump n) m) {k : IntKind} {e : TypeId} {x : SV} {zs : List Int} (h : OwnRow μ0.next μ k e x zs) {B a b : Nat} (v : Int) (hB : 1 ≤ B) (hb : (zs.length + 1) * B ≤ 140737488355328)
    (ha : a < n) (hbn : b < n) (hab : a ≠ b) {q : Option Nat} : ∃ x' μ', (∀ {R : Type} (K : AV → AMem → Option R), appendA e 1 B (μ.next + b) (m.set (μ.next + a) (rowObj [.int k v] 1 e q)) (.s x) (.s (.slice (μ.next + a) 0 0 1)) K = K (.s x') μ') ∧
      Same μ0 μ' ∧ OwnRow μ0.next μ' k e x' (zs ++ [v]) := by
  have hn := hs.next
  have hmn := hm.next
  simp only [bump_next] at hmn
  have hsm : Same μ0 (m.set (μ.next + a) (rowObj [.int k v] 1 e q)) := Keep.setS h0 ((bumpS hs n).trans hm) (by omega) (by omega)
  have hy : IsRow (m.set (μ.next + a) (rowObj [.int k v] 1 e q)) k (.slice (μ.next + a) 0 0 1) [v] := IsRow.made (o := rowObj [.int k v] 1 e q) (by simp) rfl rfl rfl
  have h' : OwnRow μ0.next (m.set (μ.next + a) (rowObj [.int k v] 1 e q)) k e x zs := h.old fun id o ho _ => by
    have := hs.wf.lt ho
    rw [set_obj, if_neg (by omega)]
    exact hm.old _ _ ho (fun h => h)
  exact appS h0 hsm h' hy hB (by simpa using hb) (by omega) (by simp; omega) (by rw [set_obj, if_neg (by omega)]; exact freshS hs.wf hbn hm)
/-- A copy of a row. -/
theorem copyS {μ0 μ : AMem} (h0 : WF μ0) (hs : Same μ0 μ) {k : IntKind} {e : TypeId} {x : SV} {zs : List Int} (hx : IsRow μ k x zs) {B b n : Nat} (hB : 1 ≤ B) (hb : zs.length * B ≤ 140737488355328) (hbn : b < n) :
    ∃ y μ', (∀ {R : Type} (K : AV → AMem → Option R), appendA e 1 B (μ.next + b) (μ.bump n) (.s .nilSlice) (.s x) K = K (.s y) μ') ∧ Same μ0 μ' ∧ OwnRow μ0.next μ' k e y zs := by
  have hN := hs.next
  obtain ⟨y, μ', g1, g2, g3⟩ := appS (e := e) (B := B) (nid := μ.next + b) h0 (bumpS hs n) (OwnRow.nil μ0.next (μ.bump n) k e) (hx.same (Keep.bump hs.wf n)) hB (by simpa using hb) (by omega) (by simp; omega) (freshB hs.wf n b)
  exact ⟨y, μ', g1, g2, by simpa using g3⟩
/-- A copy of a row, and which object it is. -/
theorem copyI {μ0 μ : AMem} (h0 : WF μ0) (hs : Same μ0 μ) {k : IntKind} {e : TypeId} {x : SV} {zs : List Int} (hx : IsRow μ k x zs) {B b n : Nat} (hB : 1 ≤ B) (hb : zs.length * B ≤ 140737488355328) (hbn : b < n) :
    ∃ y μ', (∀ {R : Type} (K : AV → AMem → Option R), appendA e 1 B (μ.next + b) (μ.bump n) (.s .nilSlice) (.s x) K = K (.s y) μ') ∧ Same μ0 μ' ∧ OwnRow μ0.next μ' k e y zs ∧ μ'.next = μ.next + n ∧ ∀ id, isId y id → id = μ.next + b := by
  have hN := hs.next
  obtain ⟨x', μ', g1, g2, g3, g4, g5, g6⟩ := OwnRow.append (B := B) (nid := μ.next + b) (bumpS hs n).wf (OwnRow.nil μ0.next (μ.bump n) k e) (hx.same (Keep.bump hs.wf n)) hB (by simpa using hb) (by omega) (by simp; omega) (freshB hs.wf n b)
  refine ⟨x', μ', g1, ⟨g3, by rw [g4]; exact (bumpS hs n).next, fun id o ho hf => g5.1 id o ((bumpS hs n).old id o ho hf) fun h => h, fun id hi hno => g5.2 id (by omega) ((bumpS hs n).low id hi hno)⟩, by simpa using g2, g4, fun id hid => (g6 id hid).resolve_left fun h => h⟩
def leftZ (g : List Int → Int) (n : Nat) (xs : List Int) : List Int := (List.range' n (xs.length - n)).map fun i => xs.getD i 0 - g (xs.take i)
theorem drop_cons {zs : List Int} {i : Nat} (h : i < zs.length) : zs.drop i = zs.getD i 0 :: zs.drop (i + 1) := by rw [List.drop_eq_getElem_cons h, getD_lt h]
theorem take_map_snoc {zs : List Int} (f : Int → Int) {i : Nat} (h : i < zs.length) : (zs.take (i + 1)).map f = (zs.take i).map f ++ [f (zs.getD i 0)] := by rw [take_snoc h, List.map_append]; rfl
theorem getD_mem {zs : List Int} {i : Nat} (h : i < zs.length) : zs.getD i 0 ∈ zs := by rw [getD_lt h]; exact List.getElem_mem h
theorem take_min {zs : List Int} {i n : Nat} (h : i = min n zs.length) : zs.take i = zs.take n := by
  subst h
  rcases Nat.le_total n zs.length with hl | hl
  · rw [Nat.min_eq_left hl]
  · rw [Nat.min_eq_right hl, List.take_of_length_le (Nat.le_refl _), List.take_of_length_le hl]
end Go.Proofs.Ytkikncdhmifkaaa
/- A number behind one of several rows of the call's own: the others stay. -/
namespace Go.Proofs.Ytkikncdhmifkaaa
open Go Go.Proofs.Ytkikncdhmifkaaa.E
set_option linter.unusedVariables false
set_option linter.unusedSimpArgs false
/-- Two rows are not of one object. -/
def Apart (x y : SV) : Prop := ∀ id, isId x id → ¬ isId y id
theorem Apart.symm {x y : SV} (h : Apart x y) : Apart y x := fun id h1 h2 => h id h2 h1
theorem apart_nil (y : SV) : Apart .nilSlice y := fun id h _ => h.elim
theorem own_lives {N : Nat} {μ : AMem} {k : IntKind} {e : TypeId} {x : SV} {zs : List Int} (h : OwnRow N μ k e x zs) {id : Nat} (hi : isId x id) : N ≤ id ∧ ∃ o, μ.obj id = some o := by
  rcases h with ⟨rfl, _⟩ | ⟨j, ver, o, rfl, hN, ho, _⟩
  · exact hi.elim
  · have : j = id := hi
    subst this
    exact ⟨hN, o, ho⟩
/-- The literal's box is written, then the row grows: what else lives stays, what else is free stays free. -/
theorem pushX {μ0 m : AMem} (h0 : WF μ0) (hs : Same μ0 m) {k : IntKind} {e : TypeId} {x : SV} {zs : List Int} (h : OwnRow μ0.next m k e x zs) {B ra rb : Nat} (v : Int) (hB : 1 ≤ B) (hb : (zs.length + 1) * B ≤ 140737488355328)
    (ha0 : μ0.next ≤ ra) (hb0 : μ0.next ≤ rb) (ha : ra < m.next) (hbn : rb < m.next) (hab : ra ≠ rb) (hfa : m.obj ra = none) (hfb : m.obj rb = none) {q : Option Nat} :
    ∃ x' m', (∀ {R : Type} (K : AV → AMem → Option R), appendA e 1 B rb (m.set ra (rowObj [.int k v] 1 e q)) (.s x) (.s (.slice ra 0 0 1)) K = K (.s x') m') ∧ Same μ0 m' ∧ OwnRow μ0.next m' k e x' (zs ++ [v]) ∧ m'.next = m.next ∧
      (∀ id o, m.obj id = some o → ¬ isId x id → m'.obj id = some o) ∧ (∀ id, id ≠ ra → id ≠ rb → m.obj id = none → m'.obj id = none) ∧ (∀ id, isId x' id → isId x id ∨ id = rb) := by
  have hsm : Same μ0 (m.set ra (rowObj [.int k v] 1 e q)) := Keep.setS h0 hs ha0 ha
  have hy : IsRow (m.set ra (rowObj [.int k v] 1 e q)) k (.slice ra 0 0 1) [v] := IsRow.made (o := rowObj [.int k v] 1 e q) (by simp) rfl rfl rfl
  have hne : ∀ id o, m.obj id = some o → id ≠ ra := fun id o ho e => by rw [e, hfa] at ho; cases ho
  have h' : OwnRow μ0.next (m.set ra (rowObj [.int k v] 1 e q)) k e x zs := h.old fun id o ho _ => by rw [set_obj, if_neg (hne id o ho)]; exact ho
  obtain ⟨x', m', g1, g2, g3, g4, g5, g6⟩ := OwnRow.append hsm.wf h' hy hB (by simpa using hb) hb0 (by simp; exact hbn) (by rw [set_obj, if_neg (fun e => hab e.symm)]; exact hfb)
  refine ⟨x', m', g1, ⟨g3, by rw [g4]; exact hs.next, fun id o ho hf => g5.1 id o (hsm.old id o ho hf) (h'.notOld (h0.lt ho)), fun id hi hno => g5.2 id (by omega) (hsm.low id hi hno)⟩, g2, g4, fun id o ho hx => g5.1 id o (by rw [set_obj, if_neg (hne id o ho)]; exact ho) hx, fun id h1 h2 hno => g5.2 id h2 (by rw [set_obj, if_neg h1]; exact hno), g6⟩
/-- Another row of the call's own stays, and stays apart. -/
theorem other {N : Nat} {m m' : AMem} {k : IntKind} {e : TypeId} {x x' y : SV} {zs : List Int} {rb : Nat} (hy : OwnRow N m k e y zs) (hxy : Apart x y) (hfb : m.obj rb = none)
    (g5 : ∀ id o, m.obj id = some o → ¬ isId x id → m'.obj id = some o) (g6 : ∀ id, isId x' id → isId x id ∨ id = rb) : OwnRow N m' k e y zs ∧ Apart x' y := by
  refine ⟨hy.old fun id o ho hi => g5 id o ho fun hx => hxy id hx hi, fun id h1 h2 => ?_⟩
  rcases g6 id h1 with h3 | h3
  · exact hxy id h3 h2
  · obtain ⟨_, o, ho⟩ := own_lives hy h2
    rw [h3, hfb] at ho; cases ho
end Go.Proofs.Ytkikncdhmifkaaa
/- A number is written into a row of the call's own. -/
namespace Go.Proofs.Ytkikncdhmifkaaa
open Go Go.Proofs.Ytkikncdhmifkaaa.E
set_option linter.unusedVariables false
set_option linter.unusedSimpArgs false
theorem overA_get (cs : List SV) (i : Nat) (v : SV) (h : i < cs.length) (j : Nat) : (overA cs i [v])[j]? = if j = i then some v else cs[j]? := by
  unfold overA
  have htl : (cs.take i).length = i := by simp; omega
  rw [List.append_assoc, List.getElem?_append, htl]
  split
  · rename_i h1
    rw [if_neg (by omega), List.getElem?_take, if_pos h1]
  · rename_i h1
    rw [List.getElem?_append]
    simp only [List.length_cons, List.length_nil]
    split
    · rename_i h2
      have : j = i := by omega
      rw [if_pos this, this, Nat.sub_self]; rfl
    · rename_i h2
      rw [if_neg (by omega), List.getElem?_drop]
      congr 1; omega
theorem storeS {μ0 m : AMem} (h0 : WF μ0) (hs : Same μ0 m) {k : IntKind} {e : TypeId} {x : SV} {zs : List Int} (h : OwnRow μ0.next m k e x zs) {i : Nat} (hi : i < zs.length) (v : Int) :
    ∃ m', (∀ {R : Type} (K : AMem → Option R), storeAt 1 m (plc x (i : Int)) (.s (.int k v)) K = K m') ∧ Same μ0 m' ∧ OwnRow μ0.next m' k e x (zs.set i v) ∧ m'.next = m.next ∧ (∀ id o, m.obj id = some o → ¬ isId x id → m'.obj id = some o) ∧ (∀ id, m.obj id = none → m'.obj id = none) := by
  rcases h with ⟨rfl, rfl⟩ | ⟨id, ver, o, rfl, hN, ho, how, hv, hsz, he, hc⟩
  · simp at hi
  · have hcl := cells_len hc
    have hne : ∀ j p, m.obj j = some p → ¬ isId (.slice id ver 0 zs.length) j → j ≠ id := fun j p _ hh e => hh e.symm
    have hnone : ∀ j, m.obj j = none → j ≠ id := fun j hj e => by rw [e, ho] at hj; cases hj
    refine ⟨m.set id { o with cells := overA o.cells i [.int k v] }, fun K => ?_, ⟨hs.wf.set (hs.wf.lt ho), hs.next, fun j p hp hf => ?_, fun j hj hno => ?_⟩, ?_, rfl, fun j p hp hh => ?_, fun j hj => ?_⟩
    · have hii : (0 + (i : Int).toNat * 1) = i := by omega
      simp only [storeAt, plc, AV.cells, AMem.store, ho, Option.bind_some, hii, List.length_singleton, if_true]
      rw [if_pos ⟨how, hv, by omega⟩, Option.bind_some]
    · have : j ≠ id := by have := h0.lt hp; omega
      rw [set_obj, if_neg this]; exact hs.old j p hp hf
    · have : j ≠ id := by omega
      rw [set_obj, if_neg this]; exact hs.low j hj hno
    · refine .inr ⟨id, ver, { o with cells := overA o.cells i [.int k v] }, by simp, hN, by simp, how, hv, hsz, he, fun j n hj => ?_⟩
      show (overA o.cells i [.int k v])[j]? = _
      rw [overA_get _ _ _ (by omega)]
      rw [List.getElem?_set] at hj
      split at hj
      · rename_i hij
        rw [if_pos hij.symm]
        cases hj; rfl
      · rename_i hij
        rw [if_neg (fun e => hij e.symm)]; exact hc j n hj
    · rw [set_obj, if_neg (hne j p hp hh)]; exact hp
    · rw [set_obj, if_neg (hnone j hj)]; exact hj
/-- Another row stays. -/
theorem rowOther {m m' : AMem} {k : IntKind} {x y : SV} {zs : List Int} (hy : IsRow m k y zs) (hxy : Apart x y) (g : ∀ id o, m.obj id = some o → ¬ isId x id → m'.obj id = some o) : IsRow m' k y zs := by
  rcases hy with ⟨rfl, rfl⟩ | ⟨id, ver, off, o, rfl, ho, r⟩
  · exact .inl ⟨rfl, rfl⟩
  · exact .inr ⟨id, ver, off, o, rfl, g id o ho fun h => hxy id h rfl, r⟩
theorem row_lives {m : AMem} {k : IntKind} {y : SV} {zs : List Int} (hy : IsRow m k y zs) {id : Nat} (h : isId y id) : ∃ o, m.obj id = some o := by
  rcases hy with ⟨rfl, _⟩ | ⟨j, ver, off, o, rfl, ho, r⟩
  · exact h.elim
  · have : j = id := h
    exact ⟨o, this ▸ ho⟩
/-- A row that lived before is apart from one of the call's own. -/
theorem apart_old {μ0 m : AMem} (h0 : WF μ0) {k k' : IntKind} {e : TypeId} {x y : SV} {zs ws : List Int} (hx : OwnRow μ0.next m k e x zs) (hy : IsRow μ0 k' y ws) : Apart x y := fun id h1 h2 => by
  obtain ⟨o, ho⟩ := row_lives hy h2
  have := h0.lt ho
  have := (own_lives hx h1).1
  omega
/-- A row of the call's own is written: all else stays. -/
theorem storeK {N : Nat} {m : AMem} (hw : WF m) {k : IntKind} {e : TypeId} {x : SV} {zs : List Int} (h : OwnRow N m k e x zs) {i : Nat} (hi : i < zs.length) (v : Int) :
    ∃ m', (∀ {R : Type} (K : AMem → Option R), storeAt 1 m (plc x (i : Int)) (.s (.int k v)) K = K m') ∧ Keep (isId x) m m' ∧ OwnRow N m' k e x (zs.set i v) ∧ m'.next = m.next := by
  rcases h with ⟨rfl, rfl⟩ | ⟨id, ver, o, rfl, hN, ho, how, hv, hsz, he, hc⟩
  · simp at hi
  · have hcl := cells_len hc
    refine ⟨m.set id { o with cells := overA o.cells i [.int k v] }, fun K => ?_, Keep.set hw ho rfl, ?_, rfl⟩
    · have hii : (0 + (i : Int).toNat * 1) = i := by omega
      simp only [storeAt, plc, AV.cells, AMem.store, ho, Option.bind_some, hii, List.length_singleton, if_true]
      rw [if_pos ⟨how, hv, by omega⟩, Option.bind_some]
    · refine .inr ⟨id, ver, { o with cells := overA o.cells i [.int k v] }, by simp, hN, by simp, how, hv, hsz, he, fun j n hj => ?_⟩
      show (overA o.cells i [.int k v])[j]? = _
      rw [overA_get _ _ _ (by omega)]
      rw [List.getElem?_set] at hj
      split at hj
      · rename_i hij
        rw [if_pos hij.symm]
        cases hj; rfl
      · rename_i hij
        rw [if_neg (fun e => hij e.symm)]; exact hc j n hj
/-- A number behind a row of the call's own: only that row changes. -/
theorem pushK {N : Nat} {μ : AMem} (hw : WF μ) {k : IntKind} {e : TypeId} {x : SV} {zs : List Int} (h : OwnRow N μ k e x zs) {B a b n : Nat} (v : Int) (hB : 1 ≤ B) (hb : (zs.length + 1) * B ≤ 140737488355328) (hN : N ≤ μ.next) (ha : a < n) (hbn : b < n) (hab : a ≠ b) {q : Option Nat} :
    ∃ x' μ', (∀ {R : Type} (K : AV → AMem → Option R), appendA e 1 B (μ.next + b) ((μ.bump n).set (μ.next + a) (rowObj [.int k v] 1 e q)) (.s x) (.s (.slice (μ.next + a) 0 0 1)) K = K (.s x') μ') ∧ Keep (isId x) μ μ' ∧ OwnRow N μ' k e x' (zs ++ [v]) ∧ ∀ j, isId x' j → isId x j ∨ μ.next ≤ j := by
  obtain ⟨x', μ', p1, p2, p3, p4, p5, p6⟩ := OwnRow.push (B := B) (a := a) (b := b) (n := n) (q := q) hw h v hB hb hN ha hbn hab
  exact ⟨x', μ', p1, ⟨p3, p4, p5.1, p5.2⟩, p2, p6⟩
theorem E.Keep.weak0 {S T : Nat → Prop} {μ μ' : AMem} (h : Keep S μ μ') (hST : ∀ j, S j → T j) : Keep T μ μ' := ⟨h.wf, h.next, fun id o ho hf => h.old id o ho fun hs => hf (hST id hs), h.low⟩
theorem keepSame {μ0 m m' : AMem} {S : Nat → Prop} (h0 : WF μ0) (hs : Same μ0 m) (hk : Keep S m m') (hS : ∀ j, S j → μ0.next ≤ j) : Same μ0 m' :=
  ⟨hk.wf, Nat.le_trans hs.next hk.next, fun id o ho hf => hk.old id o (hs.old id o ho hf) fun h => by have := hS id h; have := h0.lt ho; omega, fun id hi hn => hk.low id (Nat.lt_of_lt_of_le hi hs.next) (hs.low id hi hn)⟩
theorem rowKeep {m m' : AMem} {S : Nat → Prop} {k : IntKind} {y : SV} {zs : List Int} (hy : IsRow m k y zs) (hk : Keep S m m') (hS : ∀ j, S j → ¬ isId y j) : IsRow m' k y zs := by
  rcases hy with ⟨rfl, rfl⟩ | ⟨id, ver, off, o, rfl, ho, r⟩
  · exact .inl ⟨rfl, rfl⟩
  · exact .inr ⟨id, ver, off, o, rfl, hk.old id o ho fun h => hS id h rfl, r⟩
theorem ownKeep {N : Nat} {m m' : AMem} {S : Nat → Prop} {k : IntKind} {e : TypeId} {y : SV} {zs : List Int} (hy : OwnRow N m k e y zs) (hk : Keep S m m') (hS : ∀ j, S j → ¬ isId y j) : OwnRow N m' k e y zs :=
  hy.old fun id o ho hi => hk.old id o ho fun h => hS id h hi
end Go.Proofs.Ytkikncdhmifkaaa
/- Rows of Bools. -/
namespace Go.Proofs.Ytkikncdhmifkaaa
open Go Go.Proofs.Ytkikncdhmifkaaa.E
set_option linter.unusedVariables false
set_option linter.unusedSimpArgs false
/-- A row of Bools of the call's own. -/
def OwnB (N : Nat) (μ : AMem) (x : SV) (bs : List Bool) : Prop :=
  (x = .nilSlice ∧ bs = []) ∨ ∃ id ver o, x = .slice id ver 0 bs.length ∧ N ≤ id ∧ μ.obj id = some o ∧ o.own = true ∧ o.ver = ver ∧ o.size = 1 ∧ o.elem = 4 ∧ ∀ (i : Nat) b, bs[i]? = some b → o.cells[i]? = some (.bool b)
variable {N : Nat} {μ μ' : AMem} {x : SV} {bs : List Bool}
theorem OwnB.len (h : OwnB N μ x bs) : lenS (.s x) = some bs.length := by
  rcases h with ⟨rfl, rfl⟩ | ⟨id, ver, o, rfl, _⟩ <;> rfl
theorem OwnB.nil (N : Nat) (μ : AMem) : OwnB N μ .nilSlice [] := .inl ⟨rfl, rfl⟩
theorem OwnB.old (h : OwnB N μ x bs) (hk : ∀ id o, μ.obj id = some o → isId x id → μ'.obj id = some o) : OwnB N μ' x bs := by
  rcases h with ⟨rfl, rfl⟩ | ⟨id, ver, o, rfl, hN, ho, r⟩
  · exact .inl ⟨rfl, rfl⟩
  · exact .inr ⟨id, ver, o, rfl, hN, hk id o ho rfl, r⟩
theorem OwnB.same (h : OwnB N μ x bs) (hs : Same μ μ') : OwnB N μ' x bs := h.old fun id o ho _ => hs.old id o ho fun h => h
theorem OwnB.keep {S : Nat → Prop} (h : OwnB N μ x bs) (hk : Keep S μ μ') (hS : ∀ j, S j → ¬ isId x j) : OwnB N μ' x bs := h.old fun id o ho hi => hk.old id o ho fun hs => hS id hs hi
theorem OwnB.lives (h : OwnB N μ x bs) {id : Nat} (hi : isId x id) : N ≤ id ∧ ∃ o, μ.obj id = some o := by
  rcases h with ⟨rfl, _⟩ | ⟨j, ver, o, rfl, hN, ho, _⟩
  · exact hi.elim
  · have : j = id := hi
    subst this
    exact ⟨hN, o, ho⟩
theorem OwnB.less {M : Nat} (h : OwnB N μ x bs) (hM : M ≤ N) : OwnB M μ x bs := by
  rcases h with ⟨rfl, rfl⟩ | ⟨id, ver, o, rfl, hN, r⟩
  · exact .inl ⟨rfl, rfl⟩
  · exact .inr ⟨id, ver, o, rfl, by omega, r⟩
theorem OwnB.ind (h : OwnB N μ x bs) {i : Int} (h0 : 0 ≤ i) (h1 : i < bs.length) {R : Type} (K : AV → Option R) : indS 1 (.s x) i K = K (plc x i) := by
  rcases h with ⟨rfl, rfl⟩ | ⟨id, ver, o, rfl, _⟩
  · simp at h1; omega
  · simp [indS, plc, h0, h1]
theorem OwnB.load (h : OwnB N μ x bs) {i : Nat} (h1 : i < bs.length) {R : Type} (K : AV → Option R) : loadAt μ (plc x (i : Int)) K = K (.s (.bool (bs.getD i false))) := by
  rcases h with ⟨rfl, rfl⟩ | ⟨id, ver, o, rfl, hN, ho, how, hv, hs, he, hc⟩
  · simp at h1
  · have hg := hc i _ (List.getElem?_eq_getElem h1)
    simp only [plc, loadAt, AMem.cell, ho, Option.bind_some, hv, if_true, nat_toNat, Nat.mul_one, Nat.zero_add, hg]
    rw [List.getD_eq_getElem?_getD, List.getElem?_eq_getElem h1]; rfl
theorem cells_lenB {cs : List SV} (hc : ∀ (i : Nat) b, bs[i]? = some b → cs[i]? = some (.bool b)) : bs.length ≤ cs.length := by
  rcases Nat.eq_zero_or_pos bs.length with h0 | h0
  · omega
  · have := (List.getElem?_eq_some_iff.mp (hc (bs.length - 1) _ (List.getElem?_eq_getElem (by omega)))).1
    omega
/-- One is written. -/
theorem OwnB.store (hw : WF μ) (h : OwnB N μ x bs) {i : Nat} (hi : i < bs.length) (v : Bool) :
    ∃ m', (∀ {R : Type} (K : AMem → Option R), storeAt 1 μ (plc x (i : Int)) (.s (.bool v)) K = K m') ∧ Keep (isId x) μ m' ∧ OwnB N m' x (bs.set i v) := by
  rcases h with ⟨rfl, rfl⟩ | ⟨id, ver, o, rfl, hN, ho, how, hv, hs, he, hc⟩
  · simp at hi
  · have hl := cells_lenB hc
    refine ⟨μ.set id { o with cells := overA o.cells i [.bool v] }, fun K => ?_, Keep.set hw ho rfl, .inr ⟨id, ver, { o with cells := overA o.cells i [.bool v] }, by simp, hN, by simp, how, hv, hs, he, fun j b hj => ?_⟩⟩
    · simp only [storeAt, plc, AV.cells, List.length_cons, List.length_nil, if_true, AMem.store, ho, Option.bind_some, how, hv, nat_toNat, Nat.mul_one, Nat.zero_add, true_and]
      rw [if_pos (by omega)]; rfl
    · show (overA o.cells i [.bool v])[j]? = _
      rw [overA_get _ _ _ (by omega)]
      rw [List.getElem?_set] at hj
      by_cases hij : i = j
      · subst hij
        rw [if_pos rfl, if_pos hi] at hj
        cases hj
        rw [if_pos rfl]
      · rw [if_neg hij] at hj
        rw [if_neg (fun h => hij h.symm)]
        exact hc j b hj
theorem OwnB.row (h : OwnB N μ x bs) : lenS (.s x) = some bs.length ∧ μ.row 1 bs.length (.s x) = some (bs.map .bool) := by
  refine ⟨h.len, ?_⟩
  rcases h with ⟨rfl, rfl⟩ | ⟨id, ver, o, rfl, hN, ho, how, hv, hs, he, hc⟩
  · rfl
  · have hl := cells_lenB hc
    have hcs : (o.cells.drop 0).take bs.length = bs.map .bool := by
      apply List.ext_getElem?
      intro i
      rw [List.drop_zero, List.getElem?_take, List.getElem?_map]
      split
      · rename_i hi
        rw [hc i _ (List.getElem?_eq_getElem hi), List.getElem?_eq_getElem hi]; rfl
      · rename_i hi
        rw [List.getElem?_eq_none (by omega)]; rfl
    simp only [AMem.row, ho, Option.bind_some, hv, Nat.mul_one, true_and, Nat.le_refl]
    rw [if_pos (by omega), hcs]
/-- One behind. -/
theorem OwnB.push {μ0 m : AMem} (h0 : WF μ0) (hs : Same μ0 m) (h : OwnB μ0.next m x bs) (v : Bool) (hl : bs.length ≤ 1000000) {a b n : Nat} (ha : a < n) (hb : b < n) (hab : a ≠ b) :
    ∃ y m', (∀ {R : Type} (K : AV → AMem → Option R), appendA 4 1 1 (m.next + b) ((m.bump n).set (m.next + a) (rowObj [.bool v] 1 4 (some 1))) (.s x) (.s (.slice (m.next + a) 0 0 1)) K = K (.s y) m') ∧ Same μ0 m' ∧ OwnB μ0.next m' y (bs ++ [v]) := by
  have hn := hs.next
  have hrow : ((m.bump n).set (m.next + a) (rowObj [.bool v] 1 4 (some 1))).row 1 1 (.s (.slice (m.next + a) 0 0 1)) = some [.bool v] := by
    simp only [AMem.row, set_obj, if_true, Option.bind_some]
    rfl
  have hlen : lenS (.s (.slice (m.next + a) 0 0 1)) = some 1 := rfl
  have hs1 : Same μ0 ((m.bump n).set (m.next + a) (rowObj [.bool v] 1 4 (some 1))) := newS hs ha _
  have hfb : ((m.bump n).set (m.next + a) (rowObj [.bool v] 1 4 (some 1))).obj (m.next + b) = none := by
    rw [set_obj, if_neg (by omega)]; exact freshB hs.wf n b
  rcases h with ⟨rfl, rfl⟩ | ⟨id, ver, o, rfl, hN, ho, how, hv, hsz, he, hc⟩
  · refine ⟨.slice (m.next + b) 0 0 1, ((m.bump n).set (m.next + a) (rowObj [.bool v] 1 4 (some 1))).set (m.next + b) (rowObj [.bool v] 1 4 none), fun K => ?_, Keep.setS h0 hs1 (by omega) (by simp; omega), .inr ⟨m.next + b, 0, rowObj [.bool v] 1 4 none, rfl, by omega, by simp, rfl, rfl, rfl, rfl, fun i b hi => ?_⟩⟩
    · simp only [appendA, hlen, Option.bind_some, hrow, appendS]
      rw [if_pos ⟨by omega, by omega⟩, if_neg (by omega)]
    · rcases i with _ | i
      · simp at hi; subst hi; rfl
      · simp at hi
  · have hl2 := cells_lenB hc
    have hlt := hs.wf.lt ho
    have ho1 : ((m.bump n).set (m.next + a) (rowObj [.bool v] 1 4 (some 1))).obj id = some o := by rw [set_obj, if_neg (by omega)]; exact ho
    refine ⟨.slice id (ver + 1) 0 (bs.length + 1), ((m.bump n).set (m.next + a) (rowObj [.bool v] 1 4 (some 1))).set id (newVer o (o.cells.take bs.length ++ [.bool v])), fun K => ?_, Keep.setS h0 hs1 hN (by simp; omega), .inr ⟨id, ver + 1, newVer o (o.cells.take bs.length ++ [.bool v]), by simp, hN, by simp, how, by simp [newVer, hv], hsz, he, fun i b hi => ?_⟩⟩
    · simp only [appendA, hlen, Option.bind_some, hrow, appendS, ho1, how, hv, hsz, he, Nat.mul_one]
      rw [if_pos ⟨trivial, trivial, trivial, trivial, hl2, by omega, by omega⟩, if_neg (by omega)]
    · show (o.cells.take bs.length ++ [SV.bool v])[i]? = _
      have htl : (o.cells.take bs.length).length = bs.length := by simp [Nat.min_eq_left hl2]
      rw [List.getElem?_append] at hi ⊢
      rw [htl]
      split at hi
      · rename_i hlt'
        rw [if_pos hlt', List.getElem?_take, if_pos hlt']; exact hc i b hi
      · rename_i hlt'
        rw [if_neg hlt']
        rcases hk : i - bs.length with _ | k
        · rw [hk] at hi; simp at hi; subst hi; rfl
        · rw [hk] at hi; simp at hi
/-- A copy. -/
theorem OwnB.copy {M : Nat} (hw : WF μ) (h : OwnB M μ x bs) (hl : bs.length ≤ 1000000) {b n : Nat} (hb : b < n) :
    ∃ y m', (∀ {R : Type} (K : AV → AMem → Option R), appendA 4 1 1 (μ.next + b) (μ.bump n) (.s .nilSlice) (.s x) K = K (.s y) m') ∧ Same μ m' ∧ OwnB μ.next m' y bs ∧ m'.next = μ.next + n := by
  obtain ⟨hlen, hrow⟩ := h.row
  have hrow' : (μ.bump n).row 1 bs.length (.s x) = some (bs.map .bool) := by
    rcases x with _ | _ <;> exact hrow
  have k1 := bumpS (Keep.refl hw) n
  by_cases h0 : bs = []
  · subst h0
    refine ⟨.nilSlice, μ.bump n, fun K => ?_, k1, OwnB.nil _ _, by simp⟩
    simp only [appendA, hlen, Option.bind_some, hrow', appendS]
    simp
  · have hp : ¬ bs.length = 0 := fun h => h0 (List.eq_nil_of_length_eq_zero h)
    refine ⟨.slice (μ.next + b) 0 0 bs.length, (μ.bump n).set (μ.next + b) (rowObj (bs.map .bool) 1 4 none), fun K => ?_, newS (Keep.refl hw) hb _, .inr ⟨μ.next + b, 0, rowObj (bs.map .bool) 1 4 none, rfl, by omega, by simp, rfl, rfl, rfl, rfl, fun i b hi => by simp [rowObj, hi]⟩, by simp⟩
    simp only [appendA, hlen, Option.bind_some, hrow', appendS]
    rw [if_pos ⟨by omega, by omega⟩, if_neg hp]
end Go.Proofs.Ytkikncdhmifkaaa
/- What a table of counts comes to. -/
namespace Go.Proofs.Ytkikncdhmifkaaa
open Go Go.Proofs.Ytkikncdhmifkaaa.E
set_option linter.unusedVariables false
set_option linter.unusedSimpArgs false
/-- A table: a box that holds a row of the call's own. -/
def Tab (N : Nat) (μ : AMem) (x s : SV) (cs : List Int) : Prop := ∃ id o, x = .ptr id 0 0 ∧ N ≤ id ∧ μ.obj id = some o ∧ o.ver = 0 ∧ o.cells[0]? = some s ∧ OwnRow N μ .i64 3 s cs ∧ ¬ isId s id
theorem Tab.keep {N : Nat} {μ μ' : AMem} {S : Nat → Prop} {x s : SV} {cs : List Int} (h : Tab N μ x s cs) (hk : Keep S μ μ') (h1 : ∀ j, S j → ¬ isId s j) (h2 : ∀ j, S j → x ≠ .ptr j 0 0) : Tab N μ' x s cs := by
  obtain ⟨id, o, rfl, hN, ho, hv, hc, hr, hi⟩ := h
  exact ⟨id, o, rfl, hN, hk.old id o ho fun h => h2 id h rfl, hv, hc, ownKeep hr hk h1, hi⟩
theorem Tab.same {N : Nat} {μ μ' : AMem} {x s : SV} {cs : List Int} (h : Tab N μ x s cs) (hk : Same μ μ') : Tab N μ' x s cs := h.keep hk (fun _ h => h.elim) (fun _ h => h.elim)
theorem Tab.wrote {N : Nat} {μ μ' : AMem} {x s : SV} {cs ds : List Int} (h : Tab N μ x s cs) (hk : Keep (isId s) μ μ') (hr : OwnRow N μ' .i64 3 s ds) : Tab N μ' x s ds := by
  obtain ⟨id, o, rfl, hN, ho, hv, hc, _, hi⟩ := h
  exact ⟨id, o, rfl, hN, hk.old id o ho hi, hv, hc, hr, hi⟩
theorem Tab.row {N : Nat} {μ : AMem} {x s : SV} {cs : List Int} (h : Tab N μ x s cs) : OwnRow N μ .i64 3 s cs := by
  obtain ⟨id, o, rfl, hN, ho, hv, hc, hr, hi⟩ := h
  exact hr
theorem Tab.less {N M : Nat} {μ : AMem} {x s : SV} {cs : List Int} (h : Tab N μ x s cs) (hM : M ≤ N) : Tab M μ x s cs := by
  obtain ⟨id, o, rfl, hN, ho, hv, hc, hr, hi⟩ := h
  exact ⟨id, o, rfl, by omega, ho, hv, hc, hr.less hM, hi⟩
theorem Tab.nn {N : Nat} {μ : AMem} {x s : SV} {cs : List Int} (h : Tab N μ x s cs) : isNil (.s x) = some false := by
  obtain ⟨id, o, rfl, _⟩ := h; rfl
theorem Tab.ids {N : Nat} {μ : AMem} {x s : SV} {cs : List Int} (h : Tab N μ x s cs) {j : Nat} (hj : isId s j) : N ≤ j := (own_lives h.row hj).1
def mayI (cs : List Int) (i : Int) : Bool := decide (0 ≤ i) && decide (i < cs.length)
theorem mayI_t {cs : List Int} {i : Int} (h : mayI cs i = true) : 0 ≤ i ∧ i < cs.length := by
  simp only [mayI, Bool.and_eq_true, decide_eq_true_eq] at h; exact h
def ofI (cs : List Int) (i : Int) : Int := if mayI cs i then cs.getD i.toNat 0 else 0
def incZ (c : List Int) (i : Int) : List Int := c.set i.toNat (c.getD i.toNat 0 + 1)
def decZ (c : List Int) (i : Int) : List Int := c.set i.toNat (c.getD i.toNat 0 - 1)
def addZ (cs ls : List Int) : List Int := ls.foldl incZ cs
def fits (cs : List Int) (k : Nat) : Prop := ∀ v ∈ cs, 0 ≤ v ∧ v + k ≤ 1000000
def ownF (cs : List Int) : Nat → Nat → List Int
  | 0, _ => []
  | k + 1, i => if cs.getD i 0 > 0 then (i : Int) :: ownF cs k (i + 1) else ownF cs k (i + 1)
def sumR (cs : List Int) : Nat → Int
  | 0 => 0
  | n + 1 => sumR cs n + cs.getD n 0
theorem incZ_len (c : List Int) (i : Int) : (incZ c i).length = c.length := by simp [incZ]
theorem decZ_len (c : List Int) (i : Int) : (decZ c i).length = c.length := by simp [decZ]
theorem addZ_len : ∀ (ls cs : List Int), (addZ cs ls).length = cs.length
  | [], cs => rfl
  | v :: ls, cs => by
    show (addZ (incZ cs v) ls).length = _
    rw [addZ_len ls, incZ_len]
theorem getD_fit {cs : List Int} {k : Nat} (h : fits cs k) (hk : k ≤ 1000000) (i : Nat) : 0 ≤ cs.getD i 0 ∧ cs.getD i 0 + k ≤ 1000000 := by
  rcases Nat.lt_or_ge i cs.length with h1 | h1
  · exact h _ (getD_mem h1)
  · rw [List.getD_eq_getElem?_getD, List.getElem?_eq_none h1]; simp; omega
theorem incZ_fit {c : List Int} {k : Nat} (h : fits c (k + 1)) (hk : k + 1 ≤ 1000000) (i : Int) : fits (incZ c i) k := by
  intro v hv
  have := getD_fit h hk i.toNat
  rcases List.mem_or_eq_of_mem_set hv with h1 | h1
  · have := h v h1; omega
  · rw [h1]; omega
theorem may2_is {N : Nat} {μ : AMem} {x s : SV} {cs : List Int} (h : Tab N μ x s cs) (i : Int) : refs_Table_may [.s x, .s (.int .i64 i)] μ = some (.s (.bool (mayI cs i)), μ) := by
  obtain ⟨id, o, rfl, hN, ho, hv, hc, hr, hi⟩ := h
  have hcell : μ.cell id 0 (0 + 0) = some s := by simp only [AMem.cell, ho, Option.bind_some, hv, if_true]; exact hc
  rw [refs_Table_may_eq]
  unfold mayI
  by_cases h1 : 0 ≤ i
  · rw [decide_eq_true h1, Bool.true_and]
    simp -implicitDefEqProofs (disch := omega) only [lt_t, lt_f, gt_t, gt_f, le_t, le_f, ge_t, ge_f, ne_t, ne_f, eq_t, eq_f, w64, chk_true, Option.bind_some, decide_true, decide_false, cond_true, cond_false, seqJ_n, seqJ_r, seqJ_e, headK_c, asB_bool, asI_int, asS_s, asN_int, extrK_0, extrK_1, extrK_2, Bool.not_true, Bool.not_false, Nat.beq_refl, hcell, hr.row.len]
  · rw [decide_eq_false h1, Bool.false_and]
    simp -implicitDefEqProofs (disch := omega) only [lt_t, lt_f, gt_t, gt_f, le_t, le_f, ge_t, ge_f, ne_t, ne_f, eq_t, eq_f, w64, chk_true, Option.bind_some, decide_true, decide_false, cond_true, cond_false, seqJ_n, seqJ_r, seqJ_e, headK_c, asB_bool, asI_int, asS_s, asN_int, extrK_0, extrK_1, extrK_2, Bool.not_true, Bool.not_false, Nat.beq_refl]
theorem of_is {N : Nat} {μ : AMem} {x s : SV} {cs : List Int} (h : Tab N μ x s cs) (i : Int) : refs_Table_Of [.s x, .s (.int .i64 i)] μ = some (.s (.int .i64 (ofI cs i)), μ) := by
  have hm := may2_is h i
  obtain ⟨id, o, rfl, hN, ho, hv, hc, hr, hi⟩ := h
  have hcell : μ.cell id 0 (0 + 0) = some s := by simp only [AMem.cell, ho, Option.bind_some, hv, if_true]; exact hc
  rw [refs_Table_Of_eq]
  unfold ofI
  cases hmm : mayI cs i
  · rw [hmm] at hm
    simp only [Bool.false_eq_true, if_false]
    simp -implicitDefEqProofs (disch := omega) only [lt_t, lt_f, gt_t, gt_f, le_t, le_f, ge_t, ge_f, ne_t, ne_f, eq_t, eq_f, w64, chk_true, Option.bind_some, decide_true, decide_false, cond_true, cond_false, seqJ_n, seqJ_r, seqJ_e, headK_c, asB_bool, asI_int, asS_s, asN_int, extrK_0, extrK_1, extrK_2, Bool.not_true, Bool.not_false, Nat.beq_refl, hm]
  · rw [hmm] at hm
    have := mayI_t hmm
    simp only [if_true]
    simp -implicitDefEqProofs (disch := omega) only [lt_t, lt_f, gt_t, gt_f, le_t, le_f, ge_t, ge_f, ne_t, ne_f, eq_t, eq_f, w64, chk_true, Option.bind_some, decide_true, decide_false, cond_true, cond_false, seqJ_n, seqJ_r, seqJ_e, headK_c, asB_bool, asI_int, asS_s, asN_int, extrK_0, extrK_1, extrK_2, Bool.not_true, Bool.not_false, Nat.beq_refl, hm, hcell, hr.row.ind, hr.row.load]
theorem drop_is {N : Nat} {μ : AMem} (hw : WF μ) {x s : SV} {cs : List Int} (h : Tab N μ x s cs) (hf : fits cs 0) (i : Int) :
    (ofI cs i = 0 → refs_Table_Drop [.s x, .s (.int .i64 i)] μ = some (.tuple [.s (.int .i64 0), .s (.bool false)], μ)) ∧
    (ofI cs i ≠ 0 → ∃ μ', refs_Table_Drop [.s x, .s (.int .i64 i)] μ = some (.tuple [.s (.int .i64 (ofI cs i - 1)), .s (.bool true)], μ') ∧ Keep (isId s) μ μ' ∧ Tab N μ' x s (decZ cs i)) := by
  have ho := of_is h i
  refine ⟨fun h0 => ?_, fun h0 => ?_⟩
  · rw [h0] at ho
    obtain ⟨id, o, rfl, _⟩ := h
    rw [refs_Table_Drop_eq]
    have t0 : ((0 : Int) == 0) = true := rfl
    simp -implicitDefEqProofs only [ho, t0, Option.bind_some, decide_true, decide_false, cond_true, cond_false, seqJ_n, seqJ_r, seqJ_e, headK_c, asB_bool, asI_int, asS_s, asN_int, extrK_0, extrK_1, extrK_2, Bool.not_true, Bool.not_false, Nat.beq_refl]
  · have hm : mayI cs i = true := by
      cases hmm : mayI cs i
      · exact absurd (by unfold ofI; rw [hmm]; rfl) h0
      · rfl
    have hmi := mayI_t hm
    have hof : ofI cs i = cs.getD i.toNat 0 := by unfold ofI; rw [if_pos hm]
    have hg := getD_fit hf (by omega) i.toNat
    obtain ⟨μ', s1, s2, s3, s4⟩ := storeK hw h.row (i := i.toNat) (by omega) (cs.getD i.toNat 0 - 1)
    have hti : ((i.toNat : Nat) : Int) = i := by omega
    rw [hti] at s1
    have h' := h.wrote s2 s3
    obtain ⟨id, o, rfl, hN, hob, hv, hc, hr, hi⟩ := h
    have hcell : μ.cell id 0 (0 + 0) = some s := by simp only [AMem.cell, hob, Option.bind_some, hv, if_true]; exact hc
    have hcell' : μ'.cell id 0 (0 + 0) = some s := by simp only [AMem.cell, s2.old id o hob hi, Option.bind_some, hv, if_true]; exact hc
    have hlen : ((cs.set i.toNat (cs.getD i.toNat 0 - 1)).length : Int) = cs.length := by simp
    have hset : (cs.set i.toNat (cs.getD i.toNat 0 - 1)).getD i.toNat 0 = cs.getD i.toNat 0 - 1 := by
      rw [List.getD_eq_getElem?_getD, List.getElem?_set_self (by omega)]; rfl
    have hi2 := fun {R : Type} (K : AV → Option R) => s3.row.ind (i := i) (by omega) (by omega) K
    have hl2 := fun {R : Type} (K : AV → Option R) => s3.row.load (i := i) (by omega) (by omega) K
    rw [hset] at hl2
    have hb : (ofI cs i == 0) = false := by simp [h0]
    have hwr : IntKind.wrap .i64 (cs.getD i.toNat 0 - 1) = cs.getD i.toNat 0 - 1 := wr (by omega)
    have hi1 := fun {R : Type} (K : AV → Option R) => hr.row.ind (i := i) (by omega) (by omega) K
    have hl1 := fun {R : Type} (K : AV → Option R) => hr.row.load (i := i) (by omega) (by omega) K
    refine ⟨μ', ?_, s2, h'⟩
    rw [refs_Table_Drop_eq]
    simp -implicitDefEqProofs only [ho, hb, hcell, hi1, hl1, hwr, s1, hcell', hl2, Option.bind_some, decide_true, decide_false, cond_true, cond_false, seqJ_n, seqJ_r, seqJ_e, headK_c, asB_bool, asI_int, asS_s, asN_int, extrK_0, extrK_1, extrK_2, Bool.not_true, Bool.not_false, Nat.beq_refl]
    rw [hof]
theorem addMay_loop {N : Nat} {μ : AMem} {x s y : SV} {cs ls : List Int} (h : Tab N μ x s cs) (hy : IsRow μ .i64 y ls) (hb : ls.length ≤ 100000) :
    ∀ k j : Nat, j + k = ls.length → refs_Table_Add_L1 [.s x, .s y, .s y, .s (.int .i64 ls.length)] [.s (.int .i64 j)] μ = if (ls.drop j).all (mayI cs) then some (.exit 0, [.s x, .s y], μ) else some (.ret, [.s (.bool false)], μ)
  | 0, j, hj => by
    obtain ⟨id, o, rfl, _⟩ := h
    rw [refs_Table_Add_L1_eq, refs_Table_Add_L1_B_eq, List.drop_eq_nil_of_le (by omega)]
    simp -implicitDefEqProofs (disch := omega) only [lt_t, lt_f, gt_t, gt_f, le_t, le_f, ge_t, ge_f, ne_t, ne_f, eq_t, eq_f, w64, chk_true, Option.bind_some, decide_true, decide_false, cond_true, cond_false, seqJ_n, seqJ_r, seqJ_e, headK_c, asB_bool, asI_int, asS_s, asN_int, extrK_0, extrK_1, extrK_2, Bool.not_true, Bool.not_false, Nat.beq_refl, List.all_nil, if_true]
  | k + 1, j, hj => by
    have ih := addMay_loop h hy hb k (j + 1) (by omega)
    rw [nsu] at ih
    have hm := may2_is h (ls.getD j 0)
    obtain ⟨id, o, rfl, _⟩ := h
    rw [refs_Table_Add_L1_eq, refs_Table_Add_L1_B_eq, drop_cons (i := j) (by omega)]
    cases hmm : mayI cs (ls.getD j 0)
    · rw [hmm] at hm
      simp -implicitDefEqProofs (disch := omega) only [lt_t, lt_f, gt_t, gt_f, le_t, le_f, ge_t, ge_f, ne_t, ne_f, eq_t, eq_f, w64, chk_true, Option.bind_some, decide_true, decide_false, cond_true, cond_false, seqJ_n, seqJ_r, seqJ_e, headK_c, asB_bool, asI_int, asS_s, asN_int, extrK_0, extrK_1, extrK_2, Bool.not_true, Bool.not_false, Nat.beq_refl, hy.ind, hy.load, nat_toNat, hm, hmm, List.all_cons, Bool.false_and, Bool.false_eq_true, if_false]
    · rw [hmm] at hm
      simp -implicitDefEqProofs (disch := omega) only [lt_t, lt_f, gt_t, gt_f, le_t, le_f, ge_t, ge_f, ne_t, ne_f, eq_t, eq_f, w64, chk_true, Option.bind_some, decide_true, decide_false, cond_true, cond_false, seqJ_n, seqJ_r, seqJ_e, headK_c, asB_bool, asI_int, asS_s, asN_int, extrK_0, extrK_1, extrK_2, Bool.not_true, Bool.not_false, Nat.beq_refl, hy.ind, hy.load, nat_toNat, hm, hmm, List.all_cons, Bool.true_and]
      exact ih
theorem addInc_loop {N : Nat} {x s y : SV} {ls : List Int} {n : Nat} (hls : ∀ v ∈ ls, 0 ≤ v ∧ v < n) (hb : ls.length ≤ 100000) (hap : Apart s y) :
    ∀ (k j : Nat) (μ : AMem) (c : List Int), j + k = ls.length → c.length = n → fits c k → WF μ → Tab N μ x s c → IsRow μ .i64 y ls →
      ∃ μ', refs_Table_Add_L2 [.s x, .s y, .s (.int .i64 ls.length)] [.s (.int .i64 j)] μ = some (.exit 2, [], μ') ∧ Keep (isId s) μ μ' ∧ Tab N μ' x s (addZ c (ls.drop j))
  | 0, j, μ, c, hj, hc, hf, hw, h, hy => by
    rw [refs_Table_Add_L2_eq, refs_Table_Add_L2_B_eq, List.drop_eq_nil_of_le (by omega)]
    simp -implicitDefEqProofs (disch := omega) only [lt_t, lt_f, gt_t, gt_f, le_t, le_f, ge_t, ge_f, ne_t, ne_f, eq_t, eq_f, w64, chk_true, Option.bind_some, decide_true, decide_false, cond_true, cond_false, seqJ_n, seqJ_r, seqJ_e, headK_c, asB_bool, asI_int, asS_s, asN_int, extrK_0, extrK_1, extrK_2, Bool.not_true, Bool.not_false, Nat.beq_refl]
    exact ⟨μ, rfl, Keep.refl hw, h⟩
  | k + 1, j, μ, c, hj, hc, hf, hw, h, hy => by
    have hv := hls _ (getD_mem (zs := ls) (i := j) (by omega))
    have hg := getD_fit hf (by omega) (ls.getD j 0).toNat
    obtain ⟨m1, s1, s2, s3, s4⟩ := storeK hw h.row (i := (ls.getD j 0).toNat) (by omega) (c.getD (ls.getD j 0).toNat 0 + 1)
    have hti : (((ls.getD j 0).toNat : Nat) : Int) = ls.getD j 0 := by omega
    rw [hti] at s1
    have h' := h.wrote s2 s3
    obtain ⟨μ', q1, q2, q3⟩ := addInc_loop hls hb hap k (j + 1) m1 (incZ c (ls.getD j 0)) (by omega) (by rw [incZ_len]; exact hc) (incZ_fit hf (by omega) _) s2.wf h' (rowKeep hy s2 hap)
    rw [nsu] at q1
    rw [drop_cons (i := j) (by omega)]
    obtain ⟨id, o, rfl, hN, hob, hver, hcl, hr, hi⟩ := h
    have hcell : μ.cell id 0 (0 + 0) = some s := by simp only [AMem.cell, hob, Option.bind_some, hver, if_true]; exact hcl
    refine ⟨μ', ?_, s2.trans q2, q3⟩
    rw [refs_Table_Add_L2_eq, refs_Table_Add_L2_B_eq]
    simp -implicitDefEqProofs (disch := omega) only [lt_t, lt_f, gt_t, gt_f, le_t, le_f, ge_t, ge_f, ne_t, ne_f, eq_t, eq_f, w64, chk_true, Option.bind_some, decide_true, decide_false, cond_true, cond_false, seqJ_n, seqJ_r, seqJ_e, headK_c, asB_bool, asI_int, asS_s, asN_int, extrK_0, extrK_1, extrK_2, Bool.not_true, Bool.not_false, Nat.beq_refl, hy.ind, hy.load, nat_toNat, nonNil_ptr, ptrAdd_p, loadAt_p, hcell, hr.row.ind, hr.row.load, s1]
    exact q1
theorem add_is {N : Nat} {μ : AMem} (hw : WF μ) {x s y : SV} {cs ls : List Int} (h : Tab N μ x s cs) (hy : IsRow μ .i64 y ls) (hap : Apart s y) (hb : ls.length ≤ 100000) (hf : fits cs ls.length) :
    (ls.all (mayI cs) = false → refs_Table_Add [.s x, .s y] μ = some (.s (.bool false), μ)) ∧
    (ls.all (mayI cs) = true → ∃ μ', refs_Table_Add [.s x, .s y] μ = some (.s (.bool true), μ') ∧ Keep (isId s) μ μ' ∧ Tab N μ' x s (addZ cs ls)) := by
  have hl1 := addMay_loop h hy hb _ 0 (Nat.zero_add _)
  rw [n0, List.drop_zero] at hl1
  refine ⟨fun ha => ?_, fun ha => ?_⟩
  · rw [ha] at hl1
    simp only [Bool.false_eq_true, if_false] at hl1
    obtain ⟨id, o, rfl, _⟩ := h
    rw [refs_Table_Add_eq]
    simp -implicitDefEqProofs only [hy.len, hl1, Option.bind_some, decide_true, decide_false, cond_true, cond_false, seqJ_n, seqJ_r, seqJ_e, headK_c, asB_bool, asI_int, asS_s, asN_int, extrK_0, extrK_1, extrK_2, Bool.not_true, Bool.not_false, Nat.beq_refl]
  · rw [ha] at hl1
    simp only [if_true] at hl1
    obtain ⟨μ', q1, q2, q3⟩ := addInc_loop (n := cs.length) (fun v hv => mayI_t (List.all_eq_true.mp ha v hv)) hb hap _ 0 μ cs (Nat.zero_add _) rfl hf hw h hy
    rw [n0] at q1
    refine ⟨μ', ?_, q2, q3⟩
    obtain ⟨id, o, rfl, _⟩ := h
    rw [refs_Table_Add_eq]
    simp -implicitDefEqProofs only [hy.len, hl1, q1, Option.bind_some, decide_true, decide_false, cond_true, cond_false, seqJ_n, seqJ_r, seqJ_e, headK_c, asB_bool, asI_int, asS_s, asN_int, extrK_0, extrK_1, extrK_2, Bool.not_true, Bool.not_false, Nat.beq_refl]
theorem sumR_le {cs : List Int} (hf : fits cs 0) : ∀ n : Nat, 0 ≤ sumR cs n ∧ sumR cs n ≤ 1000000 * n
  | 0 => by simp [sumR]
  | n + 1 => by
    have := sumR_le hf n
    have := getD_fit hf (by omega) n
    rw [sumR]; omega
theorem new_is {μ : AMem} (hw : WF μ) {n : Nat} (hn : 1 ≤ n ∧ n ≤ 4096) :
    ∃ x s μ', refs_New [.s (.int .i64 n)] μ = some (.tuple [.s x, .s (.int .i64 0)], μ') ∧ Same μ μ' ∧ Tab μ.next μ' x s (List.replicate n 0) := by
  have hif : 0 ≤ (n : Int) ∧ (n : Int) ≤ (n : Int) ∧ (n : Int) ≤ 9223372036854775807 ∧ ((8 : Nat) : Int) * (n : Int) ≤ 140737488355328 := by omega
  have q1 := lt_f (a := (n : Int)) (b := 1) (by omega)
  have q2 := gt_f (a := (n : Int)) (b := 4096) (by omega)
  refine ⟨.ptr (μ.next + 3) 0 0, .slice (μ.next + 1) 0 0 n, _, ?_, Keep.setS hw (Keep.setS hw (Keep.bump (S := fun _ => False) hw 6) (i := μ.next + 1) (o := rowObj (zerosA [.int .i64 0] n) 1 3 (some n)) (by omega) (by simp)) (i := μ.next + 3) (o := rowObj [.slice (μ.next + 1) 0 0 n] 1 74 (some 1)) (by omega) (by simp), ?_⟩
  · rw [refs_New_eq]
    simp -implicitDefEqProofs only [q1, q2, Option.bind_some, decide_true, decide_false, cond_true, cond_false, seqJ_n, seqJ_r, seqJ_e, headK_c, asB_bool, asI_int, asS_s, asN_int, extrK_0, extrK_1, extrK_2, Bool.not_true, Bool.not_false, Nat.beq_refl]
    rw [if_pos hif]
    rfl
  · refine ⟨μ.next + 3, rowObj [.slice (μ.next + 1) 0 0 n] 1 74 (some 1), rfl, by omega, by simp, rfl, rfl, ?_, fun h => ?_⟩
    · exact OwnRow.new (o := rowObj (zerosA [.int .i64 0] n) 1 3 (some n)) (by simp) (by omega) (by simp) rfl rfl rfl rfl (by show zerosA _ _ = _; rw [zerosA_rep]; simp)
    · have : μ.next + 1 = μ.next + 3 := h
      omega
end Go.Proofs.Ytkikncdhmifkaaa
/- Words of 64 digits. -/
namespace Go.Proofs.Ytkikncdhmifkaaa
open Go Go.Proofs.Ytkikncdhmifkaaa.E
set_option linter.unusedVariables false
set_option linter.unusedSimpArgs false
def w64ok (w : Int) : Prop := 0 ≤ w ∧ w < 18446744073709551616
def bitV (w : Int) (j : Nat) : Bool := (BitVec.ofInt 64 w).getLsbD j
theorem wu64 {n : Int} (h : w64ok n) : IntKind.wrap .u64 n = n := by
  unfold w64ok at h
  simp [IntKind.wrap, IntKind.signed, IntKind.bits]; omega
theorem bv_ok (x : BitVec 64) : w64ok (x.toNat : Int) := by
  have := x.isLt
  unfold w64ok; omega
theorem ofInt_wrap (x : BitVec 64) : BitVec.ofInt 64 (IntKind.wrap .u64 (x.toNat : Int)) = x := by
  rw [wu64 (bv_ok x)]
  apply BitVec.eq_of_toNat_eq
  rw [BitVec.toNat_ofInt]
  have := x.isLt
  omega
def orW (w : Int) (r : Nat) : Int := IntKind.wrap .u64 (BitVec.toNat ((BitVec.ofInt (IntKind.bits .u64) w) ||| (BitVec.ofInt (IntKind.bits .u64) (IntKind.wrap .u64 (1 * 2 ^ r)))))
def clrW (w : Int) (r : Nat) : Int := IntKind.wrap .u64 (BitVec.toNat ((BitVec.ofInt (IntKind.bits .u64) w) &&& ~~~ (BitVec.ofInt (IntKind.bits .u64) (IntKind.wrap .u64 (1 * 2 ^ r)))))
theorem one_bit : ∀ r : Fin 64, BitVec.ofInt 64 (IntKind.wrap .u64 (1 * 2 ^ r.val)) = BitVec.twoPow 64 r.val := by decide +kernel
theorem orW_ok (w : Int) (r : Nat) : w64ok (orW w r) := by
  show w64ok (IntKind.wrap .u64 ((((BitVec.ofInt 64 w) ||| (BitVec.ofInt 64 (IntKind.wrap .u64 (1 * 2 ^ r)))).toNat : Nat) : Int))
  rw [wu64 (bv_ok _)]; exact bv_ok _
theorem clrW_ok (w : Int) (r : Nat) : w64ok (clrW w r) := by
  show w64ok (IntKind.wrap .u64 ((((BitVec.ofInt 64 w) &&& ~~~ (BitVec.ofInt 64 (IntKind.wrap .u64 (1 * 2 ^ r)))).toNat : Nat) : Int))
  rw [wu64 (bv_ok _)]; exact bv_ok _
theorem orW_bit (w : Int) {r j : Nat} (hr : r < 64) (hj : j < 64) : bitV (orW w r) j = if j = r then true else bitV w j := by
  unfold bitV
  have e : BitVec.ofInt 64 (orW w r) = (BitVec.ofInt 64 w) ||| (BitVec.ofInt 64 (IntKind.wrap .u64 (1 * 2 ^ r))) := ofInt_wrap _
  rw [e, one_bit ⟨r, hr⟩, BitVec.getLsbD_or, BitVec.getLsbD_twoPow]
  by_cases h : j = r
  · subst h; simp [hr]
  · rw [if_neg h]
    have : (r == j) = false := by simp; omega
    simp [this, hr]; omega
theorem clrW_bit (w : Int) {r j : Nat} (hr : r < 64) (hj : j < 64) : bitV (clrW w r) j = if j = r then false else bitV w j := by
  unfold bitV
  have e : BitVec.ofInt 64 (clrW w r) = (BitVec.ofInt 64 w) &&& ~~~ (BitVec.ofInt 64 (IntKind.wrap .u64 (1 * 2 ^ r))) := ofInt_wrap _
  rw [e, one_bit ⟨r, hr⟩, BitVec.getLsbD_and, BitVec.getLsbD_not, BitVec.getLsbD_twoPow]
  by_cases h : j = r
  · subst h; simp [hr]
  · rw [if_neg h]
    simp [hj]; omega
theorem full_bit : ∀ j : Fin 64, bitV 18446744073709551615 j.val = true := by decide +kernel
theorem zero_bit (j : Nat) : bitV 0 j = false := by unfold bitV; simp
/-- The program's look at a digit. -/
theorem look_bit {w : Int} (h : w64ok w) (r : Nat) : (IntKind.wrap .u64 (BitVec.toNat ((BitVec.ofInt (IntKind.bits .u64) (Int.fdiv w (2 ^ r))) &&& (BitVec.ofInt (IntKind.bits .u64) 1))) == 1) = bitV w r := by
  unfold w64ok at h
  have hp : (0 : Int) < 2 ^ r := Int.pow_pos (by omega)
  have e0 : Int.fdiv w (2 ^ r) = w / 2 ^ r := Int.fdiv_eq_ediv_of_nonneg _ (Int.le_of_lt hp)
  have hq : 0 ≤ w / 2 ^ r ∧ w / 2 ^ r ≤ w := ⟨Int.ediv_nonneg h.1 (Int.le_of_lt hp), Int.ediv_le_self _ h.1⟩
  have e1 : (BitVec.toNat ((BitVec.ofInt (IntKind.bits .u64) (w / 2 ^ r)) &&& (BitVec.ofInt (IntKind.bits .u64) 1)) : Int) = w / 2 ^ r % 2 := by
    show ((BitVec.toNat ((BitVec.ofInt 64 (w / 2 ^ r)) &&& (BitVec.ofInt 64 1)) : Nat) : Int) = _
    rw [BitVec.toNat_and, BitVec.toNat_ofInt, BitVec.toNat_ofInt]
    have : (1 : Int) % ((2 ^ 64 : Nat) : Int) = 1 := by decide
    rw [this, show (1 : Int).toNat = 1 from rfl, Nat.and_one_is_mod]
    omega
  rw [e0, e1, wu64 (by unfold w64ok; omega)]
  unfold bitV
  rw [BitVec.getLsbD, BitVec.toNat_ofInt]
  have e2 : (w % ((2 ^ 64 : Nat) : Int)).toNat = w.toNat := by omega
  rw [e2, Nat.testBit_eq_decide_div_mod_eq]
  have e3 : ((w.toNat / 2 ^ r % 2 : Nat) : Int) = w / 2 ^ r % 2 := by
    rw [Int.natCast_emod, Int.natCast_ediv, Int.natCast_pow]
    have : ((w.toNat : Nat) : Int) = w := by omega
    rw [this]; rfl
  by_cases hc : w.toNat / 2 ^ r % 2 = 1
  · rw [decide_eq_true hc, ← e3, hc]; rfl
  · rw [decide_eq_false hc]
    have : ¬ w / 2 ^ r % 2 = 1 := by omega
    simp [this]
def U (ws : List Int) (i : Nat) : Bool := bitV (ws.getD (i / 64) 0) (i % 64)
def setWd (ws : List Int) (i : Nat) (b : Bool) : List Int := ws.set (i / 64) (if b then orW (ws.getD (i / 64) 0) (i % 64) else clrW (ws.getD (i / 64) 0) (i % 64))
theorem getD_setW {l : List Int} {i j : Nat} {v : Int} (h : i < l.length) : (l.set i v).getD j 0 = if j = i then v else l.getD j 0 := by
  rw [List.getD_eq_getElem?_getD, List.getElem?_set]
  by_cases hj : i = j
  · rw [if_pos hj, if_pos hj.symm, if_pos h]; rfl
  · rw [if_neg hj, if_neg (fun e => hj e.symm), List.getD_eq_getElem?_getD]
theorem U_set {ws : List Int} {i : Nat} (h : i / 64 < ws.length) (b : Bool) (j : Nat) : U (setWd ws i b) j = if j = i then b else U ws j := by
  unfold U setWd
  rw [getD_setW h]
  by_cases c : j / 64 = i / 64
  · rw [if_pos c]
    cases b
    · rw [if_neg (by simp), clrW_bit _ (by omega) (by omega), c]
      by_cases c2 : j = i
      · subst c2; rw [if_pos rfl, if_pos rfl]
      · rw [if_neg (by omega), if_neg c2]
    · rw [if_pos rfl, orW_bit _ (by omega) (by omega), c]
      by_cases c2 : j = i
      · subst c2; rw [if_pos rfl, if_pos rfl]
      · rw [if_neg (by omega), if_neg c2]
  · rw [if_neg c]
    by_cases c2 : j = i
    · subst c2; exact absurd rfl c
    · rw [if_neg c2]
theorem setWd_len (ws : List Int) (i : Nat) (b : Bool) : (setWd ws i b).length = ws.length := by simp [setWd]
theorem setWd_ok {ws : List Int} (h : ∀ w ∈ ws, w64ok w) (i : Nat) (b : Bool) : ∀ w ∈ setWd ws i b, w64ok w := by
  intro w hw
  rcases List.mem_or_eq_of_mem_set hw with h1 | h1
  · exact h w h1
  · rw [h1]; cases b
    · exact clrW_ok _ _
    · exact orW_ok _ _
end Go.Proofs.Ytkikncdhmifkaaa
/- What a map of sectors comes to. -/
namespace Go.Proofs.Ytkikncdhmifkaaa
open Go Go.Proofs.Ytkikncdhmifkaaa.E
set_option linter.unusedVariables false
set_option linter.unusedSimpArgs false
/-- A map: its box, the row of its levels, each level's words. -/
def Mp (N : Nat) (μ : AMem) (x : SV) (n : Nat) (rs : List SV) (wss : List (List Int)) : Prop :=
  ∃ sid so lid lo ver, x = .ptr sid 0 0 ∧ N ≤ sid ∧ μ.obj sid = some so ∧ so.ver = 0 ∧ so.cells = [.int .i64 n, .slice lid ver 0 rs.length] ∧
    N ≤ lid ∧ μ.obj lid = some lo ∧ lo.ver = ver ∧ (∀ (k : Nat) r, rs[k]? = some r → lo.cells[k]? = some r) ∧ rs.length = wss.length ∧
    (∀ (k : Nat) r ws, rs[k]? = some r → wss[k]? = some ws → (∃ e, OwnRow N μ .u64 e r ws) ∧ (∀ w ∈ ws, w64ok w) ∧ ¬ isId r sid ∧ ¬ isId r lid) ∧
    (∀ (i j : Nat) r r', i ≠ j → rs[i]? = some r → rs[j]? = some r' → Apart r r')
/-- A level's digits say which words below are full. -/
def Sm (ws vs : List Int) : Prop := (∀ j, j < ws.length → U vs j = (ws.getD j 0 == 18446744073709551615)) ∧ ∀ j, ws.length ≤ j → j < 64 * vs.length → U vs j = true
/-- How long the levels are, and that each one says which words below are full. -/
def lens (n : Nat) (wss : List (List Int)) : Prop := (wss.length = 1 ∧ n ≤ 64 ∨ wss.length = 2 ∧ 64 < n) ∧ wss.length ≤ 100 ∧ (∀ ws, wss[0]? = some ws → n ≤ 64 * ws.length ∧ ws.length ≤ 10000 ∧ ws.length = (n + 63) / 64) ∧ ∀ (k : Nat) ws vs, wss[k]? = some ws → wss[k + 1]? = some vs → vs.length = (ws.length + 63) / 64 ∧ Sm ws vs
def feet (rs : List SV) : Nat → Prop := fun j => ∃ r ∈ rs, isId r j
theorem Mp.nn {N : Nat} {μ : AMem} {x : SV} {n : Nat} {rs : List SV} {wss : List (List Int)} (h : Mp N μ x n rs wss) : isNil (.s x) = some false := by
  obtain ⟨sid, so, lid, lo, ver, rfl, _⟩ := h; rfl
theorem Mp.ids {N : Nat} {μ : AMem} {x : SV} {n : Nat} {rs : List SV} {wss : List (List Int)} (h : Mp N μ x n rs wss) {j : Nat} (hj : feet rs j) : N ≤ j ∧ ∃ o, μ.obj j = some o := by
  obtain ⟨sid, so, lid, lo, ver, _, _, _, _, _, _, _, _, _, hl, hr, _⟩ := h
  obtain ⟨r, hm, hi⟩ := hj
  obtain ⟨k, hk, rfl⟩ := List.mem_iff_getElem.mp hm
  obtain ⟨⟨e, ho⟩, _⟩ := hr k _ _ (List.getElem?_eq_getElem hk) (List.getElem?_eq_getElem (by omega))
  exact own_lives ho hi
/-- What a look at a level needs. -/
theorem Mp.level {N : Nat} {μ : AMem} {x : SV} {n : Nat} {rs : List SV} {wss : List (List Int)} (h : Mp N μ x n rs wss) {k : Nat} {ws : List Int} (hk : wss[k]? = some ws) :
    ∃ sid r L p, x = .ptr sid 0 0 ∧ rs[k]? = some r ∧ μ.cell sid 0 (0 + 0) = some (.int .i64 n) ∧ μ.cell sid 0 (0 + 1) = some L ∧ lenS (.s L) = some wss.length ∧ (∀ {R : Type} (K : AV → Option R), indS 1 (.s L) (k : Int) K = K p) ∧
      (∀ {R : Type} (K : AV → Option R), loadAt μ p K = K (.s r)) ∧ (∃ e, OwnRow N μ .u64 e r ws) ∧ (∀ w ∈ ws, w64ok w) := by
  obtain ⟨sid, so, lid, lo, ver, hx, hN, hso, hsv, hsc, hN2, hlo, hlv, hlc, hl, hr, hap⟩ := h
  have hkl : k < wss.length := (List.getElem?_eq_some_iff.mp hk).1
  have hkr : k < rs.length := by omega
  have hrk := List.getElem?_eq_getElem hkr
  obtain ⟨ho, hw, _, _⟩ := hr k _ _ hrk hk
  refine ⟨sid, rs[k], .slice lid ver 0 rs.length, .s (.ptr lid ver (0 + k * 1)), hx, hrk, ?_, ?_, ?_, fun K => ?_, fun K => ?_, ho, hw⟩
  · simp only [AMem.cell, hso, Option.bind_some, hsv, if_true, hsc]; rfl
  · simp only [AMem.cell, hso, Option.bind_some, hsv, if_true, hsc]; rfl
  · show some rs.length = _; rw [hl]
  · have h0 : (0 : Int) ≤ (k : Int) := by omega
    have h1 : (k : Int) < (rs.length : Int) := by omega
    simp only [indS, h0, h1, and_self, if_true, nat_toNat]
  · simp only [loadAt, AMem.cell, hlo, Option.bind_some, hlv, if_true, Nat.mul_one, Nat.zero_add, hlc k _ hrk]
/-- A level's row was written. -/
theorem Mp.wrote {N : Nat} {μ μ' : AMem} {x : SV} {n : Nat} {rs : List SV} {wss : List (List Int)} (h : Mp N μ x n rs wss) {k : Nat} {r : SV} {ws : List Int} (hk : rs[k]? = some r) (hkl : k < wss.length) (hK : Keep (isId r) μ μ') (ho : ∃ e, OwnRow N μ' .u64 e r ws) (hw : ∀ w ∈ ws, w64ok w) : Mp N μ' x n rs (wss.set k ws) := by
  obtain ⟨sid, so, lid, lo, ver, hx, hN, hso, hsv, hsc, hN2, hlo, hlv, hlc, hl, hr, hap⟩ := h
  obtain ⟨_, _, hns, hnl⟩ := hr k r _ hk (List.getElem?_eq_getElem hkl)
  refine ⟨sid, so, lid, lo, ver, hx, hN, hK.old _ _ hso hns, hsv, hsc, hN2, hK.old _ _ hlo hnl, hlv, hlc, by simp; exact hl, fun j r' ws' hj hws => ?_, hap⟩
  rw [List.getElem?_set] at hws
  by_cases hjk : k = j
  · subst hjk
    rw [if_pos rfl, if_pos hkl] at hws
    cases hws
    rw [hk] at hj
    cases hj
    exact ⟨ho, hw, hns, hnl⟩
  · rw [if_neg hjk] at hws
    obtain ⟨⟨e, h1⟩, h2, h3, h4⟩ := hr j r' ws' hj hws
    exact ⟨⟨e, ownKeep h1 hK fun i hi hh => hap k j r r' hjk hk hj i hi hh⟩, h2, h3, h4⟩
theorem Mp.keep {N : Nat} {μ μ' : AMem} {S : Nat → Prop} {x : SV} {n : Nat} {rs : List SV} {wss : List (List Int)} (h : Mp N μ x n rs wss) (hK : Same μ μ') : Mp N μ' x n rs wss := by
  obtain ⟨sid, so, lid, lo, ver, hx, hN, hso, hsv, hsc, hN2, hlo, hlv, hlc, hl, hr, hap⟩ := h
  refine ⟨sid, so, lid, lo, ver, hx, hN, hK.old _ _ hso fun h => h, hsv, hsc, hN2, hK.old _ _ hlo fun h => h, hlv, hlc, hl, fun j r' ws' hj hws => ?_, hap⟩
  obtain ⟨⟨e, h1⟩, h2⟩ := hr j r' ws' hj hws
  exact ⟨⟨e, ownKeep h1 hK fun i hi => hi.elim⟩, h2⟩
/-- A map that may be asked: its first level's words. -/
structure Mw (N : Nat) (μ : AMem) (x : SV) (n : Nat) (rs : List SV) (ws : List Int) : Prop where
  ex : ∃ wss, Mp N μ x n rs wss ∧ lens n wss ∧ wss[0]? = some ws
theorem mapMay_is {N : Nat} {μ : AMem} {x : SV} {n : Nat} {rs : List SV} {ws : List Int} (h : Mw N μ x n rs ws) (i : Int) : bitmap_Map_may [.s x, .s (.int .i64 i)] μ = some (.s (.bool (decide (0 ≤ i) && decide (i < n))), μ) := by
  obtain ⟨wss, hm, hl, h0⟩ := h.ex
  obtain ⟨sid, r, L, p, rfl, hr, hc0, hc1, hL, hi, hld, _⟩ := hm.level h0
  rw [bitmap_Map_may_eq]
  by_cases h1 : 0 ≤ i
  · rw [decide_eq_true h1, Bool.true_and]
    simp -implicitDefEqProofs (disch := omega) only [lt_t, lt_f, gt_t, gt_f, le_t, le_f, ge_t, ge_f, ne_t, ne_f, eq_t, eq_f, w64, chk_true, Option.bind_some, decide_true, decide_false, cond_true, cond_false, seqJ_n, seqJ_r, seqJ_e, headK_c, asB_bool, asI_int, asS_s, asN_int, extrK_0, extrK_1, extrK_2, Bool.not_true, Bool.not_false, Nat.beq_refl, hc0]
  · rw [decide_eq_false h1, Bool.false_and]
    simp -implicitDefEqProofs (disch := omega) only [lt_t, lt_f, gt_t, gt_f, le_t, le_f, ge_t, ge_f, ne_t, ne_f, eq_t, eq_f, w64, chk_true, Option.bind_some, decide_true, decide_false, cond_true, cond_false, seqJ_n, seqJ_r, seqJ_e, headK_c, asB_bool, asI_int, asS_s, asN_int, extrK_0, extrK_1, extrK_2, Bool.not_true, Bool.not_false, Nat.beq_refl]
def usedZ (n : Nat) (ws : List Int) (i : Int) : Bool := !(decide (0 ≤ i) && decide (i < n)) || U ws i.toNat
theorem used_is {N : Nat} {μ : AMem} {x : SV} {n : Nat} {rs : List SV} {ws : List Int} (h : Mw N μ x n rs ws) (i : Int) : bitmap_Map_Used [.s x, .s (.int .i64 i)] μ = some (.s (.bool (usedZ n ws i)), μ) := by
  have hmay := mapMay_is h i
  obtain ⟨wss, hm, hl, h0⟩ := h.ex
  obtain ⟨sid, r, L, p, rfl, hr, hc0, hc1, hL, hi, hld, ⟨e, ho⟩, hok⟩ := hm.level h0
  obtain ⟨hl1, hl100, hl2, _⟩ := hl
  obtain ⟨hn, hn2⟩ := hl2 ws h0
  rw [bitmap_Map_Used_eq, hmay]
  unfold usedZ
  by_cases hb : 0 ≤ i ∧ i < n
  · obtain ⟨j, rfl⟩ : ∃ j : Nat, i = (j : Int) := ⟨i.toNat, by omega⟩
    have hbt : (decide (0 ≤ (j : Int)) && decide ((j : Int) < (n : Int))) = true := by rw [decide_eq_true hb.1, decide_eq_true hb.2]; rfl
    have hj : j / 64 < ws.length := by omega
    have e1 : IntKind.wrap .i64 (Int.tdiv (j : Int) 64) = ((j / 64 : Nat) : Int) := by rw [Int.tdiv_eq_ediv_of_nonneg (by omega), wr (by omega)]; omega
    have e2 : Int.tmod (j : Int) 64 = ((j % 64 : Nat) : Int) := by rw [Int.tmod_eq_emod_of_nonneg (by omega)]; omega
    have e3 : min (Int.toNat ((j % 64 : Nat) : Int)) (IntKind.bits .u64) = j % 64 := by show min _ 64 = _; omega
    have e3b : min (j % 64) (IntKind.bits .u64) = j % 64 := by show min _ 64 = _; omega
    have a1 := fun {R : Type} (K : AV → Option R) => ho.row.ind (i := ((j / 64 : Nat) : Int)) (by omega) (by omega) K
    have a2 := fun {R : Type} (K : AV → Option R) => ho.row.load (i := ((j / 64 : Nat) : Int)) (by omega) (by omega) K
    rw [nat_toNat] at a2
    have hlk := look_bit (hok _ (getD_mem hj)) (j % 64)
    have hi0 := fun {R : Type} (K : AV → Option R) => hi K
    rw [n0] at hi0
    rw [hbt]
    simp -implicitDefEqProofs only [hc1, hi0, hld, e1, a1, a2, e2, if_neg (show ¬ ((j % 64 : Nat) : Int) < 0 by omega), e3, e3b, hlk, Bool.false_or, nat_toNat, Option.bind_some, decide_true, decide_false, cond_true, cond_false, seqJ_n, seqJ_r, seqJ_e, headK_c, asB_bool, asI_int, asS_s, asN_int, extrK_0, extrK_1, extrK_2, Bool.not_true, Bool.not_false, Nat.beq_refl]
    rfl
  · have hbf : (decide (0 ≤ i) && decide (i < (n : Int))) = false := by
      by_cases h1 : 0 ≤ i
      · rw [decide_eq_false (p := i < (n : Int)) (by omega), Bool.and_false]
      · rw [decide_eq_false h1, Bool.false_and]
    rw [hbf]
    simp -implicitDefEqProofs only [Bool.true_or, Option.bind_some, decide_true, decide_false, cond_true, cond_false, seqJ_n, seqJ_r, seqJ_e, headK_c, asB_bool, asI_int, asS_s, asN_int, extrK_0, extrK_1, extrK_2, Bool.not_true, Bool.not_false, Nat.beq_refl]
theorem setL_loop {N : Nat} {x : SV} {n : Nat} {rs : List SV} :
    ∀ (m k i : Nat) (b : Bool) (μ : AMem) (wss : List (List Int)), k + m = wss.length → (∀ ws, wss[k]? = some ws → i / 64 < ws.length) → (∀ (k : Nat) ws vs, wss[k]? = some ws → wss[k + 1]? = some vs → ws.length ≤ 64 * vs.length) → i ≤ 1000000 → wss.length ≤ 100 → WF μ → Mp N μ x n rs wss →
      ∃ μ' wss', bitmap_Map_Set_L1 [.s x, .s (.int .i64 wss.length)] [.s (.int .i64 i), .s (.bool b), .s (.int .i64 k)] μ = some (.exit 0, [], μ') ∧ Keep (feet rs) μ μ' ∧ Mp N μ' x n rs wss' ∧ wss'.length = wss.length ∧
        (∀ j : Nat, (wss'[j]?.map List.length) = (wss[j]?.map List.length)) ∧ (∀ j : Nat, j < k → wss'[j]? = wss[j]?) ∧ (∀ ws, wss[k]? = some ws → wss'[k]? = some (setWd ws i b)) ∧
        ((∀ j : Nat, k ≤ j → ∀ ws vs, wss[j]? = some ws → wss[j + 1]? = some vs → Sm ws vs) → ∀ j : Nat, k ≤ j → ∀ ws vs, wss'[j]? = some ws → wss'[j + 1]? = some vs → Sm ws vs)
  | 0, k, i, b, μ, wss, hk, hi, hc, hb, h100, hw, h => by
    have hx : ∃ sid, x = .ptr sid 0 0 := by obtain ⟨sid, so, lid, lo, ver, rfl, _⟩ := h; exact ⟨sid, rfl⟩
    obtain ⟨sid, rfl⟩ := hx
    rw [bitmap_Map_Set_L1_eq, bitmap_Map_Set_L1_B_eq]
    refine ⟨μ, wss, ?_, Keep.refl hw, h, rfl, fun _ => rfl, fun _ _ => rfl, fun ws hws => ?_, fun h => h⟩
    · simp -implicitDefEqProofs (disch := omega) only [lt_t, lt_f, gt_t, gt_f, le_t, le_f, ge_t, ge_f, ne_t, ne_f, eq_t, eq_f, w64, chk_true, Option.bind_some, decide_true, decide_false, cond_true, cond_false, seqJ_n, seqJ_r, seqJ_e, headK_c, asB_bool, asI_int, asS_s, asN_int, extrK_0, extrK_1, extrK_2, Bool.not_true, Bool.not_false, Nat.beq_refl]
    · have := (List.getElem?_eq_some_iff.mp hws).1
      omega
  | m + 1, k, i, b, μ, wss, hk, hi, hc, hb, h100, hw, h => by
    have hkl : k < wss.length := by omega
    obtain ⟨ws, hws⟩ : ∃ ws, wss[k]? = some ws := ⟨_, List.getElem?_eq_getElem hkl⟩
    have hiw := hi ws hws
    obtain ⟨sid, r, L, p, hx, hr, hc0, hc1, hL, hind, hld, ⟨e, ho⟩, hok⟩ := h.level hws
    obtain ⟨m1, s1, s2, s3, s4⟩ := storeK hw ho (i := i / 64) hiw (if b then orW (ws.getD (i / 64) 0) (i % 64) else clrW (ws.getD (i / 64) 0) (i % 64))
    have h1 : Mp N m1 x n rs (wss.set k (setWd ws i b)) := h.wrote hr hkl s2 ⟨e, s3⟩ (setWd_ok hok i b)
    have hws1 : (wss.set k (setWd ws i b))[k]? = some (setWd ws i b) := List.getElem?_set_self hkl
    obtain ⟨sid', r', L', p', hx', hr', hc0', hc1', hL', hind', hld', ⟨e', ho'⟩, hok'⟩ := h1.level hws1
    obtain rfl : r' = r := by rw [hr] at hr'; cases hr'; rfl
    have hsl := setWd_len ws i b
    have hne : ∀ j ws', j ≠ k → ((wss.set k (setWd ws i b))[j]? = some ws' ↔ wss[j]? = some ws') := fun j ws' hj => by rw [List.getElem?_set_ne (fun e => hj e.symm)]
    obtain ⟨b', hb'⟩ : ∃ b', ((setWd ws i b).getD (i / 64) 0 == 18446744073709551615) = b' := ⟨_, rfl⟩
    obtain ⟨m2, wss2, q1, q2, q3, q4, q5, q6, q7, q8⟩ := setL_loop (N := N) (x := x) (n := n) (rs := rs) m (k + 1) (i / 64) b' m1 (wss.set k (setWd ws i b)) (by simp; omega)
      (fun vs hvs => by
        rw [hne _ _ (by omega)] at hvs
        have := hc k ws vs hws hvs
        omega)
      (fun j ws' vs h1 h2 => by
        by_cases hj : j = k
        · subst hj
          rw [hws1] at h1
          cases h1
          rw [hne _ _ (by omega)] at h2
          rw [hsl]; exact hc j ws vs hws h2
        · rw [hne _ _ hj] at h1
          by_cases hj2 : j + 1 = k
          · rw [hj2, hws1] at h2
            cases h2
            rw [hsl]; exact hc j ws' ws h1 (by rw [hj2]; exact hws)
          · rw [hne _ _ hj2] at h2
            exact hc j ws' vs h1 h2)
      (by omega) (by simp; exact h100) s2.wf h1
    have hll : (wss.set k (setWd ws i b)).length = wss.length := by simp
    rw [hll, nsu] at q1
    have hfeet : ∀ j, isId r' j → feet rs j := fun j hj => ⟨r', List.mem_of_getElem? hr, hj⟩
    refine ⟨m2, wss2, ?_, (s2.weak0 hfeet).trans q2, q3, q4.trans hll, fun j => ?_, fun j hj => ?_, fun ws' hws' => ?_, fun hS j hj => ?_⟩
    · subst hx
      have e1 : IntKind.wrap .i64 (Int.tdiv (i : Int) 64) = ((i / 64 : Nat) : Int) := by rw [Int.tdiv_eq_ediv_of_nonneg (by omega), wr (by omega)]; omega
      have e2 : Int.tmod (i : Int) 64 = ((i % 64 : Nat) : Int) := by rw [Int.tmod_eq_emod_of_nonneg (by omega)]; omega
      have e3 : min (Int.toNat ((i % 64 : Nat) : Int)) (IntKind.bits .u64) = i % 64 := by show min _ 64 = _; omega
      have ei : IntKind.wrap .i64 ((k : Int) + 1) = (k : Int) + 1 := wr (by omega)
      have a1 := fun {R : Type} (K : AV → Option R) => ho.row.ind (i := ((i / 64 : Nat) : Int)) (by omega) (by omega) K
      have a2 := fun {R : Type} (K : AV → Option R) => ho.row.load (i := ((i / 64 : Nat) : Int)) (by omega) (by omega) K
      have a3 := fun {R : Type} (K : AV → Option R) => ho'.row.ind (i := ((i / 64 : Nat) : Int)) (by omega) (by rw [hsl]; omega) K
      have a4 := fun {R : Type} (K : AV → Option R) => ho'.row.load (i := ((i / 64 : Nat) : Int)) (by omega) (by rw [hsl]; omega) K
      rw [nat_toNat] at a2 a4
      rw [hb'.symm] at q1
      cases hx'
      rw [bitmap_Map_Set_L1_eq, bitmap_Map_Set_L1_B_eq]
      cases b
      · have hclr : IntKind.wrap .u64 (BitVec.toNat ((BitVec.ofInt (IntKind.bits .u64) (ws.getD (i / 64) 0)) &&& ~~~ (BitVec.ofInt (IntKind.bits .u64) (IntKind.wrap .u64 (1 * 2 ^ (i % 64)))))) = clrW (ws.getD (i / 64) 0) (i % 64) := rfl
        simp only [Bool.false_eq_true, if_false] at s1
        simp -implicitDefEqProofs only [lt_t (show (k : Int) < wss.length by omega), e2, if_neg (show ¬ ((i % 64 : Nat) : Int) < 0 by omega), hc1, hind, hld, e1, a1, a2, e3, hclr, s1, hc1', hind', hld', a3, a4, ei, Option.bind_some, decide_true, decide_false, cond_true, cond_false, seqJ_n, seqJ_r, seqJ_e, headK_c, asB_bool, asI_int, asS_s, asN_int, extrK_0, extrK_1, extrK_2, Bool.not_true, Bool.not_false, Nat.beq_refl]
        exact q1
      · have hor : IntKind.wrap .u64 (BitVec.toNat ((BitVec.ofInt (IntKind.bits .u64) (ws.getD (i / 64) 0)) ||| (BitVec.ofInt (IntKind.bits .u64) (IntKind.wrap .u64 (1 * 2 ^ (i % 64)))))) = orW (ws.getD (i / 64) 0) (i % 64) := rfl
        simp only [if_true] at s1
        simp -implicitDefEqProofs only [lt_t (show (k : Int) < wss.length by omega), e2, if_neg (show ¬ ((i % 64 : Nat) : Int) < 0 by omega), hc1, hind, hld, e1, a1, a2, e3, hor, s1, hc1', hind', hld', a3, a4, ei, Option.bind_some, decide_true, decide_false, cond_true, cond_false, seqJ_n, seqJ_r, seqJ_e, headK_c, asB_bool, asI_int, asS_s, asN_int, extrK_0, extrK_1, extrK_2, Bool.not_true, Bool.not_false, Nat.beq_refl]
        exact q1
    · rw [q5 j]
      by_cases hj : j = k
      · subst hj; rw [hws1, hws]; simp [hsl]
      · rw [List.getElem?_set_ne (fun e => hj e.symm)]
    · rw [q6 j (by omega), List.getElem?_set_ne (by omega)]
    · rw [hws] at hws'
      cases hws'
      rw [q6 k (by omega), hws1]
    · intro us vs hus hvs
      by_cases hjk : j = k
      · subst hjk
        rw [q6 j (by omega), hws1] at hus
        cases hus
        obtain ⟨vs0, hv0⟩ : ∃ vs0, wss[j + 1]? = some vs0 := by
          have := q5 (j + 1)
          rw [hvs, List.getElem?_set_ne (by omega)] at this
          cases hu : wss[j + 1]? with
          | none => rw [hu] at this; cases this
          | some us => exact ⟨us, rfl⟩
        have hv1 := q7 vs0 (by rw [List.getElem?_set_ne (by omega)]; exact hv0)
        rw [hvs] at hv1
        cases hv1
        have hcl := hc j ws vs0 hws hv0
        have hsm := hS j (Nat.le_refl _) ws vs0 hws hv0
        refine ⟨fun l hl => ?_, fun l hl hl2 => ?_⟩
        · rw [hsl] at hl
          rw [U_set (by omega) b' l]
          by_cases hli : l = i / 64
          · rw [if_pos hli, hli, hb']
          · rw [if_neg hli, hsm.1 l hl]
            unfold setWd
            rw [getD_setW hiw, if_neg hli]
        · rw [hsl] at hl
          rw [setWd_len] at hl2
          rw [U_set (by omega) b' l, if_neg (by omega), hsm.2 l hl hl2]
      · refine q8 (fun l hl us vs hus hvs => ?_) j (by omega) us vs hus hvs
        rw [hne _ _ (by omega)] at hus
        rw [hne _ _ (by omega)] at hvs
        exact hS l (by omega) us vs hus hvs
end Go.Proofs.Ytkikncdhmifkaaa
/- Maps: set, the first free one, counts. -/
namespace Go.Proofs.Ytkikncdhmifkaaa
open Go Go.Proofs.Ytkikncdhmifkaaa.E
set_option linter.unusedVariables false
set_option linter.unusedSimpArgs false
theorem mapSet_is {N : Nat} {μ : AMem} (hw : WF μ) {x : SV} {n : Nat} {rs : List SV} {ws : List Int} (h : Mw N μ x n rs ws) (hn : n ≤ 5000) (i : Int) (b : Bool) :
    ((¬ (0 ≤ i ∧ i < n) ∨ usedZ n ws i = b) → bitmap_Map_Set [.s x, .s (.int .i64 i), .s (.bool b)] μ = some (.s (.bool false), μ)) ∧
    ((0 ≤ i ∧ i < n) → usedZ n ws i ≠ b → ∃ μ', bitmap_Map_Set [.s x, .s (.int .i64 i), .s (.bool b)] μ = some (.s (.bool true), μ') ∧ Keep (feet rs) μ μ' ∧ Mw N μ' x n rs (setWd ws i.toNat b)) := by
  have hmay := mapMay_is h i
  have hus := used_is h i
  refine ⟨fun hc => ?_, fun hb hne => ?_⟩
  · obtain ⟨wss, hm, _⟩ := h.ex
    obtain ⟨sid, so, lid, lo, ver, rfl, _⟩ := hm
    rw [bitmap_Map_Set_eq, hmay]
    by_cases hb : 0 ≤ i ∧ i < n
    · have hbt : (decide (0 ≤ i) && decide (i < (n : Int))) = true := by rw [decide_eq_true hb.1, decide_eq_true hb.2]; rfl
      have hub : (usedZ n ws i == b) = true := by
        rcases hc with hc | hc
        · exact absurd hb hc
        · rw [hc]; simp
      rw [hbt]
      simp -implicitDefEqProofs only [hus, hub, Option.bind_some, decide_true, decide_false, cond_true, cond_false, seqJ_n, seqJ_r, seqJ_e, headK_c, asB_bool, asI_int, asS_s, asN_int, extrK_0, extrK_1, extrK_2, Bool.not_true, Bool.not_false, Nat.beq_refl]
    · have hbf : (decide (0 ≤ i) && decide (i < (n : Int))) = false := by
        by_cases h1 : 0 ≤ i
        · rw [decide_eq_false (p := i < (n : Int)) (by omega), Bool.and_false]
        · rw [decide_eq_false h1, Bool.false_and]
      rw [hbf]
      simp -implicitDefEqProofs only [Option.bind_some, decide_true, decide_false, cond_true, cond_false, seqJ_n, seqJ_r, seqJ_e, headK_c, asB_bool, asI_int, asS_s, asN_int, extrK_0, extrK_1, extrK_2, Bool.not_true, Bool.not_false, Nat.beq_refl]
  · obtain ⟨wss, hm, ⟨hl1, hl100, hl2, hl3⟩, h0⟩ := h.ex
    obtain ⟨hn1, hn2⟩ := hl2 ws h0
    obtain ⟨μ', wss', q1, q2, q3, q4, q5, q6, q7, q8⟩ := setL_loop wss.length 0 i.toNat b μ wss (by omega) (fun vs hvs => by rw [h0] at hvs; cases hvs; omega) (fun k ws vs h1 h2 => by have := (hl3 k ws vs h1 h2).1; omega) (by omega) hl100 hw hm
    rw [n0, show ((i.toNat : Nat) : Int) = i by omega] at q1
    have hlv : ∀ (k : Nat) vs, wss'[k]? = some vs → ∃ us, wss[k]? = some us ∧ us.length = vs.length := fun k vs hvs => by
      have := q5 k
      rw [hvs] at this
      cases hu : wss[k]? with
      | none => rw [hu] at this; cases this
      | some us => rw [hu] at this; simp only [Option.map_some, Option.some.injEq] at this; exact ⟨us, rfl, this.symm⟩
    refine ⟨μ', ?_, q2, ⟨wss', q3, ⟨by omega, by omega, fun vs hvs => ?_, fun k vs us hvs hus => ?_⟩, q7 ws h0⟩⟩
    · obtain ⟨sid, r, L, p, hx, _, _, hc1, hL, _⟩ := hm.level h0
      subst hx
      have hbt : (decide (0 ≤ i) && decide (i < (n : Int))) = true := by rw [decide_eq_true hb.1, decide_eq_true hb.2]; rfl
      have hub : (usedZ n ws i == b) = false := by
        cases hq : usedZ n ws i <;> cases b <;> simp_all
      rw [bitmap_Map_Set_eq, hmay, hbt]
      simp -implicitDefEqProofs only [hus, hub, hc1, hL, q1, Option.bind_some, decide_true, decide_false, cond_true, cond_false, seqJ_n, seqJ_r, seqJ_e, headK_c, asB_bool, asI_int, asS_s, asN_int, extrK_0, extrK_1, extrK_2, Bool.not_true, Bool.not_false, Nat.beq_refl]
    · obtain ⟨us, h1, h2⟩ := hlv 0 vs hvs
      have := hl2 us h1
      omega
    · obtain ⟨vs', h1, h2⟩ := hlv k vs hvs
      obtain ⟨us', h3, h4⟩ := hlv (k + 1) us hus
      have := (hl3 k vs' us' h1 h3).1
      exact ⟨by omega, q8 (fun j _ ws vs h1 h2 => (hl3 j ws vs h1 h2).2) k (by omega) vs us hvs hus⟩
theorem usedZ_in {n : Nat} {ws : List Int} {i : Nat} (h : i < n) : usedZ n ws (i : Int) = U ws i := by
  unfold usedZ
  rw [decide_eq_true (by omega), decide_eq_true (by omega)]; rfl
/-- The least free one from there on. -/
def Fst (V : Nat → Bool) (n : Nat) (a : Nat) (f : Int) : Prop := (f = -1 ∧ ∀ j, a ≤ j → j < n → V j = true) ∨ ∃ g : Nat, f = (g : Int) ∧ a ≤ g ∧ g < n ∧ V g = false ∧ ∀ j, a ≤ j → j < g → V j = true
theorem first_loop {N : Nat} {μ : AMem} {x : SV} {n : Nat} {rs : List SV} {ws : List Int} (h : Mw N μ x n rs ws) (hn : n ≤ 5000) :
    ∀ (m i : Nat), n ≤ i + m → i ≤ 6000 → (∃ v, bitmap_Map_First_L1 [.s x] [.s (.int .i64 i)] μ = some (.ret, [.s (.int .i64 v)], μ) ∧ Fst (U ws) n i v) ∨ (bitmap_Map_First_L1 [.s x] [.s (.int .i64 i)] μ = some (.exit 0, [], μ) ∧ Fst (U ws) n i (-1))
  | 0, i, h1, h2 => by
    obtain ⟨wss, hm, _, h0⟩ := h.ex
    obtain ⟨sid, r, L, p, rfl, _, hc0, _⟩ := hm.level h0
    refine .inr ⟨?_, .inl ⟨rfl, fun j h3 h4 => by omega⟩⟩
    rw [bitmap_Map_First_L1_eq, bitmap_Map_First_L1_B_eq]
    simp -implicitDefEqProofs only [hc0, lt_f (show (n : Int) ≤ i by omega), Option.bind_some, decide_true, decide_false, cond_true, cond_false, seqJ_n, seqJ_r, seqJ_e, headK_c, asB_bool, asI_int, asS_s, asN_int, extrK_0, extrK_1, extrK_2, Bool.not_true, Bool.not_false, Nat.beq_refl]
  | m + 1, i, h1, h2 => by
    have hh := h
    obtain ⟨wss, hm, ⟨hl1, hl100, hl2, hl3⟩, h0⟩ := h.ex
    obtain ⟨sid, r, L, p, hx, _, hc0, hc1, hL, hi, hld, ⟨e, ho⟩, hok⟩ := hm.level h0
    obtain ⟨hn1, hn2⟩ := hl2 ws h0
    by_cases hin : i < n
    · have hus := used_is h (i : Int)
      rw [usedZ_in hin] at hus
      subst hx
      have hj : i / 64 < ws.length := by omega
      have e1 : IntKind.wrap .i64 (Int.tdiv (i : Int) 64) = ((i / 64 : Nat) : Int) := by rw [Int.tdiv_eq_ediv_of_nonneg (by omega), wr (by omega)]; omega
      have e2 : Int.tmod (i : Int) 64 = ((i % 64 : Nat) : Int) := by rw [Int.tmod_eq_emod_of_nonneg (by omega)]; omega
      have a1 := fun {R : Type} (K : AV → Option R) => ho.row.ind (i := ((i / 64 : Nat) : Int)) (by omega) (by omega) K
      have a2 := fun {R : Type} (K : AV → Option R) => ho.row.load (i := ((i / 64 : Nat) : Int)) (by omega) (by omega) K
      rw [nat_toNat] at a2
      have hi0 := fun {R : Type} (K : AV → Option R) => hi K
      rw [n0] at hi0
      have ei : IntKind.wrap .i64 ((i : Int) + 1) = (i : Int) + 1 := wr (by omega)
      have ci := lt_t (a := (i : Int)) (b := (n : Int)) (by omega)
      by_cases hf : i % 64 = 0 ∧ ws.getD (i / 64) 0 = 18446744073709551615
      · have e3 : IntKind.wrap .i64 (IntKind.wrap .i64 (IntKind.wrap .i64 ((i : Int) + 64) - 1) + 1) = ((i + 64 : Nat) : Int) := by rw [wr (n := (i : Int) + 64) (by omega), wr (n := (i : Int) + 64 - 1) (by omega), wr (by omega)]; omega
        have hfull : ∀ j, i ≤ j → j < i + 64 → U ws j = true := fun j h3 h4 => by
          unfold U
          rw [show j / 64 = i / 64 by omega, hf.2]
          exact full_bit ⟨j % 64, by omega⟩
        have ih := first_loop hh hn m (i + 64) (by omega) (by omega)
        have q0 := eq_t (a := ((i % 64 : Nat) : Int)) (b := 0) (by omega)
        have q1 := eq_t hf.2
        rw [bitmap_Map_First_L1_eq, bitmap_Map_First_L1_B_eq]
        simp -implicitDefEqProofs only [hc0, ci, e2, q0, hc1, hi0, hld, e1, a1, a2, q1, e3, Option.bind_some, decide_true, decide_false, cond_true, cond_false, seqJ_n, seqJ_r, seqJ_e, headK_c, asB_bool, asI_int, asS_s, asN_int, extrK_0, extrK_1, extrK_2, Bool.not_true, Bool.not_false, Nat.beq_refl]
        rcases ih with ⟨v, f1, f2⟩ | ⟨f1, f2⟩
        · refine .inl ⟨v, f1, ?_⟩
          rcases f2 with ⟨rfl, g2⟩ | ⟨g, rfl, g2, g3, g4, g5⟩
          · exact .inl ⟨rfl, fun j h3 h4 => by
              by_cases h5 : j < i + 64
              · exact hfull j h3 h5
              · exact g2 j (by omega) h4⟩
          · exact .inr ⟨g, rfl, by omega, g3, g4, fun j h3 h4 => by
              by_cases h5 : j < i + 64
              · exact hfull j h3 h5
              · exact g5 j (by omega) h4⟩
        · refine .inr ⟨f1, ?_⟩
          rcases f2 with ⟨_, g2⟩ | ⟨g, hg, _⟩
          · exact .inl ⟨rfl, fun j h3 h4 => by
              by_cases h5 : j < i + 64
              · exact hfull j h3 h5
              · exact g2 j (by omega) h4⟩
          · omega
      · have hsel : (bif (((i % 64 : Nat) : Int) == 0) then (some (AExit.normal, [AV.s (.bool (ws.getD (i / 64) 0 == 18446744073709551615))], μ)) else (some (AExit.normal, [AV.s (.bool false)], μ))) = some (AExit.normal, [AV.s (.bool false)], μ) := by
          by_cases h3 : i % 64 = 0
          · have : (ws.getD (i / 64) 0 == 18446744073709551615) = false := eq_f fun e => hf ⟨h3, e⟩
            rw [this]; cases (((i % 64 : Nat) : Int) == 0) <;> rfl
          · rw [eq_f (show ¬ ((i % 64 : Nat) : Int) = 0 by omega)]; rfl
        have ih := first_loop hh hn m (i + 1) (by omega) (by omega)
        rw [nsu] at ih
        rw [bitmap_Map_First_L1_eq, bitmap_Map_First_L1_B_eq]
        cases hU : U ws i
        · rw [hU] at hus
          refine .inl ⟨(i : Int), ?_, .inr ⟨i, rfl, Nat.le_refl _, hin, hU, fun j h3 h4 => by omega⟩⟩
          simp -implicitDefEqProofs only [hc0, ci, e2, hc1, hi0, hld, e1, a1, a2, hsel, hus, Option.bind_some, decide_true, decide_false, cond_true, cond_false, seqJ_n, seqJ_r, seqJ_e, headK_c, asB_bool, asI_int, asS_s, asN_int, extrK_0, extrK_1, extrK_2, Bool.not_true, Bool.not_false, Nat.beq_refl]
        · rw [hU] at hus
          simp -implicitDefEqProofs only [hc0, ci, e2, hc1, hi0, hld, e1, a1, a2, hsel, hus, ei, Option.bind_some, decide_true, decide_false, cond_true, cond_false, seqJ_n, seqJ_r, seqJ_e, headK_c, asB_bool, asI_int, asS_s, asN_int, extrK_0, extrK_1, extrK_2, Bool.not_true, Bool.not_false, Nat.beq_refl]
          rcases ih with ⟨v, f1, f2⟩ | ⟨f1, f2⟩
          · refine .inl ⟨v, f1, ?_⟩
            rcases f2 with ⟨rfl, g2⟩ | ⟨g, rfl, g2, g3, g4, g5⟩
            · exact .inl ⟨rfl, fun j h3 h4 => by
                by_cases h5 : j = i
                · rw [h5]; exact hU
                · exact g2 j (by omega) h4⟩
            · exact .inr ⟨g, rfl, by omega, g3, g4, fun j h3 h4 => by
                by_cases h5 : j = i
                · rw [h5]; exact hU
                · exact g5 j (by omega) h4⟩
          · refine .inr ⟨f1, ?_⟩
            rcases f2 with ⟨_, g2⟩ | ⟨g, hg, _⟩
            · exact .inl ⟨rfl, fun j h3 h4 => by
                by_cases h5 : j = i
                · rw [h5]; exact hU
                · exact g2 j (by omega) h4⟩
            · omega
    · subst hx
      refine .inr ⟨?_, .inl ⟨rfl, fun j h3 h4 => by omega⟩⟩
      rw [bitmap_Map_First_L1_eq, bitmap_Map_First_L1_B_eq]
      simp -implicitDefEqProofs only [hc0, lt_f (show (n : Int) ≤ i by omega), Option.bind_some, decide_true, decide_false, cond_true, cond_false, seqJ_n, seqJ_r, seqJ_e, headK_c, asB_bool, asI_int, asS_s, asN_int, extrK_0, extrK_1, extrK_2, Bool.not_true, Bool.not_false, Nat.beq_refl]
theorem mapFirst_is {N : Nat} {μ : AMem} {x : SV} {n : Nat} {rs : List SV} {ws : List Int} (h : Mw N μ x n rs ws) (hn : n ≤ 5000) : ∃ f, bitmap_Map_First [.s x, .s (.int .i64 0)] μ = some (.s (.int .i64 f), μ) ∧ Fst (U ws) n 0 f := by
  have hl := first_loop h hn n 0 (by omega) (by omega)
  rw [n0] at hl
  have hx : ∃ sid, x = .ptr sid 0 0 := by obtain ⟨wss, ⟨sid, so, lid, lo, ver, rfl, _⟩, _⟩ := h.ex; exact ⟨sid, rfl⟩
  obtain ⟨sid, rfl⟩ := hx
  have e0 : (if (0 : Int) > 0 then (0 : Int) else 0) = 0 := rfl
  rcases hl with ⟨v, e, hv⟩ | ⟨e, hv⟩
  · refine ⟨v, ?_, hv⟩
    rw [bitmap_Map_First_eq, e0, e]
    simp -implicitDefEqProofs only [Option.bind_some, decide_true, decide_false, cond_true, cond_false, seqJ_n, seqJ_r, seqJ_e, headK_c, asB_bool, asI_int, asS_s, asN_int, extrK_0, extrK_1, extrK_2, Bool.not_true, Bool.not_false, Nat.beq_refl]
  · refine ⟨-1, ?_, hv⟩
    rw [bitmap_Map_First_eq, e0, e]
    simp -implicitDefEqProofs only [Option.bind_some, decide_true, decide_false, cond_true, cond_false, seqJ_n, seqJ_r, seqJ_e, headK_c, asB_bool, asI_int, asS_s, asN_int, extrK_0, extrK_1, extrK_2, Bool.not_true, Bool.not_false, Nat.beq_refl]
theorem Fst.unique {V : Nat → Bool} {n a : Nat} {f g : Int} (h1 : Fst V n a f) (h2 : Fst V n a g) : f = g := by
  rcases h1 with ⟨rfl, a1⟩ | ⟨u, rfl, a1, a2, a3, a4⟩
  · rcases h2 with ⟨rfl, b1⟩ | ⟨v, rfl, b1, b2, b3, b4⟩
    · rfl
    · rw [a1 v b1 b2] at b3; cases b3
  · rcases h2 with ⟨rfl, b1⟩ | ⟨v, rfl, b1, b2, b3, b4⟩
    · rw [b1 u a1 a2] at a3; cases a3
    · rcases Nat.lt_trichotomy u v with h | h | h
      · rw [b4 u a1 h] at a3; cases a3
      · rw [h]
      · rw [a4 v b1 h] at b3; cases b3
def cntF (V : Nat → Bool) : Nat → Int
  | 0 => 0
  | n + 1 => cntF V n + if V n then 1 else 0
theorem cntF_le (V : Nat → Bool) : ∀ n : Nat, 0 ≤ cntF V n ∧ cntF V n ≤ n
  | 0 => by simp [cntF]
  | n + 1 => by
    have := cntF_le V n
    rw [cntF]; split <;> omega
theorem count_loop {N : Nat} {μ : AMem} {x : SV} {n : Nat} {rs : List SV} {ws : List Int} (h : Mw N μ x n rs ws) (hn : n ≤ 5000) :
    ∀ (m i : Nat), i + m = n → bitmap_Map_Count_L1 [.s x, .s (.int .i64 n)] [.s (.int .i64 (cntF (U ws) i)), .s (.int .i64 i)] μ = some (.exit 0, [.s (.int .i64 (cntF (U ws) n))], μ)
  | 0, i, h1 => by
    have hx : ∃ sid, x = .ptr sid 0 0 := by obtain ⟨wss, ⟨sid, so, lid, lo, ver, rfl, _⟩, _⟩ := h.ex; exact ⟨sid, rfl⟩
    obtain ⟨sid, rfl⟩ := hx
    obtain rfl : i = n := by omega
    rw [bitmap_Map_Count_L1_eq, bitmap_Map_Count_L1_B_eq]
    simp -implicitDefEqProofs (disch := omega) only [lt_t, lt_f, gt_t, gt_f, le_t, le_f, ge_t, ge_f, ne_t, ne_f, eq_t, eq_f, w64, chk_true, Option.bind_some, decide_true, decide_false, cond_true, cond_false, seqJ_n, seqJ_r, seqJ_e, headK_c, asB_bool, asI_int, asS_s, asN_int, extrK_0, extrK_1, extrK_2, Bool.not_true, Bool.not_false, Nat.beq_refl]
  | m + 1, i, h1 => by
    have hus := used_is h (i : Int)
    rw [usedZ_in (n := n) (ws := ws) (i := i) (by omega)] at hus
    have ih := count_loop h hn m (i + 1) (by omega)
    rw [nsu] at ih
    have hc := cntF_le (U ws) i
    have hx : ∃ sid, x = .ptr sid 0 0 := by obtain ⟨wss, ⟨sid, so, lid, lo, ver, rfl, _⟩, _⟩ := h.ex; exact ⟨sid, rfl⟩
    obtain ⟨sid, rfl⟩ := hx
    have ei : IntKind.wrap .i64 ((i : Int) + 1) = (i : Int) + 1 := wr (by omega)
    have ec : IntKind.wrap .i64 (cntF (U ws) i + 1) = cntF (U ws) i + 1 := wr (by omega)
    have ci := lt_t (a := (i : Int)) (b := (n : Int)) (by omega)
    rw [bitmap_Map_Count_L1_eq, bitmap_Map_Count_L1_B_eq]
    cases hU : U ws i
    · rw [hU] at hus
      rw [cntF, hU] at ih
      simp only [Bool.false_eq_true, if_false, Int.add_zero] at ih
      simp -implicitDefEqProofs only [ci, hus, ei, Option.bind_some, decide_true, decide_false, cond_true, cond_false, seqJ_n, seqJ_r, seqJ_e, headK_c, asB_bool, asI_int, asS_s, asN_int, extrK_0, extrK_1, extrK_2, Bool.not_true, Bool.not_false, Nat.beq_refl]
      exact ih
    · rw [hU] at hus
      rw [cntF, hU] at ih
      simp only [if_true] at ih
      simp -implicitDefEqProofs only [ci, hus, ec, ei, Option.bind_some, decide_true, decide_false, cond_true, cond_false, seqJ_n, seqJ_r, seqJ_e, headK_c, asB_bool, asI_int, asS_s, asN_int, extrK_0, extrK_1, extrK_2, Bool.not_true, Bool.not_false, Nat.beq_refl]
      exact ih
theorem mapCount_is {N : Nat} {μ : AMem} {x : SV} {n : Nat} {rs : List SV} {ws : List Int} (h : Mw N μ x n rs ws) (hn : n ≤ 5000) : bitmap_Map_Count [.s x] μ = some (.s (.int .i64 (cntF (U ws) n)), μ) := by
  have hl := count_loop h hn n 0 (by omega)
  rw [n0, show cntF (U ws) 0 = 0 from rfl] at hl
  obtain ⟨wss, hm, _, h0⟩ := h.ex
  obtain ⟨sid, r, L, p, rfl, _, hc0, _⟩ := hm.level h0
  rw [bitmap_Map_Count_eq]
  simp -implicitDefEqProofs only [hc0, hl, Option.bind_some, decide_true, decide_false, cond_true, cond_false, seqJ_n, seqJ_r, seqJ_e, headK_c, asB_bool, asI_int, asS_s, asN_int, extrK_0, extrK_1, extrK_2, Bool.not_true, Bool.not_false, Nat.beq_refl]
theorem mapTake_is {N : Nat} {μ : AMem} (hw : WF μ) {x : SV} {n : Nat} {rs : List SV} {ws : List Int} (h : Mw N μ x n rs ws) (hn : n ≤ 5000) :
    ((∀ j, j < n → U ws j = true) → bitmap_Map_Take [.s x] μ = some (.s (.int .i64 (-1)), μ)) ∧
    (∀ g : Nat, g < n → U ws g = false → (∀ j, j < g → U ws j = true) → ∃ μ', bitmap_Map_Take [.s x] μ = some (.s (.int .i64 g), μ') ∧ Keep (feet rs) μ μ' ∧ Mw N μ' x n rs (setWd ws g true)) := by
  obtain ⟨f, e1, hf⟩ := mapFirst_is h hn
  have hx : ∃ sid, x = .ptr sid 0 0 := by obtain ⟨wss, ⟨sid, so, lid, lo, ver, rfl, _⟩, _⟩ := h.ex; exact ⟨sid, rfl⟩
  obtain ⟨sid, rfl⟩ := hx
  refine ⟨fun hall => ?_, fun g hg hgf hgl => ?_⟩
  · obtain rfl := hf.unique (.inl ⟨rfl, fun j _ hj => hall j hj⟩)
    have e2 := (mapSet_is hw h hn (-1) true).1 (.inl (by omega))
    rw [bitmap_Map_Take_eq]
    simp -implicitDefEqProofs only [e1, e2, Option.bind_some, decide_true, decide_false, cond_true, cond_false, seqJ_n, seqJ_r, seqJ_e, headK_c, asB_bool, asI_int, asS_s, asN_int, extrK_0, extrK_1, extrK_2, Bool.not_true, Bool.not_false, Nat.beq_refl]
  · obtain rfl := hf.unique (.inr ⟨g, rfl, by omega, hg, hgf, fun j _ hj => hgl j hj⟩)
    obtain ⟨m, e2, k2, h2⟩ := (mapSet_is hw h hn (g : Int) true).2 (by omega) (by rw [usedZ_in hg, hgf]; simp)
    rw [nat_toNat] at h2
    refine ⟨m, ?_, k2, h2⟩
    rw [bitmap_Map_Take_eq]
    simp -implicitDefEqProofs only [e1, e2, Option.bind_some, decide_true, decide_false, cond_true, cond_false, seqJ_n, seqJ_r, seqJ_e, headK_c, asB_bool, asI_int, asS_s, asN_int, extrK_0, extrK_1, extrK_2, Bool.not_true, Bool.not_false, Nat.beq_refl]
end Go.Proofs.Ytkikncdhmifkaaa
/- A new map. -/
namespace Go.Proofs.Ytkikncdhmifkaaa
open Go Go.Proofs.Ytkikncdhmifkaaa.E
set_option linter.unusedVariables false
set_option linter.unusedSimpArgs false
/-- A level of so many digits: ones behind the last one. -/
def onesW (k : Nat) : List Int := if k % 64 = 0 then List.replicate ((k + 63) / 64) 0 else (List.replicate ((k + 63) / 64) 0).set ((k + 63) / 64 - 1) (IntKind.wrap .u64 (18446744073709551615 * 2 ^ (k % 64)))
theorem ones_len (k : Nat) : (onesW k).length = (k + 63) / 64 := by unfold onesW; split <;> simp
theorem top_bit : ∀ r j : Fin 64, bitV (IntKind.wrap .u64 (18446744073709551615 * 2 ^ r.val)) j.val = decide (r.val ≤ j.val) := by decide +kernel
theorem top_ok : ∀ r : Fin 64, w64ok (IntKind.wrap .u64 (18446744073709551615 * 2 ^ r.val)) := by unfold w64ok; decide +kernel
theorem ones_ok (k : Nat) : ∀ w ∈ onesW k, w64ok w := by
  intro w hw
  unfold onesW at hw
  split at hw
  · rw [List.eq_of_mem_replicate hw]; unfold w64ok; omega
  · rcases List.mem_or_eq_of_mem_set hw with h1 | h1
    · rw [List.eq_of_mem_replicate h1]; unfold w64ok; omega
    · rw [h1]; exact top_ok ⟨k % 64, by omega⟩
theorem rep_getD (n j : Nat) : (List.replicate n (0 : Int)).getD j 0 = 0 := by
  rw [List.getD_eq_getElem?_getD, List.getElem?_replicate]; split <;> rfl
theorem U_ones {k j : Nat} (hj : j < 64 * ((k + 63) / 64)) : U (onesW k) j = decide (k ≤ j) := by
  unfold U onesW
  by_cases h : k % 64 = 0
  · rw [if_pos h, rep_getD, zero_bit, decide_eq_false (by omega)]
  · rw [if_neg h, getD_setW (by simp; omega)]
    by_cases hc : j / 64 = (k + 63) / 64 - 1
    · rw [if_pos hc]
      have := top_bit ⟨k % 64, by omega⟩ ⟨j % 64, by omega⟩
      simp only at this
      rw [this]
      by_cases hh : k ≤ j
      · rw [decide_eq_true hh, decide_eq_true (by omega)]
      · rw [decide_eq_false hh, decide_eq_false (by omega)]
    · rw [if_neg hc, rep_getD, zero_bit, decide_eq_false (by omega)]
theorem ones_is {μ : AMem} (hw : WF μ) {k : Nat} (h1 : 1 ≤ k) (h2 : k ≤ 5000) : ∃ y μ', bitmap_ones [.s (.int .i64 k)] μ = some (.s y, μ') ∧ Same μ μ' ∧ OwnRow μ.next μ' .u64 78 y (onesW k) ∧ μ'.next = μ.next + 6 ∧ ∀ j, isId y j → j = μ.next + 4 := by
  obtain ⟨L, hL⟩ : ∃ L, L = (k + 63) / 64 := ⟨_, rfl⟩
  have e1 : IntKind.wrap .i64 (Int.tdiv (IntKind.wrap .i64 ((IntKind.wrap .i64 ((k : Int) + 64)) - 1)) 64) = (L : Int) := by
    rw [wr (n := (k : Int) + 64) (by omega), wr (n := (k : Int) + 64 - 1) (by omega), Int.tdiv_eq_ediv_of_nonneg (by omega), wr (by omega)]; omega
  have e2 : Int.tmod (k : Int) 64 = ((k % 64 : Nat) : Int) := by rw [Int.tmod_eq_emod_of_nonneg (by omega)]; omega
  have e3 : IntKind.wrap .i64 ((L : Int) - 1) = ((L - 1 : Nat) : Int) := by rw [wr (by omega)]; omega
  have e4 : min (k % 64) (IntKind.bits .u64) = k % 64 := by show min _ 64 = _; omega
  have hs := newS (Keep.refl (S := fun _ => False) hw) (n := 6) (a := 4) (by omega) (rowObj (zerosA [.int .u64 0] L) 1 78 (some L))
  have ho : OwnRow μ.next ((μ.bump 6).set (μ.next + 4) (rowObj (zerosA [.int .u64 0] L) 1 78 (some L))) .u64 78 (.slice (μ.next + 4) 0 0 L) (List.replicate L 0) :=
    OwnRow.new (o := rowObj (zerosA [.int .u64 0] L) 1 78 (some L)) (by simp) (by omega) (by simp) rfl rfl rfl rfl (by show zerosA _ L = _; rw [zerosA_rep]; simp)
  rw [bitmap_ones_eq]
  simp only [e1, e2, e3, nat_toNat, e4]
  rw [if_pos ⟨by omega, by omega, by omega, by omega⟩]
  by_cases h : k % 64 = 0
  · refine ⟨.slice (μ.next + 4) 0 0 L, _, ?_, hs, ?_, rfl, fun j hj => (show μ.next + 4 = j from hj).symm⟩
    · rw [ne_f (show ((k % 64 : Nat) : Int) = 0 by omega)]
      simp -implicitDefEqProofs only [Option.bind_some, decide_true, decide_false, cond_true, cond_false, seqJ_n, seqJ_r, seqJ_e, headK_c, asB_bool, asI_int, asS_s, asN_int, extrK_0, extrK_1, extrK_2, Bool.not_true, Bool.not_false, Nat.beq_refl]
    · unfold onesW
      rw [if_pos h, ← hL]; exact ho
  · obtain ⟨m1, s1, s2, s3, s4⟩ := storeK hs.wf ho (i := L - 1) (by simp; omega) (IntKind.wrap .u64 (18446744073709551615 * 2 ^ (k % 64)))
    refine ⟨.slice (μ.next + 4) 0 0 L, m1, ?_, keepSame hw hs s2 fun j hj => ?_, ?_, by rw [s4]; rfl, fun j hj => (show μ.next + 4 = j from hj).symm⟩
    · have s1' := fun {R : Type} (K : AMem → Option R) => s1 K
      simp only [storeAt, plc, AV.cells, List.length_singleton, if_true, nat_toNat] at s1'
      rw [ne_t (show ¬ ((k % 64 : Nat) : Int) = 0 by omega), if_neg (show ¬ ((k % 64 : Nat) : Int) < 0 by omega), if_pos (show (0 : Int) ≤ ((L - 1 : Nat) : Int) ∧ ((L - 1 : Nat) : Int) < ((L : Nat) : Int) by omega), s1']
      simp -implicitDefEqProofs only [Option.bind_some, decide_true, decide_false, cond_true, cond_false, seqJ_n, seqJ_r, seqJ_e, headK_c, asB_bool, asI_int, asS_s, asN_int, extrK_0, extrK_1, extrK_2, Bool.not_true, Bool.not_false, Nat.beq_refl]
    · have : μ.next + 4 = j := hj
      omega
    · unfold onesW
      rw [if_neg h, ← hL]; exact s3
/-- A row of any values of the call's own. -/
def OwnV (N : Nat) (μ : AMem) (e : TypeId) (x : SV) (rs : List SV) : Prop :=
  (x = .nilSlice ∧ rs = []) ∨ ∃ id ver o, x = .slice id ver 0 rs.length ∧ N ≤ id ∧ μ.obj id = some o ∧ o.own = true ∧ o.ver = ver ∧ o.size = 1 ∧ o.elem = e ∧ ∀ (i : Nat) r, rs[i]? = some r → o.cells[i]? = some r
theorem cells_lenV {rs cs : List SV} (hc : ∀ (i : Nat) n, rs[i]? = some n → cs[i]? = some n) : rs.length ≤ cs.length := by
  rcases Nat.eq_zero_or_pos rs.length with h0 | h0
  · omega
  · have := (List.getElem?_eq_some_iff.mp (hc (rs.length - 1) _ (List.getElem?_eq_getElem (by omega)))).1
    omega
theorem OwnV.len {N : Nat} {μ : AMem} {e : TypeId} {x : SV} {rs : List SV} (h : OwnV N μ e x rs) : lenS (.s x) = some rs.length := by
  rcases h with ⟨rfl, rfl⟩ | ⟨id, ver, o, rfl, _⟩ <;> rfl
theorem OwnV.keep {N : Nat} {μ μ' : AMem} {e : TypeId} {x : SV} {rs : List SV} (h : OwnV N μ e x rs) (hk : ∀ id o, μ.obj id = some o → isId x id → μ'.obj id = some o) : OwnV N μ' e x rs := by
  rcases h with ⟨rfl, rfl⟩ | ⟨id, ver, o, rfl, hN, ho, r⟩
  · exact .inl ⟨rfl, rfl⟩
  · exact .inr ⟨id, ver, o, rfl, hN, hk id o ho rfl, r⟩
theorem OwnV.lives {N : Nat} {μ : AMem} {e : TypeId} {x : SV} {rs : List SV} (h : OwnV N μ e x rs) {id : Nat} (hi : isId x id) : N ≤ id ∧ ∃ o, μ.obj id = some o := by
  rcases h with ⟨rfl, _⟩ | ⟨j, ver, o, rfl, hN, ho, _⟩
  · exact hi.elim
  · have : j = id := hi
    subst this
    exact ⟨hN, o, ho⟩
theorem OwnV.push {N : Nat} {μ : AMem} (hw : WF μ) {e : TypeId} {x : SV} {rs : List SV} (h : OwnV N μ e x rs) {y : SV} {B lit nid : Nat} (hl : rs.length ≤ 1000) (hB : B ≤ 1000) (hN : N ≤ nid) (hlt : nid < μ.next) (hf : μ.obj nid = none) {q : Option Nat} (hlit : μ.obj lit = some (rowObj [y] 1 e q)) :
    ∃ x' μ', (∀ {R : Type} (K : AV → AMem → Option R), appendA e 1 B nid μ (.s x) (.s (.slice lit 0 0 1)) K = K (.s x') μ') ∧ OwnV N μ' e x' (rs ++ [y]) ∧ WF μ' ∧ μ'.next = μ.next ∧
      ((∀ id o, μ.obj id = some o → ¬ isId x id → μ'.obj id = some o) ∧ (∀ id, id ≠ nid → μ.obj id = none → μ'.obj id = none)) ∧ (∀ id, isId x' id → isId x id ∨ id = nid) := by
  have hrow : μ.row 1 1 (.s (.slice lit 0 0 1)) = some [y] := by
    simp only [AMem.row, hlit, Option.bind_some]
    rfl
  have hb : (rs.length + 1) * B ≤ 140737488355328 := by
    have : (rs.length + 1) * B ≤ 1001 * 1000 := Nat.mul_le_mul (by omega) hB
    omega
  have hlen : lenS (.s (.slice lit 0 0 1)) = some 1 := rfl
  rcases h with ⟨rfl, rfl⟩ | ⟨id, ver, o, rfl, hN', ho, how, hv, hs, he, hc⟩
  · refine ⟨.slice nid 0 0 1, μ.set nid (rowObj [y] 1 e none), fun K => ?_, ?_, hw.set hlt, rfl, ⟨fun id o ho _ => ?_, fun id hne hn => by simp [hne, hn]⟩, fun id h => .inr (show nid = id from h).symm⟩
    · simp only [appendA, hlen, Option.bind_some, hrow, appendS]
      rw [if_pos ⟨by simpa using hb, by omega⟩, if_neg (by omega)]
    · exact .inr ⟨nid, 0, rowObj [y] 1 e none, rfl, hN, by simp, rfl, rfl, rfl, rfl, fun i r hi => hi⟩
    · have : id ≠ nid := fun e => by subst e; rw [hf] at ho; cases ho
      simp [this, ho]
  · have hcl := cells_lenV hc
    refine ⟨.slice id (ver + 1) 0 (rs.length + 1), μ.set id (newVer o (o.cells.take rs.length ++ [y])), fun K => ?_, ?_, hw.set (hw.lt ho), rfl, ⟨fun id' o' ho' hne => ?_, fun id' hne' hn => ?_⟩, fun id' h => .inl h⟩
    · simp only [appendA, hlen, Option.bind_some, hrow, appendS, ho, how, hv, hs, he, Nat.mul_one]
      rw [if_pos ⟨trivial, trivial, trivial, trivial, hcl, hb, by omega⟩, if_neg (by omega)]
    · refine .inr ⟨id, ver + 1, newVer o (o.cells.take rs.length ++ [y]), by simp, hN', by simp, how, by simp [newVer, hv], hs, he, fun i n hi => ?_⟩
      show (o.cells.take rs.length ++ [y])[i]? = _
      have htl : (o.cells.take rs.length).length = rs.length := by simp [Nat.min_eq_left hcl]
      rw [List.getElem?_append] at hi ⊢
      rw [htl]
      split at hi
      · rename_i hlt'
        rw [if_pos hlt', List.getElem?_take, if_pos hlt']; exact hc i n hi
      · rename_i hlt'
        rw [if_neg hlt']; exact hi
    · have : id' ≠ id := fun e => hne e.symm
      simp [this, ho']
    · have : id' ≠ id := fun e => by rw [e, ho] at hn; cases hn
      simp [this, hn]
/-- A map that is being made. -/
def Mq (N : Nat) (μ : AMem) (sid n : Nat) (X : SV) (rs : List SV) (wss : List (List Int)) : Prop :=
  N ≤ sid ∧ (∃ so, μ.obj sid = some so ∧ so.own = true ∧ so.ver = 0 ∧ so.cells = [.int .i64 n, X]) ∧ OwnV N μ 79 X rs ∧ ¬ isId X sid ∧ rs.length = wss.length ∧
    (∀ (k : Nat) r ws, rs[k]? = some r → wss[k]? = some ws → (∃ e, OwnRow N μ .u64 e r ws) ∧ (∀ w ∈ ws, w64ok w) ∧ ¬ isId r sid ∧ Apart r X) ∧
    (∀ (i j : Nat) r r', i ≠ j → rs[i]? = some r → rs[j]? = some r' → Apart r r')
theorem Mq.mp {N : Nat} {μ : AMem} {sid n : Nat} {X : SV} {rs : List SV} {wss : List (List Int)} (h : Mq N μ sid n X rs wss) (hne : rs ≠ []) : Mp N μ (.ptr sid 0 0) n rs wss := by
  obtain ⟨h1, ⟨so, h2, h3, h4, h5⟩, h6, h7, h8, h9, h10⟩ := h
  rcases h6 with ⟨_, e⟩ | ⟨id, ver, o, rfl, g1, g2, g3, g4, g5, g6, g7⟩
  · exact absurd e hne
  · refine ⟨sid, so, id, o, ver, rfl, h1, h2, h4, h5, g1, g2, g4, g7, h8, fun k r ws hr hws => ?_, h10⟩
    obtain ⟨q1, q2, q3, q4⟩ := h9 k r ws hr hws
    exact ⟨q1, q2, q3, fun h => q4 id h rfl⟩
theorem new_body {N : Nat} {μ : AMem} (hw : WF μ) (hN : N ≤ μ.next) {sid n : Nat} {X : SV} {rs : List SV} {wss : List (List Int)} (h : Mq N μ sid n X rs wss) {k : Nat} (h1 : 1 ≤ k) (h2 : k ≤ 5000) (hr : rs.length ≤ 10) :
    ∃ X' y μ', Mq N μ' sid n X' (rs ++ [y]) (wss ++ [onesW k]) ∧ Keep (fun j => N ≤ j) μ μ' ∧
      bitmap_New_L1_B [.s (.ptr sid 0 0)] [.s (.int .i64 k)] μ = if k ≤ 64 then some (.ret, [.s (.ptr sid 0 0), .s (.int .i64 0)], μ') else some (.normal, [.s (.int .i64 ((k + 63) / 64 : Nat))], μ') := by
  obtain ⟨g1, ⟨so, g2, g3, g4, g5⟩, g6, g7, g8, g9, g10⟩ := h
  have hsl := hw.lt g2
  have hs1 : Same μ (μ.bump 12) := Keep.bump hw 12
  obtain ⟨y, m2, o1, o2, o3, o4, o5⟩ := ones_is hs1.wf h1 h2
  simp only [bump_next] at o3 o4 o5
  have hs2 : Same μ m2 := hs1.trans o2
  have hso2 : m2.obj sid = some so := hs2.old _ _ g2 fun h => h
  have hfree : ∀ j, j < 12 → m2.obj (μ.next + j) = none := fun j hj => freshS hw hj o2
  have hlt3 : μ.next + 7 < m2.next := by omega
  obtain ⟨m3, hm3⟩ : ∃ m3, m3 = m2.set (μ.next + 7) (rowObj [y] 1 79 (some 1)) := ⟨_, rfl⟩
  have hs3 : Same μ m3 := by rw [hm3]; exact Keep.setS hw hs2 (by omega) hlt3
  have hk3 : ∀ id o, m2.obj id = some o → m3.obj id = some o := fun id o ho => by
    have : id ≠ μ.next + 7 := fun e => by rw [e, hfree 7 (by omega)] at ho; cases ho
    rw [hm3, set_obj, if_neg this]; exact ho
  have hX3 : OwnV N m3 79 X rs := g6.keep fun id o ho _ => hs3.old id o ho fun h => h
  obtain ⟨X', m4, a1, a2, a3, a4, a5, a6⟩ := hX3.push hs3.wf (y := y) (B := 24) (lit := μ.next + 7) (nid := μ.next + 8) (by omega) (by omega) (by omega) (by rw [hm3, set_next]; omega) (by rw [hm3, set_obj, if_neg (by omega)]; exact hfree 8 (by omega)) (q := some 1) (by rw [hm3]; simp)
  have hso4 : m4.obj sid = some so := a5.1 _ _ (hk3 _ _ hso2) g7
  obtain ⟨m5, hm5⟩ : ∃ m5, m5 = m4.set sid { so with cells := [.int .i64 n, X'] } := ⟨_, rfl⟩
  have hst : m4.store sid 0 (0 + 1) [X'] = some m5 := by
    simp only [AMem.store, hso4, Option.bind_some]
    rw [if_pos ⟨g3, g4, by rw [g5]; simp⟩, hm5, g5]; rfl
  have hX'sid : ¬ isId X' sid := fun h => by
    rcases a6 sid h with h3 | h3
    · exact g7 h3
    · omega
  have hX'l : ∀ id, isId X' id → ∃ o, m4.obj id = some o := fun id hi => (a2.lives hi).2
  have hk5 : ∀ id o, m4.obj id = some o → id ≠ sid → m5.obj id = some o := fun id o ho hne => by rw [hm5, set_obj, if_neg hne]; exact ho
  have hX5 : OwnV N m5 79 X' (rs ++ [y]) := a2.keep fun id o ho hi => hk5 id o ho fun e => hX'sid (e ▸ hi)
  have hysid : ¬ isId y sid := fun h => by have := o5 _ h; omega
  have hyX : Apart y X := fun id hi hx => by
    have := o5 _ hi
    obtain ⟨_, o, ho⟩ := g6.lives hx
    have := hw.lt ho
    omega
  have hyX' : Apart y X' := fun id hi hx => by
    rcases a6 id hx with h3 | h3
    · exact hyX id hi h3
    · have := o5 _ hi; omega
  have hy5 : OwnRow N m5 .u64 78 y (onesW k) := ((o3.less (M := N) (by omega)).old fun id o ho hi => hk5 id o (a5.1 id o (hk3 id o ho) (hyX id hi)) fun e => hysid (e ▸ hi))
  have hlenr : (rs ++ [y]).length = rs.length + 1 := by simp
  have hkeep : Keep (fun j => N ≤ j) μ m5 := by
    have hw5 : WF m5 := by rw [hm5]; exact a3.set (a3.lt hso4)
    have hn5 : m5.next = m2.next := by rw [hm5, set_next, a4, hm3, set_next]
    refine ⟨hw5, by omega, fun id o ho hns => ?_, fun id hi hno => ?_⟩
    · refine hk5 id o (a5.1 id o (hs3.old id o ho fun h => h) fun hx => hns ((g6.lives hx).1)) fun e => hns (e ▸ g1)
    · have h3 : m3.obj id = none := hs3.low id hi hno
      have h4 : m4.obj id = none := a5.2 id (by omega) h3
      have : id ≠ sid := fun e => by rw [e, hso4] at h4; cases h4
      rw [hm5, set_obj, if_neg this]; exact h4
  refine ⟨X', y, m5, ⟨g1, ⟨{ so with cells := [.int .i64 n, X'] }, by rw [hm5]; simp, g3, g4, rfl⟩, hX5, hX'sid, by simp; exact g8, fun j r ws hj hws => ?_, fun i j r r' hij hi hj => ?_⟩, hkeep, ?_⟩
  · rw [List.getElem?_append] at hj hws
    by_cases hjl : j < rs.length
    · rw [if_pos hjl] at hj
      rw [if_pos (by omega)] at hws
      obtain ⟨⟨e, q1⟩, q2, q3, q4⟩ := g9 j r ws hj hws
      refine ⟨⟨e, q1.old fun id o ho hi => hk5 id o (a5.1 id o (hs3.old id o ho fun h => h) (q4 id hi)) fun e => q3 (e ▸ hi)⟩, q2, q3, fun id hi hx => ?_⟩
      rcases a6 id hx with h3 | h3
      · exact q4 id hi h3
      · obtain ⟨_, o, ho⟩ := own_lives q1 hi
        have := hw.lt ho
        omega
    · rw [if_neg hjl] at hj
      rw [if_neg (by omega)] at hws
      have hj0 : j - rs.length = 0 := by have := (List.getElem?_eq_some_iff.mp hj).1; simp at this; omega
      have hw0 : j - wss.length = 0 := by omega
      rw [hj0] at hj
      rw [hw0] at hws
      cases hj
      cases hws
      exact ⟨⟨78, hy5⟩, ones_ok k, hysid, hyX'⟩
  · have hyr : ∀ (j : Nat) r, rs[j]? = some r → Apart y r := fun j r hj id hi hx => by
      have hjl := (List.getElem?_eq_some_iff.mp hj).1
      obtain ⟨⟨e, q1⟩, _⟩ := g9 j r _ hj (List.getElem?_eq_getElem (by omega))
      obtain ⟨_, o, ho⟩ := own_lives q1 hx
      have := hw.lt ho
      have := o5 _ hi
      omega
    have hlast : ∀ (j : Nat) r, ¬ j < rs.length → (rs ++ [y])[j]? = some r → j = rs.length ∧ r = y := fun j r hjl hj => by
      rw [List.getElem?_append, if_neg hjl] at hj
      have hj0 : j - rs.length = 0 := by have := (List.getElem?_eq_some_iff.mp hj).1; simp at this; omega
      rw [hj0] at hj
      cases hj
      exact ⟨by omega, rfl⟩
    by_cases hi1 : i < rs.length
    · have hi2 := hi
      rw [List.getElem?_append, if_pos hi1] at hi2
      by_cases hj1 : j < rs.length
      · rw [List.getElem?_append, if_pos hj1] at hj
        exact g10 i j r r' hij hi2 hj
      · obtain ⟨_, rfl⟩ := hlast j r' hj1 hj
        exact (hyr i r hi2).symm
    · obtain ⟨hi3, rfl⟩ := hlast i r hi1 hi
      by_cases hj1 : j < rs.length
      · rw [List.getElem?_append, if_pos hj1] at hj
        exact hyr j r' hj
      · obtain ⟨hj3, _⟩ := hlast j r' hj1 hj
        omega
  · have c1 : (μ.bump 12).cell sid 0 (0 + 1) = some X := by
      simp only [AMem.cell, bump_obj, g2, Option.bind_some, g4, if_true, g5]; rfl
    have c2 : m2.cell sid 0 (0 + 1) = some X := by
      simp only [AMem.cell, hso2, Option.bind_some, g4, if_true, g5]; rfl
    have c5 : m5.cell sid 0 (0 + 1) = some X' := by
      rw [hm5]
      simp only [AMem.cell, set_self, Option.bind_some, g4, if_true]; rfl
    rw [bitmap_New_L1_B_eq]
    simp -implicitDefEqProofs only [c1, o1, c2, hfree 7 (by omega), chk_true, Option.bind_some, decide_true, decide_false, cond_true, cond_false, seqJ_n, seqJ_r, seqJ_e, headK_c, asB_bool, asI_int, asS_s, asN_int, extrK_0, extrK_1, extrK_2, Bool.not_true, Bool.not_false, Nat.beq_refl]
    rw [← hm3]
    simp -implicitDefEqProofs only [a1, hst, Option.bind_some, decide_true, decide_false, cond_true, cond_false, seqJ_n, seqJ_r, seqJ_e, headK_c, asB_bool, asI_int, asS_s, asN_int, extrK_0, extrK_1, extrK_2, Bool.not_true, Bool.not_false, Nat.beq_refl]
    by_cases hk : k ≤ 64
    · rw [if_pos hk, le_t (by omega)]
      simp -implicitDefEqProofs only [Option.bind_some, decide_true, decide_false, cond_true, cond_false, seqJ_n, seqJ_r, seqJ_e, headK_c, asB_bool, asI_int, asS_s, asN_int, extrK_0, extrK_1, extrK_2, Bool.not_true, Bool.not_false, Nat.beq_refl]
    · have hL := hX5.len
      have ei : IntKind.wrap .i64 ((((rs ++ [y]).length : Nat) : Int) - 1) = (rs.length : Int) := by rw [hlenr, wr (by omega)]; omega
      have hyl : lenS (.s y) = some (onesW k).length := o3.row.len
      rw [ones_len] at hyl
      rw [if_neg hk, le_f (by omega)]
      simp -implicitDefEqProofs only [c5, hL, ei, Option.bind_some, decide_true, decide_false, cond_true, cond_false, seqJ_n, seqJ_r, seqJ_e, headK_c, asB_bool, asI_int, asS_s, asN_int, extrK_0, extrK_1, extrK_2, Bool.not_true, Bool.not_false, Nat.beq_refl]
      rcases hX5 with ⟨_, e⟩ | ⟨id, ver, o, rfl, b1, b2, b3, b4, b5, b6, b7⟩
      · simp at e
      · have bc := b7 rs.length y (by rw [List.getElem?_append, if_neg (by omega), Nat.sub_self]; rfl)
        simp only [indS]
        rw [if_pos (by rw [hlenr]; omega)]
        simp -implicitDefEqProofs only [loadAt, AMem.cell, b2, b4, nat_toNat, Nat.mul_one, Nat.zero_add, if_true, bc, hyl, Option.bind_some, decide_true, decide_false, cond_true, cond_false, seqJ_n, seqJ_r, seqJ_e, headK_c, asB_bool, asI_int, asS_s, asN_int, extrK_0, extrK_1, extrK_2, Bool.not_true, Bool.not_false, Nat.beq_refl]
theorem mapNew_is {μ : AMem} (hw : WF μ) {n : Nat} (h1 : 1 ≤ n) (h2 : n ≤ 4096) : ∃ x rs wss μ', bitmap_New [.s (.int .i64 n)] μ = some (.tuple [.s x, .s (.int .i64 0)], μ') ∧ Same μ μ' ∧ Mp μ.next μ' x n rs wss ∧ wss = (if n ≤ 64 then [onesW n] else [onesW n, onesW ((n + 63) / 64)]) := by
  obtain ⟨m0, hm0⟩ : ∃ m0, m0 = ((μ.bump 4).set (μ.next + 2) (rowObj [.int .i64 n, .nilSlice] 2 77 (some 1))) := ⟨_, rfl⟩
  have hs0 : Same μ m0 := by rw [hm0]; exact newS (Keep.refl hw) (by omega) _
  have hq0 : Mq μ.next m0 (μ.next + 2) n .nilSlice [] [] := ⟨by omega, ⟨rowObj [.int .i64 n, .nilSlice] 2 77 (some 1), by rw [hm0]; simp, rfl, rfl, rfl⟩, .inl ⟨rfl, rfl⟩, fun h => h, rfl, fun k r ws hk => by simp at hk, fun i j r r' _ hi => by simp at hi⟩
  obtain ⟨X1, y1, m1, q1, k1, b1⟩ := new_body hs0.wf hs0.next hq0 h1 (by omega) (by simp)
  have hs1 := keepSame hw hs0 k1 fun j hj => hj
  have c1 := lt_f (a := (n : Int)) (b := 1) (by omega)
  have c2 := gt_f (a := (n : Int)) (b := 4096) (by omega)
  by_cases hn : n ≤ 64
  · rw [if_pos hn] at b1
    rw [if_pos hn]
    refine ⟨_, _, _, m1, ?_, hs1, q1.mp (by simp), rfl⟩
    rw [bitmap_New_eq]
    simp -implicitDefEqProofs only [c1, c2, ← hm0, Option.bind_some, decide_true, decide_false, cond_true, cond_false, seqJ_n, seqJ_r, seqJ_e, headK_c, asB_bool, asI_int, asS_s, asN_int, extrK_0, extrK_1, extrK_2, Bool.not_true, Bool.not_false, Nat.beq_refl]
    rw [bitmap_New_L1_eq, b1]
    simp -implicitDefEqProofs only [Option.bind_some, decide_true, decide_false, cond_true, cond_false, seqJ_n, seqJ_r, seqJ_e, headK_c, asB_bool, asI_int, asS_s, asN_int, extrK_0, extrK_1, extrK_2, Bool.not_true, Bool.not_false, Nat.beq_refl]
  · rw [if_neg hn] at b1
    rw [if_neg hn]
    obtain ⟨X2, y2, m2, q2, k2, b2⟩ := new_body (k := (n + 63) / 64) hs1.wf hs1.next q1 (by omega) (by omega) (by simp)
    have hs2 := keepSame hw hs1 k2 fun j hj => hj
    rw [if_pos (by omega)] at b2
    refine ⟨_, _, _, m2, ?_, hs2, q2.mp (by simp), rfl⟩
    rw [bitmap_New_eq]
    simp -implicitDefEqProofs only [c1, c2, ← hm0, Option.bind_some, decide_true, decide_false, cond_true, cond_false, seqJ_n, seqJ_r, seqJ_e, headK_c, asB_bool, asI_int, asS_s, asN_int, extrK_0, extrK_1, extrK_2, Bool.not_true, Bool.not_false, Nat.beq_refl]
    rw [bitmap_New_L1_eq, b1]
    simp -implicitDefEqProofs only [Option.bind_some, decide_true, decide_false, cond_true, cond_false, seqJ_n, seqJ_r, seqJ_e, headK_c, asB_bool, asI_int, asS_s, asN_int, extrK_0, extrK_1, extrK_2, Bool.not_true, Bool.not_false, Nat.beq_refl]
    rw [bitmap_New_L1_eq, b2]
    simp -implicitDefEqProofs only [Option.bind_some, decide_true, decide_false, cond_true, cond_false, seqJ_n, seqJ_r, seqJ_e, headK_c, asB_bool, asI_int, asS_s, asN_int, extrK_0, extrK_1, extrK_2, Bool.not_true, Bool.not_false, Nat.beq_refl]
/-- A new map: all are free, and behind them none is. -/
theorem mapNew_t {μ : AMem} (hw : WF μ) {n : Nat} (h1 : 1 ≤ n) (h2 : n ≤ 4096) : ∃ x rs ws μ', bitmap_New [.s (.int .i64 n)] μ = some (.tuple [.s x, .s (.int .i64 0)], μ') ∧ Same μ μ' ∧ Mw μ.next μ' x n rs ws ∧ (∀ j, j < n → U ws j = false) ∧ ∀ j, n ≤ j → j < 64 * ws.length → U ws j = true := by
  obtain ⟨x, rs, wss, m, e, hs, hm, hwss⟩ := mapNew_is hw h1 h2
  have h0 : wss[0]? = some (onesW n) := by rw [hwss]; split <;> rfl
  refine ⟨x, rs, onesW n, m, e, hs, ⟨wss, hm, ⟨?_, ?_, fun ws h => ?_, fun k ws vs h3 h4 => ?_⟩, h0⟩, fun j hj => by rw [U_ones (by omega), decide_eq_false (by omega)], fun j hj hj2 => by
    rw [ones_len] at hj2
    rw [U_ones hj2, decide_eq_true hj]⟩
  · rw [hwss]; split
    · exact .inl ⟨rfl, by omega⟩
    · exact .inr ⟨rfl, by omega⟩
  · rw [hwss]; split <;> simp
  · rw [h0] at h
    cases h
    rw [ones_len]
    omega
  · rw [hwss] at h3 h4
    split at h3
    · rename_i hn
      rw [if_pos hn] at h4
      rcases k with _ | k <;> cases h4
    · rename_i hn
      rw [if_neg hn] at h4
      rcases k with _ | k
      · simp at h3 h4
        subst h3 h4
        refine ⟨by rw [ones_len, ones_len], fun j hj => ?_, fun j hj hj2 => by
          rw [ones_len] at hj hj2
          rw [U_ones hj2, decide_eq_true hj]⟩
        rw [ones_len] at hj
        rw [U_ones (by omega), decide_eq_false (by omega)]
        refine (eq_f fun e => ?_).symm
        have h5 := U_ones (k := n) (j := 64 * j) (by omega)
        unfold U at h5
        rw [show 64 * j / 64 = j by omega, e, show 64 * j % 64 = 0 by omega, full_bit ⟨0, by omega⟩, decide_eq_false (by omega)] at h5
        cases h5
      · simp at h4
/-- A new map: all are free. -/
theorem mapNew_w {μ : AMem} (hw : WF μ) {n : Nat} (h1 : 1 ≤ n) (h2 : n ≤ 4096) : ∃ x rs ws μ', bitmap_New [.s (.int .i64 n)] μ = some (.tuple [.s x, .s (.int .i64 0)], μ') ∧ Same μ μ' ∧ Mw μ.next μ' x n rs ws ∧ ∀ j, j < n → U ws j = false := by
  obtain ⟨x, rs, ws, m, e, hs, hm, hf, _⟩ := mapNew_t hw h1 h2
  exact ⟨x, rs, ws, m, e, hs, hm, hf⟩
end Go.Proofs.Ytkikncdhmifkaaa
/- Maps in use: what each call leaves. -/
namespace Go.Proofs.Ytkikncdhmifkaaa
open Go Go.Proofs.Ytkikncdhmifkaaa.E
set_option linter.unusedVariables false
set_option linter.unusedSimpArgs false
theorem Mw.len {N : Nat} {μ : AMem} {x : SV} {n : Nat} {rs : List SV} {ws : List Int} (h : Mw N μ x n rs ws) : n ≤ 64 * ws.length := by
  obtain ⟨wss, _, ⟨_, _, h3, _⟩, h0⟩ := h.ex
  exact (h3 ws h0).1
theorem Mw.nn {N : Nat} {μ : AMem} {x : SV} {n : Nat} {rs : List SV} {ws : List Int} (h : Mw N μ x n rs ws) : isNil (.s x) = some false := by
  obtain ⟨wss, hm, _⟩ := h.ex
  exact hm.nn
theorem Mw.isPtr {N : Nat} {μ : AMem} {x : SV} {n : Nat} {rs : List SV} {ws : List Int} (h : Mw N μ x n rs ws) : ∃ sid, x = .ptr sid 0 0 := by
  obtain ⟨wss, ⟨sid, so, lid, lo, ver, rfl, _⟩, _⟩ := h.ex
  exact ⟨sid, rfl⟩
theorem Mw.ids {N : Nat} {μ : AMem} {x : SV} {n : Nat} {rs : List SV} {ws : List Int} (h : Mw N μ x n rs ws) {j : Nat} (hj : feet rs j) : N ≤ j := by
  obtain ⟨wss, hm, _⟩ := h.ex
  exact (hm.ids hj).1
theorem Mw.same {N : Nat} {μ μ' : AMem} {x : SV} {n : Nat} {rs : List SV} {ws : List Int} (h : Mw N μ x n rs ws) (hs : Same μ μ') : Mw N μ' x n rs ws := by
  obtain ⟨wss, hm, hl, h0⟩ := h.ex
  exact ⟨wss, hm.keep (S := fun _ => False) hs, hl, h0⟩
theorem U_setW {N : Nat} {μ : AMem} {x : SV} {n : Nat} {rs : List SV} {ws : List Int} (h : Mw N μ x n rs ws) {i : Nat} (hi : i < n) (b : Bool) (j : Nat) : U (setWd ws i b) j = if j = i then b else U ws j := by
  have := h.len
  exact U_set (by omega) b j
/-- Set, whatever it answers. -/
theorem mapSet_any {N : Nat} {μ : AMem} (hw : WF μ) {x : SV} {n : Nat} {rs : List SV} {ws : List Int} (h : Mw N μ x n rs ws) (hn : n ≤ 5000) (i : Int) (b : Bool) :
    ∃ a ws' μ', bitmap_Map_Set [.s x, .s (.int .i64 i), .s (.bool b)] μ = some (.s (.bool a), μ') ∧ Keep (feet rs) μ μ' ∧ Mw N μ' x n rs ws' := by
  obtain ⟨h1, h2⟩ := mapSet_is hw h hn i b
  by_cases hb : 0 ≤ i ∧ i < n
  · by_cases hu : usedZ n ws i = b
    · exact ⟨_, ws, μ, h1 (.inr hu), Keep.refl hw, h⟩
    · obtain ⟨m, e, k, g⟩ := h2 hb hu
      exact ⟨_, _, m, e, k, g⟩
  · exact ⟨_, ws, μ, h1 (.inl hb), Keep.refl hw, h⟩
theorem cnt_all {V : Nat → Bool} : ∀ n : Nat, (∀ j, j < n → V j = true) → cntF V n = n
  | 0, _ => rfl
  | n + 1, h => by rw [cntF, cnt_all n fun j hj => h j (by omega), h n (by omega), if_pos rfl]; rfl
end Go.Proofs.Ytkikncdhmifkaaa
/- Tables in a law: additions of literals, drops; laws of counts. -/
namespace Go.Proofs.Ytkikncdhmifkaaa
open Go Go.Proofs.Ytkikncdhmifkaaa.E
set_option linter.unusedVariables false
set_option linter.unusedSimpArgs false
theorem apart_fresh {N : Nat} {m : AMem} (hw : WF m) {k : IntKind} {e : TypeId} {s : SV} {cs : List Int} (h : OwnRow N m k e s cs) (a v o l : Nat) : Apart s (.slice (m.next + a) v o l) := fun id h1 h2 => by
  obtain ⟨_, ob, ho⟩ := own_lives h h1
  have := hw.lt ho
  have : m.next + a = id := h2
  omega
theorem tab_same {μ0 m m' : AMem} (h0 : WF μ0) (hs : Same μ0 m) {x s : SV} {cs : List Int} (h : Tab μ0.next m x s cs) (hk : Keep (isId s) m m') : Same μ0 m' := keepSame h0 hs hk fun j hj => h.ids hj
theorem addS {μ0 m : AMem} (h0 : WF μ0) (hs : Same μ0 m) {x s y : SV} {cs ls : List Int} (h : Tab μ0.next m x s cs) (hy : IsRow m .i64 y ls) (hap : Apart s y) (hb : ls.length ≤ 100000) (hf : fits cs ls.length) :
    (ls.all (mayI cs) = false → refs_Table_Add [.s x, .s y] m = some (.s (.bool false), m)) ∧
    (ls.all (mayI cs) = true → ∃ m', refs_Table_Add [.s x, .s y] m = some (.s (.bool true), m') ∧ Same μ0 m' ∧ Tab μ0.next m' x s (addZ cs ls) ∧ Keep (isId s) m m') := by
  have ha := add_is hs.wf h hy hap hb hf
  refine ⟨ha.1, fun hall => ?_⟩
  obtain ⟨m', q1, q2, q3⟩ := ha.2 hall
  exact ⟨m', q1, tab_same h0 hs h q2, q3, q2⟩
theorem add1 {μ0 m : AMem} (h0 : WF μ0) (hs : Same μ0 m) {x s : SV} {cs : List Int} (h : Tab μ0.next m x s cs) {n a : Nat} (ha : a < n) (v : Int) (hf : fits cs 1) :
    (mayI cs v = false → refs_Table_Add [.s x, .s (.slice (m.next + a) 0 0 1)] ((m.bump n).set (m.next + a) (rowObj [.int .i64 v] 1 3 (some 1))) = some (.s (.bool false), (m.bump n).set (m.next + a) (rowObj [.int .i64 v] 1 3 (some 1)))) ∧
    (mayI cs v = true → ∃ m', refs_Table_Add [.s x, .s (.slice (m.next + a) 0 0 1)] ((m.bump n).set (m.next + a) (rowObj [.int .i64 v] 1 3 (some 1))) = some (.s (.bool true), m') ∧ Same μ0 m' ∧ Tab μ0.next m' x s (incZ cs v)) := by
  have k := Same.bumpSet hs.wf ha (rowObj [.int .i64 v] 1 3 (some 1))
  have hy : IsRow ((m.bump n).set (m.next + a) (rowObj [.int .i64 v] 1 3 (some 1))) .i64 (.slice (m.next + a) 0 0 1) [v] := IsRow.made (o := rowObj [.int .i64 v] 1 3 (some 1)) (by simp) rfl rfl rfl
  have hadd := addS h0 (hs.trans k) (h.same k) hy (apart_fresh hs.wf h.row _ _ _ _) (by simp) (by simpa using hf)
  refine ⟨fun hm => hadd.1 (by simp [hm]), fun hm => ?_⟩
  obtain ⟨m', q1, q2, q3, _⟩ := hadd.2 (by simp [hm])
  exact ⟨m', q1, q2, q3⟩
theorem dropS {μ0 m : AMem} (h0 : WF μ0) (hs : Same μ0 m) {x s : SV} {cs : List Int} (h : Tab μ0.next m x s cs) (hf : fits cs 0) (i : Int) (hn : ofI cs i ≠ 0) :
    ∃ m', refs_Table_Drop [.s x, .s (.int .i64 i)] m = some (.tuple [.s (.int .i64 (ofI cs i - 1)), .s (.bool true)], m') ∧ Same μ0 m' ∧ Tab μ0.next m' x s (decZ cs i) ∧ Keep (isId s) m m' := by
  obtain ⟨m', q1, q2, q3⟩ := (drop_is hs.wf h hf i).2 hn
  exact ⟨m', q1, tab_same h0 hs h q2, q3, q2⟩
theorem getD_set_self {c : List Int} {i : Nat} (h : i < c.length) (v : Int) : (c.set i v).getD i 0 = v := by
  rw [List.getD_eq_getElem?_getD, List.getElem?_set_self h]; rfl
theorem getD_set_ne {c : List Int} {i j : Nat} (h : i ≠ j) (v : Int) : (c.set i v).getD j 0 = c.getD j 0 := by
  rw [List.getD_eq_getElem?_getD, List.getD_eq_getElem?_getD, List.getElem?_set_ne h]
theorem set_getD {c : List Int} {i : Nat} : c.set i (c.getD i 0) = c := by
  rcases Nat.lt_or_ge i c.length with h | h
  · rw [getD_lt h, List.set_getElem_self]
  · rw [List.set_eq_of_length_le h]
theorem dec_inc {c : List Int} {i : Int} (h : i.toNat < c.length) : decZ (incZ c i) i = c := by
  unfold decZ incZ
  rw [getD_set_self h, List.set_set, show c.getD i.toNat 0 + 1 - 1 = c.getD i.toNat 0 by omega, set_getD]
theorem addZ_snoc (cs ls : List Int) (v : Int) : addZ cs (ls ++ [v]) = incZ (addZ cs ls) v := by
  unfold addZ; rw [List.foldl_append]; rfl
theorem addZ_append (cs ls ms : List Int) : addZ cs (ls ++ ms) = addZ (addZ cs ls) ms := by
  unfold addZ; rw [List.foldl_append]
theorem inc_comm (c : List Int) (i j : Int) : incZ (incZ c i) j = incZ (incZ c j) i := by
  by_cases h : i.toNat = j.toNat
  · unfold incZ; rw [h]
  · unfold incZ
    rw [getD_set_ne h, getD_set_ne (fun e => h e.symm), List.set_comm _ _ h]
theorem inc_add (v : Int) : ∀ (l c : List Int), incZ (addZ c l) v = addZ (incZ c v) l
  | [], c => rfl
  | w :: l, c => by
    show incZ (addZ (incZ c w) l) v = addZ (incZ (incZ c v) w) l
    rw [inc_add v l, inc_comm]
theorem addZ_reverse : ∀ (l c : List Int), addZ c l.reverse = addZ c l
  | [], c => rfl
  | v :: l, c => by
    rw [List.reverse_cons, addZ_snoc, addZ_reverse l, inc_add]; rfl
theorem sumR_set {c : List Int} {i : Nat} (v : Int) : ∀ n : Nat, n ≤ c.length → sumR (c.set i v) n = if i < n then sumR c n + v - c.getD i 0 else sumR c n
  | 0, _ => by simp [sumR]
  | n + 1, h => by
    have ih := sumR_set (c := c) (i := i) v n (by omega)
    rw [sumR, sumR, ih]
    by_cases h1 : i = n
    · subst h1
      rw [if_neg (by omega), if_pos (by omega), getD_set_self (c := c) (by omega)]; omega
    · rw [getD_set_ne h1]
      by_cases h2 : i < n
      · rw [if_pos h2, if_pos (by omega)]; omega
      · rw [if_neg h2, if_neg (by omega)]
theorem sumR_inc {c : List Int} {i : Int} (h : i.toNat < c.length) : sumR (incZ c i) c.length = sumR c c.length + 1 := by
  unfold incZ; rw [sumR_set _ _ (Nat.le_refl _), if_pos h]; omega
theorem sumR_add {n : Nat} : ∀ (l c : List Int), c.length = n → (∀ v ∈ l, 0 ≤ v ∧ v < n) → sumR (addZ c l) n = sumR c n + l.length
  | [], c, _, _ => by simp [addZ]
  | v :: l, c, hc, h => by
    show sumR (addZ (incZ c v) l) n = _
    have hv := h v (List.mem_cons_self ..)
    rw [sumR_add l (incZ c v) (by rw [incZ_len]; exact hc) (fun w hw => h w (List.mem_cons_of_mem _ hw))]
    have := sumR_inc (c := c) (i := v) (by omega)
    rw [hc] at this
    rw [this]; simp; omega
theorem sumR_zero (n : Nat) : ∀ m, sumR (List.replicate n 0) m = 0
  | 0 => rfl
  | m + 1 => by
    have : (List.replicate n (0 : Int)).getD m 0 = 0 := by rw [List.getD_eq_getElem?_getD, List.getElem?_replicate]; split <;> rfl
    rw [sumR, sumR_zero n m, this]; rfl
theorem fits_zero (n k : Nat) (h : k ≤ 1000000) : fits (List.replicate n 0) k := fun v hv => by rw [(List.mem_replicate.mp hv).2]; omega
theorem fits_add {k : Nat} : ∀ (l c : List Int), fits c (l.length + k) → l.length + k ≤ 1000000 → fits (addZ c l) k
  | [], c, h, _ => by
    show fits c k
    simpa using h
  | v :: l, c, h, hk => by
    show fits (addZ (incZ c v) l) k
    simp only [List.length_cons] at h hk
    have e : l.length + 1 + k = (l.length + k) + 1 := by omega
    rw [e] at h
    exact fits_add l _ (incZ_fit h (by omega) v) (by omega)
theorem fits_less {c : List Int} {k j : Nat} (h : fits c k) (hj : j ≤ k) : fits c j := fun v hv => by have := h v hv; omega
theorem all_may {c l : List Int} (h : ∀ v ∈ l, 0 ≤ v ∧ v < c.length) : l.all (mayI c) = true := by
  rw [List.all_eq_true]
  intro v hv
  have := h v hv
  unfold mayI; rw [decide_eq_true this.1, decide_eq_true this.2]; rfl
end Go.Proofs.Ytkikncdhmifkaaa
/- Spaces: maps and tables by what they tell, each with the objects that it has. -/
namespace Go.Proofs.Ytkikncdhmifkaaa
open Go Go.Proofs.Ytkikncdhmifkaaa.E
set_option linter.unusedVariables false
set_option linter.unusedSimpArgs false
theorem Mp.off {N : Nat} {μ : AMem} {x : SV} {n : Nat} {rs : List SV} {wss : List (List Int)} (h : Mp N μ x n rs wss) :
    ∃ sid so lid lo ver L, x = .ptr sid 0 0 ∧ N ≤ sid ∧ μ.obj sid = some so ∧ so.cells[1]? = some (.slice lid ver 0 L) ∧ N ≤ lid ∧ μ.obj lid = some lo ∧ ¬ feet rs sid := by
  obtain ⟨sid, so, lid, lo, ver, hx, hN, hso, hsv, hsc, hN2, hlo, hlv, hlc, hl, hr, hap⟩ := h
  refine ⟨sid, so, lid, lo, ver, rs.length, hx, hN, hso, by rw [hsc]; rfl, hN2, hlo, fun ⟨r, hm, hi⟩ => ?_⟩
  obtain ⟨k, hk, rfl⟩ := List.mem_iff_getElem.mp hm
  exact (hr k _ _ (List.getElem?_eq_getElem hk) (List.getElem?_eq_getElem (by omega))).2.2.1 hi
def mfoot (μ : AMem) (x : SV) (rs : List SV) (F : Nat → Prop) : Prop := (∀ j, feet rs j → F j) ∧ ∀ j, x = .ptr j 0 0 → F j ∧ ∀ so id v l, μ.obj j = some so → so.cells[1]? = some (.slice id v 0 l) → F id
theorem Mp.keepF {N : Nat} {μ μ' : AMem} {S F : Nat → Prop} {x : SV} {n : Nat} {rs : List SV} {wss : List (List Int)} (h : Mp N μ x n rs wss) (hf : mfoot μ x rs F) (hK : Keep S μ μ') (hS : ∀ j, S j → ¬ F j) : Mp N μ' x n rs wss := by
  obtain ⟨sid, so, lid, lo, ver, rfl, hN, hso, hsv, hsc, hN2, hlo, hlv, hlc, hl, hr, hap⟩ := h
  obtain ⟨f1, f2⟩ := hf
  obtain ⟨f3, f4⟩ := f2 sid rfl
  have f5 := f4 so lid ver _ hso (by rw [hsc]; rfl)
  refine ⟨sid, so, lid, lo, ver, rfl, hN, hK.old _ _ hso fun h => hS _ h f3, hsv, hsc, hN2, hK.old _ _ hlo fun h => hS _ h f5, hlv, hlc, hl, fun j r' ws' hj hws => ?_, hap⟩
  obtain ⟨⟨e, h1⟩, h2⟩ := hr j r' ws' hj hws
  exact ⟨⟨e, ownKeep h1 hK fun i hi hh => hS i hi (f1 i ⟨r', List.mem_of_getElem? hj, hh⟩)⟩, h2⟩
theorem mfoot.keep {N : Nat} {μ μ' : AMem} {S F : Nat → Prop} {x : SV} {n : Nat} {rs : List SV} {wss : List (List Int)} (hf : mfoot μ x rs F) (h : Mp N μ x n rs wss) (hK : Keep S μ μ') (hS : ∀ j, x = .ptr j 0 0 → ¬ S j) : mfoot μ' x rs F := by
  obtain ⟨sid, so, lid, lo, ver, L, rfl, _, hso, hc, _⟩ := h.off
  refine ⟨hf.1, fun j hj => ?_⟩
  obtain rfl : sid = j := by cases hj; rfl
  obtain ⟨f3, f4⟩ := hf.2 sid rfl
  refine ⟨f3, fun so' id v l h1 h2 => ?_⟩
  rw [hK.old _ _ hso (hS sid rfl)] at h1
  cases h1
  exact f4 so id v l hso h2
/-- A map of n sectors of which V are used; its objects are of F. -/
structure Mz (F : Nat → Prop) (N : Nat) (μ : AMem) (x : SV) (n : Nat) (V : Nat → Bool) : Prop where
  ex : ∃ rs ws, Mw N μ x n rs ws ∧ mfoot μ x rs F ∧ ∀ j, j < n → U ws j = V j
  lives : ∀ j, F j → N ≤ j ∧ ∃ o, μ.obj j = some o
theorem Mz.keep {F S : Nat → Prop} {N : Nat} {μ μ' : AMem} {x : SV} {n : Nat} {V : Nat → Bool} (h : Mz F N μ x n V) (hK : Keep S μ μ') (hS : ∀ j, S j → ¬ F j) : Mz F N μ' x n V := by
  obtain ⟨⟨rs, ws, ⟨wss, hm, hl, h0⟩, hf, hU⟩, hlv⟩ := h
  refine ⟨⟨rs, ws, ⟨wss, hm.keepF hf hK hS, hl, h0⟩, hf.keep hm hK fun j hj h => hS j h (hf.2 j hj).1, hU⟩, fun j hj => ?_⟩
  obtain ⟨h1, o, ho⟩ := hlv j hj
  exact ⟨h1, o, hK.old _ _ ho fun h => hS j h hj⟩
theorem Mz.cong {F : Nat → Prop} {N : Nat} {μ : AMem} {x : SV} {n : Nat} {V W : Nat → Bool} (h : Mz F N μ x n V) (hVW : ∀ j, j < n → V j = W j) : Mz F N μ x n W := by
  obtain ⟨⟨rs, ws, hm, hf, hU⟩, hlv⟩ := h
  exact ⟨⟨rs, ws, hm, hf, fun j hj => (hU j hj).trans (hVW j hj)⟩, hlv⟩
def setV (V : Nat → Bool) (i : Nat) (b : Bool) : Nat → Bool := fun j => if j = i then b else V j
theorem Mz.wrote {F : Nat → Prop} {N : Nat} {μ μ' : AMem} {x : SV} {n : Nat} {rs : List SV} {ws ws' : List Int} (hlv : ∀ j, F j → N ≤ j ∧ ∃ o, μ.obj j = some o) (hm : Mw N μ x n rs ws) (hf : mfoot μ x rs F) (hK : Keep (feet rs) μ μ') (hm' : Mw N μ' x n rs ws') : Mz F N μ' x n (U ws') := by
  obtain ⟨wss, hmp, _, _⟩ := hm.ex
  obtain ⟨wss', hmp', _, _⟩ := hm'.ex
  obtain ⟨sid, so, lid, lo, ver, L, rfl, hN1, hso, hc, hN2, hlo, hof⟩ := hmp.off
  refine ⟨⟨rs, ws', hm', hf.keep hmp hK fun j hj h => ?_, fun _ _ => rfl⟩, fun j hj => ?_⟩
  · cases hj; exact hof h
  · obtain ⟨h1, o, ho⟩ := hlv j hj
    by_cases hfj : feet rs j
    · exact hmp'.ids hfj
    · exact ⟨h1, o, hK.old _ _ ho hfj⟩
theorem usedV {n : Nat} {ws : List Int} {V : Nat → Bool} (h : ∀ j, j < n → U ws j = V j) (i : Int) : usedZ n ws i = (!(decide (0 ≤ i) && decide (i < n)) || V i.toNat) := by
  unfold usedZ
  by_cases h1 : 0 ≤ i
  · by_cases h2 : i < n
    · rw [h i.toNat (by omega)]
    · rw [decide_eq_false h2, Bool.and_false]; rfl
  · rw [decide_eq_false h1, Bool.false_and]; rfl
theorem Mz.used {F : Nat → Prop} {N : Nat} {μ : AMem} {x : SV} {n : Nat} {V : Nat → Bool} (h : Mz F N μ x n V) (i : Int) : bitmap_Map_Used [.s x, .s (.int .i64 i)] μ = some (.s (.bool (!(decide (0 ≤ i) && decide (i < n)) || V i.toNat)), μ) := by
  obtain ⟨⟨rs, ws, hm, hf, hU⟩, hlv⟩ := h
  rw [used_is hm, usedV hU]
theorem cntF_cong {V W : Nat → Bool} : ∀ n : Nat, (∀ j, j < n → V j = W j) → cntF V n = cntF W n
  | 0, _ => rfl
  | n + 1, h => by rw [cntF, cntF, cntF_cong n fun j hj => h j (by omega), h n (by omega)]
theorem Mz.count {F : Nat → Prop} {N : Nat} {μ : AMem} {x : SV} {n : Nat} {V : Nat → Bool} (h : Mz F N μ x n V) (hn : n ≤ 5000) : bitmap_Map_Count [.s x] μ = some (.s (.int .i64 (cntF V n)), μ) := by
  obtain ⟨⟨rs, ws, hm, hf, hU⟩, hlv⟩ := h
  rw [mapCount_is hm hn, cntF_cong n hU]
/-- Set of one that there is. -/
theorem Mz.set {F : Nat → Prop} {N : Nat} {μ : AMem} (hw : WF μ) {x : SV} {n : Nat} {V : Nat → Bool} (h : Mz F N μ x n V) (hn : n ≤ 5000) {i : Nat} (hi : i < n) (b : Bool) :
    ∃ μ', bitmap_Map_Set [.s x, .s (.int .i64 i), .s (.bool b)] μ = some (.s (.bool (!(V i == b))), μ') ∧ Keep F μ μ' ∧ Mz F N μ' x n (setV V i b) ∧ μ'.next = μ'.next := by
  obtain ⟨⟨rs, ws, hm, hf, hU⟩, hlv⟩ := h
  obtain ⟨h1, h2⟩ := mapSet_is hw hm hn (i : Int) b
  rw [usedZ_in hi, hU i hi] at h1 h2
  by_cases hb : V i = b
  · refine ⟨μ, ?_, Keep.refl hw, ⟨⟨rs, ws, hm, hf, fun j hj => ?_⟩, hlv⟩, rfl⟩
    · rw [h1 (.inr hb), hb]; simp
    · rw [hU j hj]; unfold setV
      by_cases hj : j = i
      · rw [if_pos hj, hj, hb]
      · rw [if_neg hj]
  · obtain ⟨m, e, k, g⟩ := h2 (by omega) hb
    rw [nat_toNat] at g
    have hne : (V i == b) = false := by cases hV : V i <;> cases b <;> simp_all
    refine ⟨m, by rw [e, hne]; rfl, k.weak0 hf.1, (Mz.wrote hlv hm hf k g).cong fun j hj => ?_, rfl⟩
    rw [U_setW hm hi]; unfold setV
    by_cases hj2 : j = i
    · rw [if_pos hj2, if_pos hj2]
    · rw [if_neg hj2, if_neg hj2, hU j hj]
theorem Mz.take {F : Nat → Prop} {N : Nat} {μ : AMem} (hw : WF μ) {x : SV} {n : Nat} {V : Nat → Bool} (h : Mz F N μ x n V) (hn : n ≤ 5000) :
    ((∀ j, j < n → V j = true) → bitmap_Map_Take [.s x] μ = some (.s (.int .i64 (-1)), μ)) ∧
    (∀ g : Nat, g < n → V g = false → (∀ j, j < g → V j = true) → ∃ μ', bitmap_Map_Take [.s x] μ = some (.s (.int .i64 g), μ') ∧ Keep F μ μ' ∧ Mz F N μ' x n (setV V g true)) := by
  obtain ⟨⟨rs, ws, hm, hf, hU⟩, hlv⟩ := h
  obtain ⟨h1, h2⟩ := mapTake_is hw hm hn
  refine ⟨fun ha => h1 fun j hj => by rw [hU j hj, ha j hj], fun g hg hgf hgl => ?_⟩
  obtain ⟨m, e, k, q⟩ := h2 g hg (by rw [hU g hg, hgf]) (fun j hj => by rw [hU j (by omega), hgl j hj])
  refine ⟨m, e, k.weak0 hf.1, (Mz.wrote hlv hm hf k q).cong fun j hj => ?_⟩
  rw [U_setW hm hg]; unfold setV
  by_cases hj2 : j = g
  · rw [if_pos hj2, if_pos hj2]
  · rw [if_neg hj2, if_neg hj2, hU j hj]
theorem mapLen_is {F : Nat → Prop} {N : Nat} {μ : AMem} {x : SV} {n : Nat} {V : Nat → Bool} (h : Mz F N μ x n V) : bitmap_Map_Len [.s x] μ = some (.s (.int .i64 n), μ) := by
  obtain ⟨⟨rs, ws, ⟨wss, hm, hl, h0⟩, hf, hU⟩, hlv⟩ := h
  obtain ⟨sid, r, L, p, rfl, hr, hc0, _⟩ := hm.level h0
  rw [bitmap_Map_Len_eq]
  simp -implicitDefEqProofs only [hc0, Option.bind_some, decide_true, decide_false, cond_true, cond_false, seqJ_n, seqJ_r, seqJ_e, headK_c, asB_bool, asI_int, asS_s, asN_int, extrK_0, extrK_1, extrK_2, Bool.not_true, Bool.not_false, Nat.beq_refl]
/-- A new map. -/
theorem mapNew_z {μ : AMem} (hw : WF μ) {n : Nat} (h1 : 1 ≤ n) (h2 : n ≤ 4096) : ∃ x F μ', bitmap_New [.s (.int .i64 n)] μ = some (.tuple [.s x, .s (.int .i64 0)], μ') ∧ Same μ μ' ∧ Mz F μ.next μ' x n (fun _ => false) ∧ ∀ j, F j → j < μ'.next := by
  obtain ⟨x, rs, ws, m, e, k, hm, hU⟩ := mapNew_w hw h1 h2
  obtain ⟨wss, hmp, _, _⟩ := hm.ex
  obtain ⟨sid, so, lid, lo, ver, L, rfl, hN1, hso, hc, hN2, hlo, hof⟩ := hmp.off
  refine ⟨.ptr sid 0 0, fun j => μ.next ≤ j ∧ ∃ o, m.obj j = some o, m, e, k, ⟨⟨rs, ws, hm, ⟨fun j hj => hmp.ids hj, fun j hj => ?_⟩, hU⟩, fun j hj => hj⟩, fun j ⟨_, o, ho⟩ => k.wf.lt ho⟩
  cases hj
  refine ⟨⟨hN1, so, hso⟩, fun so' id v l h3 h4 => ?_⟩
  rw [hso] at h3
  cases h3
  rw [hc] at h4
  cases h4
  exact ⟨hN2, lo, hlo⟩
/-- A table of counts; its objects are of G. -/
structure Tz (G : Nat → Prop) (N : Nat) (μ : AMem) (x : SV) (cs : List Int) : Prop where
  ex : ∃ s, Tab N μ x s cs ∧ (∀ j, isId s j → G j) ∧ ∀ j, x = .ptr j 0 0 → G j
  lives : ∀ j, G j → N ≤ j ∧ ∃ o, μ.obj j = some o
theorem Tz.keep {G S : Nat → Prop} {N : Nat} {μ μ' : AMem} {x : SV} {cs : List Int} (h : Tz G N μ x cs) (hK : Keep S μ μ') (hS : ∀ j, S j → ¬ G j) : Tz G N μ' x cs := by
  obtain ⟨⟨s, ht, h1, h2⟩, hlv⟩ := h
  refine ⟨⟨s, ht.keep hK (fun j hj h => hS j hj (h1 j h)) (fun j hj h => hS j hj (h2 j h)), h1, h2⟩, fun j hj => ?_⟩
  obtain ⟨h1, o, ho⟩ := hlv j hj
  exact ⟨h1, o, hK.old _ _ ho fun h => hS j h hj⟩
theorem Tz.wrote {G : Nat → Prop} {N : Nat} {μ μ' : AMem} {x s : SV} {ds : List Int} (hlv : ∀ j, G j → N ≤ j ∧ ∃ o, μ.obj j = some o) (h1 : ∀ j, isId s j → G j) (h2 : ∀ j, x = .ptr j 0 0 → G j) (hK : Keep (isId s) μ μ') (h : Tab N μ' x s ds) : Tz G N μ' x ds := by
  refine ⟨⟨s, h, h1, h2⟩, fun j hj => ?_⟩
  obtain ⟨h3, o, ho⟩ := hlv j hj
  by_cases hs : isId s j
  · exact own_lives h.row hs
  · exact ⟨h3, o, hK.old _ _ ho hs⟩
theorem Tz.of {G : Nat → Prop} {N : Nat} {μ : AMem} {x : SV} {cs : List Int} (h : Tz G N μ x cs) (i : Int) : refs_Table_Of [.s x, .s (.int .i64 i)] μ = some (.s (.int .i64 (ofI cs i)), μ) := by
  obtain ⟨⟨s, ht, _⟩, _⟩ := h
  exact of_is ht i
theorem Tz.add {G : Nat → Prop} {N : Nat} {μ : AMem} (hw : WF μ) {x y : SV} {cs ls : List Int} (h : Tz G N μ x cs) (hy : IsRow μ .i64 y ls) (hyG : ∀ j, isId y j → ¬ G j) (hb : ls.length ≤ 100000) (hf : fits cs ls.length) (ha : ls.all (mayI cs) = true) :
    ∃ μ', refs_Table_Add [.s x, .s y] μ = some (.s (.bool true), μ') ∧ Keep G μ μ' ∧ Tz G N μ' x (addZ cs ls) := by
  obtain ⟨⟨s, ht, h1, h2⟩, hlv⟩ := h
  obtain ⟨m, e, k, t⟩ := (add_is hw ht hy (fun j hj h => hyG j h (h1 j hj)) hb hf).2 ha
  exact ⟨m, e, k.weak0 h1, Tz.wrote hlv h1 h2 k t⟩
theorem Tz.drop {G : Nat → Prop} {N : Nat} {μ : AMem} (hw : WF μ) {x : SV} {cs : List Int} (h : Tz G N μ x cs) (hf : fits cs 0) (i : Int) :
    (ofI cs i = 0 → refs_Table_Drop [.s x, .s (.int .i64 i)] μ = some (.tuple [.s (.int .i64 0), .s (.bool false)], μ)) ∧
    (ofI cs i ≠ 0 → ∃ μ', refs_Table_Drop [.s x, .s (.int .i64 i)] μ = some (.tuple [.s (.int .i64 (ofI cs i - 1)), .s (.bool true)], μ') ∧ Keep G μ μ' ∧ Tz G N μ' x (decZ cs i)) := by
  obtain ⟨⟨s, ht, h1, h2⟩, hlv⟩ := h
  obtain ⟨d1, d2⟩ := drop_is hw ht hf i
  refine ⟨d1, fun hn => ?_⟩
  obtain ⟨m, e, k, t⟩ := d2 hn
  exact ⟨m, e, k.weak0 h1, Tz.wrote hlv h1 h2 k t⟩
theorem tabNew_z {μ : AMem} (hw : WF μ) {n : Nat} (hn : 1 ≤ n ∧ n ≤ 4096) : ∃ x G μ', refs_New [.s (.int .i64 n)] μ = some (.tuple [.s x, .s (.int .i64 0)], μ') ∧ Same μ μ' ∧ Tz G μ.next μ' x (List.replicate n 0) ∧ ∀ j, G j → j < μ'.next := by
  obtain ⟨x, s, m, e, k, t⟩ := new_is hw hn
  refine ⟨x, fun j => μ.next ≤ j ∧ ∃ o, m.obj j = some o, m, e, k, ⟨⟨s, t, fun j hj => own_lives t.row hj, fun j hj => ?_⟩, fun j hj => hj⟩, fun j ⟨_, o, ho⟩ => k.wf.lt ho⟩
  obtain ⟨id, o, rfl, h1, h2, _⟩ := t
  cases hj
  exact ⟨h1, o, h2⟩
end Go.Proofs.Ytkikncdhmifkaaa
/- Spaces: what each call answers, and leaves. -/
namespace Go.Proofs.Ytkikncdhmifkaaa
open Go Go.Proofs.Ytkikncdhmifkaaa.E
set_option linter.unusedVariables false
set_option linter.unusedSimpArgs false
/-- A space, with its parts: the map u, the table t, the row w of those that wait. -/
structure Sq (N : Nat) (μ : AMem) (sid : Nat) (so : AObj) (u t w : SV) (F G : Nat → Prop) (fixed n : Nat) (V : Nat → Bool) (cs W : List Int) : Prop where
  low : N ≤ sid
  obj : μ.obj sid = some so
  own : so.own = true
  ver : so.ver = 0
  cells : so.cells = [.int .i64 fixed, u, t, w]
  map : Mz F N μ u n V
  tab : Tz G N μ t cs
  row : OwnRow N μ .i64 3 w W
  offF : ∀ j, F j → ¬ G j ∧ ¬ isId w j ∧ j ≠ sid
  offG : ∀ j, G j → ¬ isId w j ∧ j ≠ sid
  offW : ¬ isId w sid
  len : cs.length = n
/-- A space whose objects are of H. -/
def Sp (H : Nat → Prop) (N : Nat) (μ : AMem) (x : SV) (fixed n : Nat) (V : Nat → Bool) (cs W : List Int) : Prop := ∃ sid so u t w F G, x = .ptr sid 0 0 ∧ Sq N μ sid so u t w F G fixed n V cs W ∧
  (H sid ∧ (∀ j, F j → H j) ∧ (∀ j, G j → H j) ∧ ∀ j, isId w j → H j) ∧ ∀ j, H j → N ≤ j ∧ j < μ.next
section
variable {N : Nat} {μ μ' : AMem} {sid : Nat} {so : AObj} {u t w : SV} {F G : Nat → Prop} {fixed n : Nat} {V V' : Nat → Bool} {cs cs' W : List Int}
theorem Sq.c0 (h : Sq N μ sid so u t w F G fixed n V cs W) : μ.cell sid 0 (0 + 0) = some (.int .i64 fixed) := by simp only [AMem.cell, h.obj, Option.bind_some, h.ver, if_true, h.cells]; rfl
theorem Sq.c1 (h : Sq N μ sid so u t w F G fixed n V cs W) : μ.cell sid 0 (0 + 1) = some u := by simp only [AMem.cell, h.obj, Option.bind_some, h.ver, if_true, h.cells]; rfl
theorem Sq.c2 (h : Sq N μ sid so u t w F G fixed n V cs W) : μ.cell sid 0 (0 + 2) = some t := by simp only [AMem.cell, h.obj, Option.bind_some, h.ver, if_true, h.cells]; rfl
theorem Sq.c3 (h : Sq N μ sid so u t w F G fixed n V cs W) : μ.cell sid 0 (0 + 3) = some w := by simp only [AMem.cell, h.obj, Option.bind_some, h.ver, if_true, h.cells]; rfl
theorem Sq.same (h : Sq N μ sid so u t w F G fixed n V cs W) (hs : Same μ μ') : Sq N μ' sid so u t w F G fixed n V cs W :=
  ⟨h.low, hs.old _ _ h.obj fun h => h, h.own, h.ver, h.cells, h.map.keep hs fun _ h => h.elim, h.tab.keep hs fun _ h => h.elim, ownKeep h.row hs fun _ h => h.elim, h.offF, h.offG, h.offW, h.len⟩
theorem Sq.mapped (h : Sq N μ sid so u t w F G fixed n V cs W) (hK : Keep F μ μ') (hm : Mz F N μ' u n V') : Sq N μ' sid so u t w F G fixed n V' cs W :=
  ⟨h.low, hK.old _ _ h.obj fun hf => (h.offF _ hf).2.2 rfl, h.own, h.ver, h.cells, hm, h.tab.keep hK fun j hj => (h.offF j hj).1, ownKeep h.row hK fun j hj => (h.offF j hj).2.1, h.offF, h.offG, h.offW, h.len⟩
theorem Sq.tabbed (h : Sq N μ sid so u t w F G fixed n V cs W) (hK : Keep G μ μ') (ht : Tz G N μ' t cs') (hl : cs'.length = cs.length) : Sq N μ' sid so u t w F G fixed n V cs' W :=
  ⟨h.low, hK.old _ _ h.obj fun hf => (h.offG _ hf).2 rfl, h.own, h.ver, h.cells, h.map.keep hK fun j hj hf => (h.offF j hf).1 hj, ht, ownKeep h.row hK fun j hj => (h.offG j hj).1, h.offF, h.offG, h.offW, hl.trans h.len⟩
theorem Sq.cong (h : Sq N μ sid so u t w F G fixed n V cs W) (hv : ∀ j, j < n → V j = V' j) : Sq N μ sid so u t w F G fixed n V' cs W :=
  ⟨h.low, h.obj, h.own, h.ver, h.cells, h.map.cong hv, h.tab, h.row, h.offF, h.offG, h.offW, h.len⟩
end
section
variable {H : Nat → Prop} {N : Nat} {μ : AMem} {x : SV} {fixed n : Nat} {V : Nat → Bool} {cs W : List Int}
theorem Sp.same {μ' : AMem} (h : Sp H N μ x fixed n V cs W) (hs : Same μ μ') : Sp H N μ' x fixed n V cs W := by
  obtain ⟨sid, so, u, t, w, F, G, e, q, hH, hb⟩ := h
  have := hs.next
  exact ⟨sid, so, u, t, w, F, G, e, q.same hs, hH, fun j hj => ⟨(hb j hj).1, by have := (hb j hj).2; omega⟩⟩
/-- What is written is none of the space's. -/
theorem Sp.off {μ' : AMem} {S : Nat → Prop} (h : Sp H N μ x fixed n V cs W) (hs : Keep S μ μ') (hS : ∀ j, S j → ¬ H j) : Sp H N μ' x fixed n V cs W := by
  obtain ⟨sid, so, u, t, w, F, G, e, q, ⟨h1, h2, h3, h4⟩, hb⟩ := h
  have := hs.next
  exact ⟨sid, so, u, t, w, F, G, e, ⟨q.low, hs.old _ _ q.obj fun h => hS _ h h1, q.own, q.ver, q.cells, q.map.keep hs fun j hj hf => hS j hj (h2 j hf), q.tab.keep hs fun j hj hg => hS j hj (h3 j hg), ownKeep q.row hs fun j hj hi => hS j hj (h4 j hi), q.offF, q.offG, q.offW, q.len⟩, ⟨h1, h2, h3, h4⟩, fun j hj => ⟨(hb j hj).1, by have := (hb j hj).2; omega⟩⟩
theorem Sp.cong {V' : Nat → Bool} (h : Sp H N μ x fixed n V cs W) (hv : ∀ j, j < n → V j = V' j) : Sp H N μ x fixed n V' cs W := by
  obtain ⟨sid, so, u, t, w, F, G, e, q, hH, hb⟩ := h
  exact ⟨sid, so, u, t, w, F, G, e, q.cong hv, hH, hb⟩
theorem Sp.bound (h : Sp H N μ x fixed n V cs W) : ∀ j, H j → N ≤ j ∧ j < μ.next := by
  obtain ⟨sid, so, u, t, w, F, G, e, q, hH, hb⟩ := h
  exact hb
/-- What a call did to the space it did to nothing that lived before the space. -/
theorem Sp.since {μ0 μ' : AMem} (h : Sp H μ0.next μ x fixed n V cs W) (h0 : WF μ0) (hs : Same μ0 μ) (hk : Keep H μ μ') : Same μ0 μ' := keepSame h0 hs hk fun j hj => (h.bound j hj).1
theorem Sp.nn (h : Sp H N μ x fixed n V cs W) : isNil (.s x) = some false := by
  obtain ⟨sid, so, u, t, w, F, G, rfl, q, ⟨hs0, hF, hG, hW0⟩, hb⟩ := h; rfl
theorem Sp.len (h : Sp H N μ x fixed n V cs W) : cs.length = n := by
  obtain ⟨sid, so, u, t, w, F, G, rfl, q, ⟨hs0, hF, hG, hW0⟩, hb⟩ := h; exact q.len
theorem spOf_is (h : Sp H N μ x fixed n V cs W) (i : Int) : space_Space_Of [.s x, .s (.int .i64 i)] μ = some (.s (.int .i64 (ofI cs i)), μ) := by
  obtain ⟨sid, so, u, t, w, F, G, rfl, q, ⟨hs0, hF, hG, hW0⟩, hb⟩ := h
  rw [space_Space_Of_eq]
  simp -implicitDefEqProofs only [q.c2, q.tab.of, Option.bind_some, decide_true, decide_false, cond_true, cond_false, seqJ_n, seqJ_r, seqJ_e, headK_c, asB_bool, asI_int, asS_s, asN_int, extrK_0, extrK_1, extrK_2, Bool.not_true, Bool.not_false, Nat.beq_refl]
def usedI (n : Nat) (V : Nat → Bool) (i : Int) : Bool := !(decide (0 ≤ i) && decide (i < n)) || V i.toNat
theorem usedI_in {n : Nat} {V : Nat → Bool} {i : Nat} (h : i < n) : usedI n V (i : Int) = V i := by
  unfold usedI; rw [decide_eq_true (by omega), decide_eq_true (by omega)]; rfl
theorem spUsed_is (h : Sp H N μ x fixed n V cs W) (i : Int) : space_Space_Used [.s x, .s (.int .i64 i)] μ = some (.s (.bool (usedI n V i)), μ) := by
  obtain ⟨sid, so, u, t, w, F, G, rfl, q, ⟨hs0, hF, hG, hW0⟩, hb⟩ := h
  rw [space_Space_Used_eq]
  simp -implicitDefEqProofs only [q.c1, q.map.used, Option.bind_some, decide_true, decide_false, cond_true, cond_false, seqJ_n, seqJ_r, seqJ_e, headK_c, asB_bool, asI_int, asS_s, asN_int, extrK_0, extrK_1, extrK_2, Bool.not_true, Bool.not_false, Nat.beq_refl]
  rfl
theorem spFree_is (h : Sp H N μ x fixed n V cs W) (hn : n ≤ 5000) : space_Space_Free [.s x] μ = some (.s (.int .i64 (n - cntF V n)), μ) := by
  obtain ⟨sid, so, u, t, w, F, G, rfl, q, ⟨hs0, hF, hG, hW0⟩, hb⟩ := h
  have := cntF_le V n
  rw [space_Space_Free_eq]
  simp -implicitDefEqProofs only [q.c1, mapLen_is q.map, q.map.count hn, w64 (n := (n : Int) - cntF V n) (by omega) (by omega), chk_true, Option.bind_some, decide_true, decide_false, cond_true, cond_false, seqJ_n, seqJ_r, seqJ_e, headK_c, asB_bool, asI_int, asS_s, asN_int, extrK_0, extrK_1, extrK_2, Bool.not_true, Bool.not_false, Nat.beq_refl]
theorem spWaiting_is (hw : WF μ) (h : Sp H N μ x fixed n V cs W) (hl : W.length ≤ 100000) : ∃ y μ', space_Space_Waiting [.s x] μ = some (.s y, μ') ∧ Same μ μ' ∧ OwnRow μ.next μ' .i64 3 y W := by
  obtain ⟨sid, so, u, t, w, F, G, rfl, q, ⟨hs0, hF, hG, hW0⟩, hb⟩ := h
  obtain ⟨y, m, g1, g2, g3⟩ := copyS (e := 3) (B := 8) (b := 4) (n := 6) hw (Keep.refl hw) q.row.row (by omega) (by omega) (by omega)
  refine ⟨y, m, ?_, g2, g3⟩
  rw [space_Space_Waiting_eq]
  simp -implicitDefEqProofs only [bump_cell, q.c3, g1, Option.bind_some, decide_true, decide_false, cond_true, cond_false, seqJ_n, seqJ_r, seqJ_e, headK_c, asB_bool, asI_int, asS_s, asN_int, extrK_0, extrK_1, extrK_2, Bool.not_true, Bool.not_false, Nat.beq_refl]
theorem add_one {G : Nat → Prop} {m : AMem} (hw : WF m) {t : SV} {cs : List Int} (h : Tz G N m t cs) {k a : Nat} (ha : a < k) {v : Int} (hf : fits cs 1) (hv : mayI cs v = true) :
    ∃ m', refs_Table_Add [.s t, .s (.slice (m.next + a) 0 0 1)] ((m.bump k).set (m.next + a) (rowObj [.int .i64 v] 1 3 (some 1))) = some (.s (.bool true), m') ∧ Same m ((m.bump k).set (m.next + a) (rowObj [.int .i64 v] 1 3 (some 1))) ∧ Keep G ((m.bump k).set (m.next + a) (rowObj [.int .i64 v] 1 3 (some 1))) m' ∧ Tz G N m' t (incZ cs v) := by
  have ks := Same.bumpSet hw ha (rowObj [.int .i64 v] 1 3 (some 1))
  have hy : IsRow ((m.bump k).set (m.next + a) (rowObj [.int .i64 v] 1 3 (some 1))) .i64 (.slice (m.next + a) 0 0 1) [v] := IsRow.made (o := rowObj [.int .i64 v] 1 3 (some 1)) (by simp) rfl rfl rfl
  obtain ⟨m', e, k1, t1⟩ := (h.keep ks fun _ h => h.elim).add ks.wf hy (fun j hj hG => by
    obtain ⟨_, o, ho⟩ := h.lives j hG
    have := hw.lt ho
    have : m.next + a = j := hj
    omega) (by simp) (by simpa using hf) (by simp [hv])
  exact ⟨m', e, ks, k1, t1⟩
theorem Same.kn {H : Nat → Prop} {m m' : AMem} (h : Same m m') : Keep H m m' := h.weak0 fun _ h => h.elim
theorem spTake_is (hw : WF μ) (h : Sp H N μ x fixed n V cs W) (hn : n ≤ 5000) (hf : fits cs 1) :
    ((∀ j, j < n → V j = true) → space_Space_Take [.s x] μ = some (.tuple [.s (.int .i64 0), .s (.int .i64 3)], μ)) ∧
    (∀ g : Nat, g < n → V g = false → (∀ j, j < g → V j = true) → ∃ μ', space_Space_Take [.s x] μ = some (.tuple [.s (.int .i64 g), .s (.int .i64 0)], μ') ∧ Keep H μ μ' ∧ Sp H N μ' x fixed n (setV V g true) (incZ cs g) W) := by
  obtain ⟨sid, so, u, t, w, F, G, rfl, q, ⟨hs0, hF, hG, hW0⟩, hb⟩ := h
  obtain ⟨t1, t2⟩ := q.map.take hw hn
  refine ⟨fun ha => ?_, fun g hg hgf hgl => ?_⟩
  · rw [space_Space_Take_eq]
    simp -implicitDefEqProofs only [q.c1, t1 ha, lt_t (show (-1 : Int) < 0 by omega), Option.bind_some, decide_true, decide_false, cond_true, cond_false, seqJ_n, seqJ_r, seqJ_e, headK_c, asB_bool, asI_int, asS_s, asN_int, extrK_0, extrK_1, extrK_2, Bool.not_true, Bool.not_false, Nat.beq_refl]
  · obtain ⟨m1, e1, k1, z1⟩ := t2 g hg hgf hgl
    have q1 := q.mapped k1 z1
    obtain ⟨m2, e2, k2, k3, z2⟩ := add_one k1.wf q1.tab (k := 7) (a := 5) (by omega) (v := (g : Int)) hf (by unfold mayI; rw [q.len, decide_eq_true (by omega), decide_eq_true (by omega)]; rfl)
    have q2 := (q1.same k2).tabbed k3 z2 (incZ_len ..)
    have kk : Keep H μ m2 := (k1.weak0 hF).trans ((Same.kn k2).trans (k3.weak0 hG))
    refine ⟨m2, ?_, kk, ⟨sid, so, u, t, w, F, G, rfl, q2, ⟨hs0, hF, hG, hW0⟩, fun j hj => ⟨(hb j hj).1, by have := (hb j hj).2; have := kk.next; omega⟩⟩⟩
    rw [space_Space_Take_eq]
    simp -implicitDefEqProofs only [q.c1, e1, lt_f (show (0 : Int) ≤ (g : Int) by omega), bump_cell, q1.c2, e2, Option.bind_some, decide_true, decide_false, cond_true, cond_false, seqJ_n, seqJ_r, seqJ_e, headK_c, asB_bool, asI_int, asS_s, asN_int, extrK_0, extrK_1, extrK_2, Bool.not_true, Bool.not_false, Nat.beq_refl]
theorem ofI_may {cs : List Int} {i : Int} (h : ofI cs i ≠ 0) : mayI cs i = true := by
  unfold ofI at h
  cases hm : mayI cs i
  · rw [hm] at h; exact absurd rfl h
  · rfl
theorem ofI_ge {cs : List Int} {k : Nat} (hf : fits cs k) (i : Int) : 0 ≤ ofI cs i ∧ ofI cs i ≤ 1000000 := by
  unfold ofI
  split
  · rename_i hm
    have := mayI_t hm
    have := hf _ (getD_mem (zs := cs) (i := i.toNat) (by omega))
    omega
  · omega
theorem spShare_is (hw : WF μ) (h : Sp H N μ x fixed n V cs W) (hf : fits cs 1) (i : Int) :
    (ofI cs i = 0 → ∃ μ', space_Space_Share [.s x, .s (.int .i64 i)] μ = some (.s (.bool false), μ') ∧ Keep H μ μ' ∧ Sp H N μ' x fixed n V cs W) ∧
    (ofI cs i ≠ 0 → ∃ μ', space_Space_Share [.s x, .s (.int .i64 i)] μ = some (.s (.bool true), μ') ∧ Keep H μ μ' ∧ Sp H N μ' x fixed n V (incZ cs i) W) := by
  obtain ⟨sid, so, u, t, w, F, G, rfl, q, ⟨hs0, hF, hG, hW0⟩, hb⟩ := h
  have hb17 := Keep.bump (S := fun _ => False) hw 17
  have q1 := q.same hb17
  have hge := ofI_ge hf i
  refine ⟨fun h0 => ?_, fun h0 => ?_⟩
  · refine ⟨μ.bump 17, ?_, Same.kn hb17, ⟨sid, so, u, t, w, F, G, rfl, q1, ⟨hs0, hF, hG, hW0⟩, fun j hj => ⟨(hb j hj).1, by have := (hb j hj).2; simp only [bump_next]; omega⟩⟩⟩
    rw [space_Space_Share_eq]
    simp -implicitDefEqProofs only [q1.c2, q1.tab.of, gt_f (show ofI cs i ≤ 0 by omega), Option.bind_some, decide_true, decide_false, cond_true, cond_false, seqJ_n, seqJ_r, seqJ_e, headK_c, asB_bool, asI_int, asS_s, asN_int, extrK_0, extrK_1, extrK_2, Bool.not_true, Bool.not_false, Nat.beq_refl]
  · obtain ⟨m2, e2, k2, k3, z2⟩ := add_one hw q.tab (k := 17) (a := 13) (by omega) (v := i) hf (ofI_may h0)
    have q2 := (q.same k2).tabbed k3 z2 (incZ_len ..)
    have kk : Keep H μ m2 := (Same.kn k2).trans (k3.weak0 hG)
    refine ⟨m2, ?_, kk, ⟨sid, so, u, t, w, F, G, rfl, q2, ⟨hs0, hF, hG, hW0⟩, fun j hj => ⟨(hb j hj).1, by have := (hb j hj).2; have := kk.next; omega⟩⟩⟩
    rw [space_Space_Share_eq]
    simp -implicitDefEqProofs only [q1.c2, q1.tab.of, gt_t (show 0 < ofI cs i by omega), e2, Option.bind_some, decide_true, decide_false, cond_true, cond_false, seqJ_n, seqJ_r, seqJ_e, headK_c, asB_bool, asI_int, asS_s, asN_int, extrK_0, extrK_1, extrK_2, Bool.not_true, Bool.not_false, Nat.beq_refl]
end
end Go.Proofs.Ytkikncdhmifkaaa
/- The document's space: what is asked of it. -/
namespace Go.Proofs.Ytkikncdhmifkaaa
open Go Go.Proofs.Ytkikncdhmifkaaa.E
set_option linter.unusedVariables false
set_option linter.unusedSimpArgs false
/-- The document's space: how many sectors, how many are fixed, counts, which wait. -/
structure Dq (N : Nat) (μ : AMem) (sid : Nat) (so : AObj) (s w : SV) (n fixed : Nat) (cs : List Int) (bs : List Bool) : Prop where
  low : N ≤ sid
  obj : μ.obj sid = some so
  own : so.own = true
  ver : so.ver = 0
  cells : so.cells = [.int .i64 n, .int .i64 fixed, s, w]
  row : OwnRow N μ .i64 3 s cs
  brow : OwnB N μ w bs
  lc : cs.length = n
  lb : bs.length = n
  ss : ¬ isId s sid
  wws : ¬ isId w sid
  sw : ∀ j, isId s j → ¬ isId w j
section
variable {N sid n fixed : Nat} {μ μ' : AMem} {so : AObj} {s w : SV} {cs : List Int} {bs : List Bool}
theorem Dq.c0 (h : Dq N μ sid so s w n fixed cs bs) : μ.cell sid 0 (0 + 0) = some (.int .i64 n) := by simp only [AMem.cell, h.obj, Option.bind_some, h.ver, if_true, h.cells]; rfl
theorem Dq.c1 (h : Dq N μ sid so s w n fixed cs bs) : μ.cell sid 0 (0 + 1) = some (.int .i64 fixed) := by simp only [AMem.cell, h.obj, Option.bind_some, h.ver, if_true, h.cells]; rfl
theorem Dq.c2 (h : Dq N μ sid so s w n fixed cs bs) : μ.cell sid 0 (0 + 2) = some s := by simp only [AMem.cell, h.obj, Option.bind_some, h.ver, if_true, h.cells]; rfl
theorem Dq.c3 (h : Dq N μ sid so s w n fixed cs bs) : μ.cell sid 0 (0 + 3) = some w := by simp only [AMem.cell, h.obj, Option.bind_some, h.ver, if_true, h.cells]; rfl
theorem Dq.same (h : Dq N μ sid so s w n fixed cs bs) (hs : Same μ μ') : Dq N μ' sid so s w n fixed cs bs :=
  ⟨h.low, hs.old _ _ h.obj fun h => h, h.own, h.ver, h.cells, ownKeep h.row hs fun _ h => h.elim, h.brow.same hs, h.lc, h.lb, h.ss, h.wws, h.sw⟩
theorem Dq.keep {S : Nat → Prop} (h : Dq N μ sid so s w n fixed cs bs) (hk : Keep S μ μ') (hS : ∀ j, S j → j ≠ sid ∧ ¬ isId s j ∧ ¬ isId w j) : Dq N μ' sid so s w n fixed cs bs :=
  ⟨h.low, hk.old _ _ h.obj fun h => (hS _ h).1 rfl, h.own, h.ver, h.cells, ownKeep h.row hk fun j hj => (hS j hj).2.1, h.brow.keep hk fun j hj => (hS j hj).2.2, h.lc, h.lb, h.ss, h.wws, h.sw⟩
theorem dOf_is (h : Dq N μ sid so s w n fixed cs bs) (i : Int) : overdubref10_Space_Of [.s (.ptr sid 0 0), .s (.int .i64 i)] μ = some (.s (.int .i64 (ofI cs i)), μ) := by
  have hl := h.lc
  rw [overdubref10_Space_Of_eq]
  unfold ofI mayI
  by_cases h0 : 0 ≤ i
  · by_cases h1 : i < n
    · have g1 := fun {R : Type} (K : AV → Option R) => h.row.row.ind (i := i) h0 (by omega) K
      have l1 := fun {R : Type} (K : AV → Option R) => h.row.row.load (i := i) h0 (by omega) K
      rw [decide_eq_true h0, decide_eq_true (p := i < (cs.length : Int)) (by omega)]
      simp -implicitDefEqProofs only [lt_f h0, h.c0, ge_f (show i < (n : Int) by omega), h.c2, g1, l1, Bool.and_self, if_true, Option.bind_some, decide_true, decide_false, cond_true, cond_false, seqJ_n, seqJ_r, seqJ_e, headK_c, asB_bool, asI_int, asS_s, asN_int, extrK_0, extrK_1, extrK_2, Bool.not_true, Bool.not_false, Nat.beq_refl]
    · rw [decide_eq_false (p := i < (cs.length : Int)) (by omega), Bool.and_false]
      simp -implicitDefEqProofs only [lt_f h0, h.c0, ge_t (show (n : Int) ≤ i by omega), Bool.false_eq_true, if_false, Option.bind_some, decide_true, decide_false, cond_true, cond_false, seqJ_n, seqJ_r, seqJ_e, headK_c, asB_bool, asI_int, asS_s, asN_int, extrK_0, extrK_1, extrK_2, Bool.not_true, Bool.not_false, Nat.beq_refl]
  · rw [decide_eq_false h0, Bool.false_and]
    simp -implicitDefEqProofs only [lt_t (show i < 0 by omega), Bool.false_eq_true, if_false, Option.bind_some, decide_true, decide_false, cond_true, cond_false, seqJ_n, seqJ_r, seqJ_e, headK_c, asB_bool, asI_int, asS_s, asN_int, extrK_0, extrK_1, extrK_2, Bool.not_true, Bool.not_false, Nat.beq_refl]
/-- Used, by the document. -/
def usedD (fixed : Nat) (cs : List Int) (bs : List Bool) (j : Nat) : Bool := decide (j < fixed) || decide (cs.getD j 0 > 0) || bs.getD j false
theorem dUsed_is (h : Dq N μ sid so s w n fixed cs bs) (i : Int) : overdubref10_Space_Used [.s (.ptr sid 0 0), .s (.int .i64 i)] μ = some (.s (.bool (usedI n (usedD fixed cs bs) i)), μ) := by
  have hl := h.lc
  have hb := h.lb
  rw [overdubref10_Space_Used_eq]
  by_cases h0 : 0 ≤ i
  · by_cases h1 : i < n
    · obtain ⟨j, rfl⟩ : ∃ j : Nat, i = j := ⟨i.toNat, by omega⟩
      rw [usedI_in (by omega)]
      unfold usedD
      have g1 := fun {R : Type} (K : AV → Option R) => h.row.row.ind (i := (j : Int)) h0 (by omega) K
      have l1 := fun {R : Type} (K : AV → Option R) => h.row.row.load (i := (j : Int)) h0 (by omega) K
      have g2 := fun {R : Type} (K : AV → Option R) => h.brow.ind (i := (j : Int)) h0 (by omega) K
      have l2 := fun {R : Type} (K : AV → Option R) => h.brow.load (i := j) (by omega) K
      by_cases hf : j < fixed
      · rw [decide_eq_true hf]
        simp -implicitDefEqProofs only [lt_f h0, h.c0, ge_f h1, h.c1, lt_t (show (j : Int) < (fixed : Int) by omega), Bool.true_or, Option.bind_some, decide_true, decide_false, cond_true, cond_false, seqJ_n, seqJ_r, seqJ_e, headK_c, asB_bool, asI_int, asS_s, asN_int, extrK_0, extrK_1, extrK_2, Bool.not_true, Bool.not_false, Nat.beq_refl]
      · rw [decide_eq_false hf]
        by_cases hc : cs.getD j 0 > 0
        · rw [decide_eq_true hc]
          simp -implicitDefEqProofs only [lt_f h0, h.c0, ge_f h1, h.c1, lt_f (show (fixed : Int) ≤ (j : Int) by omega), h.c2, g1, l1, nat_toNat, decide_eq_true hc, Bool.true_or, Bool.or_true, Option.bind_some, decide_true, decide_false, cond_true, cond_false, seqJ_n, seqJ_r, seqJ_e, headK_c, asB_bool, asI_int, asS_s, asN_int, extrK_0, extrK_1, extrK_2, Bool.not_true, Bool.not_false, Nat.beq_refl]
        · rw [decide_eq_false hc]
          simp -implicitDefEqProofs only [lt_f h0, h.c0, ge_f h1, h.c1, lt_f (show (fixed : Int) ≤ (j : Int) by omega), h.c2, h.c3, g1, l1, g2, l2, nat_toNat, decide_eq_false hc, Bool.false_or, Option.bind_some, decide_true, decide_false, cond_true, cond_false, seqJ_n, seqJ_r, seqJ_e, headK_c, asB_bool, asI_int, asS_s, asN_int, extrK_0, extrK_1, extrK_2, Bool.not_true, Bool.not_false, Nat.beq_refl]
    · have hu : usedI n (usedD fixed cs bs) i = true := by unfold usedI; rw [decide_eq_false (p := i < (n : Int)) h1, Bool.and_false]; rfl
      rw [hu]
      simp -implicitDefEqProofs only [lt_f h0, h.c0, ge_t (show (n : Int) ≤ i by omega), Option.bind_some, decide_true, decide_false, cond_true, cond_false, seqJ_n, seqJ_r, seqJ_e, headK_c, asB_bool, asI_int, asS_s, asN_int, extrK_0, extrK_1, extrK_2, Bool.not_true, Bool.not_false, Nat.beq_refl]
  · have hu : usedI n (usedD fixed cs bs) i = true := by unfold usedI; rw [decide_eq_false h0]; rfl
    rw [hu]
    simp -implicitDefEqProofs only [lt_t (show i < 0 by omega), Option.bind_some, decide_true, decide_false, cond_true, cond_false, seqJ_n, seqJ_r, seqJ_e, headK_c, asB_bool, asI_int, asS_s, asN_int, extrK_0, extrK_1, extrK_2, Bool.not_true, Bool.not_false, Nat.beq_refl]
theorem dFree_loop (h : Dq N μ sid so s w n fixed cs bs) (hn : n ≤ 5000) :
    ∀ k i : Nat, i + k = n → overdubref10_Space_Free_L1 [.s (.ptr sid 0 0)] [.s (.int .i64 ((i : Int) - cntF (usedD fixed cs bs) i)), .s (.int .i64 (i : Int))] μ = some (.exit 0, [.s (.int .i64 ((n : Int) - cntF (usedD fixed cs bs) n))], μ)
  | 0, i, hi => by
    obtain rfl : i = n := by omega
    rw [overdubref10_Space_Free_L1_eq, overdubref10_Space_Free_L1_B_eq]
    simp -implicitDefEqProofs only [h.c0, lt_f (Int.le_refl (i : Int)), Option.bind_some, decide_true, decide_false, cond_true, cond_false, seqJ_n, seqJ_r, seqJ_e, headK_c, asB_bool, asI_int, asS_s, asN_int, extrK_0, extrK_1, extrK_2, Bool.not_true, Bool.not_false, Nat.beq_refl]
  | k + 1, i, hi => by
    have ih := dFree_loop h hn k (i + 1) (by omega)
    have hu := dUsed_is h (i : Int)
    rw [usedI_in (by omega)] at hu
    have hc := cntF_le (usedD fixed cs bs) i
    have ei : IntKind.wrap .i64 ((i : Int) + 1) = ((i + 1 : Nat) : Int) := by rw [wr (by omega)]; rfl
    have ec : IntKind.wrap .i64 ((i : Int) - cntF (usedD fixed cs bs) i + 1) = (i : Int) - cntF (usedD fixed cs bs) i + 1 := wr (by omega)
    rw [overdubref10_Space_Free_L1_eq, overdubref10_Space_Free_L1_B_eq]
    cases hv : usedD fixed cs bs i
    · rw [hv] at hu
      have e2 : ((i + 1 : Nat) : Int) - cntF (usedD fixed cs bs) (i + 1) = (i : Int) - cntF (usedD fixed cs bs) i + 1 := by rw [cntF, hv]; simp; omega
      rw [e2] at ih
      simp -implicitDefEqProofs only [h.c0, lt_t (show (i : Int) < (n : Int) by omega), hu, ec, ei, Option.bind_some, decide_true, decide_false, cond_true, cond_false, seqJ_n, seqJ_r, seqJ_e, headK_c, asB_bool, asI_int, asS_s, asN_int, extrK_0, extrK_1, extrK_2, Bool.not_true, Bool.not_false, Nat.beq_refl]
      exact ih
    · rw [hv] at hu
      have e2 : ((i + 1 : Nat) : Int) - cntF (usedD fixed cs bs) (i + 1) = (i : Int) - cntF (usedD fixed cs bs) i := by rw [cntF, hv]; simp; omega
      rw [e2] at ih
      simp -implicitDefEqProofs only [h.c0, lt_t (show (i : Int) < (n : Int) by omega), hu, ei, Option.bind_some, decide_true, decide_false, cond_true, cond_false, seqJ_n, seqJ_r, seqJ_e, headK_c, asB_bool, asI_int, asS_s, asN_int, extrK_0, extrK_1, extrK_2, Bool.not_true, Bool.not_false, Nat.beq_refl]
      exact ih
theorem dFree_is (h : Dq N μ sid so s w n fixed cs bs) (hn : n ≤ 5000) : overdubref10_Space_Free [.s (.ptr sid 0 0)] μ = some (.s (.int .i64 ((n : Int) - cntF (usedD fixed cs bs) n)), μ) := by
  have e := dFree_loop h hn n 0 (Nat.zero_add _)
  rw [show ((0 : Nat) : Int) - cntF (usedD fixed cs bs) 0 = 0 from rfl, n0] at e
  rw [overdubref10_Space_Free_eq]
  simp -implicitDefEqProofs only [e, Option.bind_some, decide_true, decide_false, cond_true, cond_false, seqJ_n, seqJ_r, seqJ_e, headK_c, asB_bool, asI_int, asS_s, asN_int, extrK_0, extrK_1, extrK_2, Bool.not_true, Bool.not_false, Nat.beq_refl]
end
/-- Those that wait. -/
def waitF (bs : List Bool) : Nat → Nat → List Int
  | 0, _ => []
  | k + 1, i => if bs.getD i false then (i : Int) :: waitF bs k (i + 1) else waitF bs k (i + 1)
theorem dWait_loop {μ0 : AMem} (h0 : WF μ0) {N sid n fixed : Nat} {so : AObj} {s w : SV} {cs : List Int} {bs : List Bool} (h : Dq N μ0 sid so s w n fixed cs bs) (hn : n ≤ 5000) :
    ∀ (k i : Nat) (m : AMem) (y : SV) (zs : List Int), i + k = n → zs.length ≤ i → Same μ0 m → OwnRow μ0.next m .i64 3 y zs →
      ∃ y' m', overdubref10_Space_Waiting_L1 [.s (.ptr sid 0 0), .s (.int .i64 (n : Int))] [.s y, .s (.int .i64 (i : Int))] m = some (.exit 0, [.s y'], m') ∧ Same μ0 m' ∧ OwnRow μ0.next m' .i64 3 y' (zs ++ waitF bs k i)
  | 0, i, m, y, zs, hi, hl, hs, hy => by
    obtain rfl : i = n := by omega
    refine ⟨y, m, ?_, hs, by rw [waitF, List.append_nil]; exact hy⟩
    rw [overdubref10_Space_Waiting_L1_eq, overdubref10_Space_Waiting_L1_B_eq]
    simp -implicitDefEqProofs only [lt_f (Int.le_refl (i : Int)), Option.bind_some, decide_true, decide_false, cond_true, cond_false, seqJ_n, seqJ_r, seqJ_e, headK_c, asB_bool, asI_int, asS_s, asN_int, extrK_0, extrK_1, extrK_2, Bool.not_true, Bool.not_false, Nat.beq_refl]
  | k + 1, i, m, y, zs, hi, hl, hs, hy => by
    have h1 := h.same hs
    have hb := h.lb
    have ei : IntKind.wrap .i64 ((i : Int) + 1) = ((i + 1 : Nat) : Int) := by rw [wr (by omega)]; rfl
    have g2 := fun {R : Type} (K : AV → Option R) => h1.brow.ind (i := (i : Int)) (by omega) (by omega) K
    have l2 := fun {R : Type} (K : AV → Option R) => h1.brow.load (i := i) (by omega) K
    rw [overdubref10_Space_Waiting_L1_eq, overdubref10_Space_Waiting_L1_B_eq, waitF]
    cases hv : bs.getD i false
    · obtain ⟨y2, m2, q1, q2, q3⟩ := dWait_loop h0 h hn k (i + 1) m y zs (by omega) (by omega) hs hy
      refine ⟨y2, m2, ?_, q2, q3⟩
      simp -implicitDefEqProofs only [lt_t (show (i : Int) < (n : Int) by omega), h1.c3, g2, l2, hv, ei, Option.bind_some, decide_true, decide_false, cond_true, cond_false, seqJ_n, seqJ_r, seqJ_e, headK_c, asB_bool, asI_int, asS_s, asN_int, extrK_0, extrK_1, extrK_2, Bool.not_true, Bool.not_false, Nat.beq_refl]
      exact q1
    · obtain ⟨y1, m1, p1, p2, p3⟩ := pushS (B := 8) (a := 2) (b := 3) (n := 5) (q := some 1) h0 hs hy (i : Int) (by omega) (by omega) (by omega) (by omega) (by omega)
      obtain ⟨y2, m2, q1, q2, q3⟩ := dWait_loop h0 h hn k (i + 1) m1 y1 _ (by omega) (by simp; omega) p2 p3
      refine ⟨y2, m2, ?_, q2, by simpa using q3⟩
      simp -implicitDefEqProofs only [lt_t (show (i : Int) < (n : Int) by omega), h1.c3, g2, l2, hv, p1, ei, Option.bind_some, decide_true, decide_false, cond_true, cond_false, seqJ_n, seqJ_r, seqJ_e, headK_c, asB_bool, asI_int, asS_s, asN_int, extrK_0, extrK_1, extrK_2, Bool.not_true, Bool.not_false, Nat.beq_refl]
      exact q1
theorem dWaiting_is {μ : AMem} (hw : WF μ) {N sid n fixed : Nat} {so : AObj} {s w : SV} {cs : List Int} {bs : List Bool} (h : Dq N μ sid so s w n fixed cs bs) (hn : n ≤ 5000) :
    ∃ y μ', overdubref10_Space_Waiting [.s (.ptr sid 0 0)] μ = some (.s y, μ') ∧ Same μ μ' ∧ OwnRow μ.next μ' .i64 3 y (waitF bs n 0) := by
  obtain ⟨y, m, e, k, o⟩ := dWait_loop hw h hn n 0 μ .nilSlice [] (Nat.zero_add _) (Nat.zero_le _) (Keep.refl hw) (OwnRow.nil _ _ _ _)
  rw [n0] at e
  refine ⟨y, m, ?_, k, by simpa using o⟩
  have hbl : lenS (.s w) = some n := by rw [h.brow.len, h.lb]
  rw [overdubref10_Space_Waiting_eq]
  simp -implicitDefEqProofs only [h.c3, hbl, e, Option.bind_some, decide_true, decide_false, cond_true, cond_false, seqJ_n, seqJ_r, seqJ_e, headK_c, asB_bool, asI_int, asS_s, asN_int, extrK_0, extrK_1, extrK_2, Bool.not_true, Bool.not_false, Nat.beq_refl]
end Go.Proofs.Ytkikncdhmifkaaa
/- The document's space: what is done to it. -/
namespace Go.Proofs.Ytkikncdhmifkaaa
open Go Go.Proofs.Ytkikncdhmifkaaa.E
set_option linter.unusedVariables false
set_option linter.unusedSimpArgs false
/-- What a space of the document holds. -/
def Dh (sid : Nat) (s w : SV) : Nat → Prop := fun j => j = sid ∨ isId s j ∨ isId w j
section
variable {N sid n fixed : Nat} {μ μ' : AMem} {so : AObj} {s w : SV} {cs : List Int} {bs : List Bool}
theorem Dq.counted {cs' : List Int} (h : Dq N μ sid so s w n fixed cs bs) (hk : Keep (isId s) μ μ') (ho : OwnRow N μ' .i64 3 s cs') (hl : cs'.length = cs.length) : Dq N μ' sid so s w n fixed cs' bs :=
  ⟨h.low, hk.old _ _ h.obj h.ss, h.own, h.ver, h.cells, ho, h.brow.keep hk fun j hj => h.sw j hj, by rw [hl]; exact h.lc, h.lb, h.ss, h.wws, h.sw⟩
theorem Dq.waited {bs' : List Bool} (h : Dq N μ sid so s w n fixed cs bs) (hk : Keep (isId w) μ μ') (ho : OwnB N μ' w bs') (hl : bs'.length = bs.length) : Dq N μ' sid so s w n fixed cs bs' :=
  ⟨h.low, hk.old _ _ h.obj h.wws, h.own, h.ver, h.cells, ownKeep h.row hk fun j hj hs => h.sw j hs hj, ho, h.lc, by rw [hl]; exact h.lb, h.ss, h.wws, h.sw⟩
theorem dShare_is (hw : WF μ) (h : Dq N μ sid so s w n fixed cs bs) (hf : fits cs 1) (i : Int) :
    (ofI cs i = 0 → overdubref10_Space_Share [.s (.ptr sid 0 0), .s (.int .i64 i)] μ = some (.s (.bool false), μ)) ∧
    (ofI cs i ≠ 0 → ∃ m, overdubref10_Space_Share [.s (.ptr sid 0 0), .s (.int .i64 i)] μ = some (.s (.bool true), m) ∧ Keep (Dh sid s w) μ m ∧ Dq N m sid so s w n fixed (incZ cs i) bs) := by
  have hl := h.lc
  have e0 := dOf_is h i
  refine ⟨fun h0 => ?_, fun h0 => ?_⟩
  · rw [h0] at e0
    rw [overdubref10_Space_Share_eq]
    simp -implicitDefEqProofs only [e0, BEq.rfl, Option.bind_some, decide_true, decide_false, cond_true, cond_false, seqJ_n, seqJ_r, seqJ_e, headK_c, asB_bool, asI_int, asS_s, asN_int, extrK_0, extrK_1, extrK_2, Bool.not_true, Bool.not_false, Nat.beq_refl]
  · have hm := ofI_may h0
    have hin := mayI_t hm
    obtain ⟨j, rfl⟩ : ∃ j : Nat, i = j := ⟨i.toNat, by omega⟩
    have hof : ofI cs (j : Int) = cs.getD j 0 := by unfold ofI; rw [hm]; rfl
    have hg := getD_fit hf (by omega) j
    have ew : IntKind.wrap .i64 (cs.getD j 0 + 1) = cs.getD j 0 + 1 := wr (by omega)
    have g1 := fun {R : Type} (K : AV → Option R) => h.row.row.ind (i := (j : Int)) (by omega) (by omega) K
    have l1 := fun {R : Type} (K : AV → Option R) => h.row.row.load (i := (j : Int)) (by omega) (by omega) K
    obtain ⟨m, s1, s2, s3, _⟩ := storeK hw h.row (i := j) (by omega) (cs.getD j 0 + 1)
    refine ⟨m, ?_, s2.weak0 fun _ h => .inr (.inl h), h.counted s2 s3 (incZ_len _ _)⟩
    rw [overdubref10_Space_Share_eq]
    simp -implicitDefEqProofs only [e0, eq_f h0, h.c2, g1, l1, nat_toNat, ew, s1, Option.bind_some, decide_true, decide_false, cond_true, cond_false, seqJ_n, seqJ_r, seqJ_e, headK_c, asB_bool, asI_int, asS_s, asN_int, extrK_0, extrK_1, extrK_2, Bool.not_true, Bool.not_false, Nat.beq_refl]
theorem dDrop_is (hw : WF μ) (h : Dq N μ sid so s w n fixed cs bs) (hf : fits cs 0) (i : Int) :
    (ofI cs i = 0 → overdubref10_Space_Drop [.s (.ptr sid 0 0), .s (.int .i64 i)] μ = some (.s (.bool false), μ)) ∧
    (ofI cs i ≠ 0 → ∃ m, overdubref10_Space_Drop [.s (.ptr sid 0 0), .s (.int .i64 i)] μ = some (.s (.bool true), m) ∧ Keep (Dh sid s w) μ m ∧ Dq N m sid so s w n fixed (decZ cs i) (bs.set i.toNat (cs.getD i.toNat 0 - 1 == 0))) := by
  have hl := h.lc
  have hb := h.lb
  have e0 := dOf_is h i
  refine ⟨fun h0 => ?_, fun h0 => ?_⟩
  · rw [h0] at e0
    rw [overdubref10_Space_Drop_eq]
    simp -implicitDefEqProofs only [e0, BEq.rfl, Option.bind_some, decide_true, decide_false, cond_true, cond_false, seqJ_n, seqJ_r, seqJ_e, headK_c, asB_bool, asI_int, asS_s, asN_int, extrK_0, extrK_1, extrK_2, Bool.not_true, Bool.not_false, Nat.beq_refl]
  · have hm := ofI_may h0
    have hin := mayI_t hm
    obtain ⟨j, rfl⟩ : ∃ j : Nat, i = j := ⟨i.toNat, by omega⟩
    have hg := getD_fit hf (by omega) j
    have ew : IntKind.wrap .i64 (cs.getD j 0 - 1) = cs.getD j 0 - 1 := wr (by omega)
    have g1 := fun {R : Type} (K : AV → Option R) => h.row.row.ind (i := (j : Int)) (by omega) (by omega) K
    have l1 := fun {R : Type} (K : AV → Option R) => h.row.row.load (i := (j : Int)) (by omega) (by omega) K
    obtain ⟨m, s1, s2, s3, _⟩ := storeK hw h.row (i := j) (by omega) (cs.getD j 0 - 1)
    have h1 := h.counted s2 s3 (by simp)
    have hls : (cs.set j (cs.getD j 0 - 1)).length = cs.length := List.length_set
    have g2 := fun {R : Type} (K : AV → Option R) => h1.row.row.ind (i := (j : Int)) (by omega) (by omega) K
    have l2 := fun {R : Type} (K : AV → Option R) => h1.row.row.load (i := (j : Int)) (by omega) (by omega) K
    have hgs : (cs.set j (cs.getD j 0 - 1)).getD j 0 = cs.getD j 0 - 1 := getD_set_self (by omega) _
    have g3 := fun {R : Type} (K : AV → Option R) => h1.brow.ind (i := (j : Int)) (by omega) (by omega) K
    obtain ⟨m2, t1, t2, t3⟩ := h1.brow.store s2.wf (i := j) (by omega) (cs.getD j 0 - 1 == 0)
    refine ⟨m2, ?_, (s2.weak0 fun _ h => .inr (.inl h)).trans (t2.weak0 fun _ h => .inr (.inr h)), h1.waited t2 t3 (by simp)⟩
    rw [overdubref10_Space_Drop_eq]
    simp -implicitDefEqProofs only [e0, eq_f h0, h.c2, g1, l1, nat_toNat, ew, s1, h1.c3, h1.c2, g2, l2, hgs, g3, t1, Option.bind_some, decide_true, decide_false, cond_true, cond_false, seqJ_n, seqJ_r, seqJ_e, headK_c, asB_bool, asI_int, asS_s, asN_int, extrK_0, extrK_1, extrK_2, Bool.not_true, Bool.not_false, Nat.beq_refl]
theorem dTake_loop (hw : WF μ) (h : Dq N μ sid so s w n fixed cs bs) (hn : n ≤ 5000) :
    ∀ k i : Nat, i + k = n → (∀ j, j < i → usedD fixed cs bs j = true) →
      (overdubref10_Space_Take_L1 [.s (.ptr sid 0 0)] [.s (.int .i64 (i : Int))] μ = some (.exit 0, [], μ) ∧ ∀ j, j < n → usedD fixed cs bs j = true) ∨
      (∃ g m, g < n ∧ usedD fixed cs bs g = false ∧ (∀ j, j < g → usedD fixed cs bs j = true) ∧ overdubref10_Space_Take_L1 [.s (.ptr sid 0 0)] [.s (.int .i64 (i : Int))] μ = some (.ret, [.s (.int .i64 (g : Int)), .s (.int .i64 0)], m) ∧ Keep (Dh sid s w) μ m ∧ Dq N m sid so s w n fixed (cs.set g 1) bs)
  | 0, i, hi, hu => by
    obtain rfl : i = n := by omega
    refine .inl ⟨?_, hu⟩
    rw [overdubref10_Space_Take_L1_eq, overdubref10_Space_Take_L1_B_eq]
    simp -implicitDefEqProofs only [h.c0, lt_f (Int.le_refl (i : Int)), Option.bind_some, decide_true, decide_false, cond_true, cond_false, seqJ_n, seqJ_r, seqJ_e, headK_c, asB_bool, asI_int, asS_s, asN_int, extrK_0, extrK_1, extrK_2, Bool.not_true, Bool.not_false, Nat.beq_refl]
  | k + 1, i, hi, hu => by
    have hl := h.lc
    have he := dUsed_is h (i : Int)
    rw [usedI_in (by omega)] at he
    have ei : IntKind.wrap .i64 ((i : Int) + 1) = ((i + 1 : Nat) : Int) := by rw [wr (by omega)]; rfl
    rw [overdubref10_Space_Take_L1_eq, overdubref10_Space_Take_L1_B_eq]
    cases hv : usedD fixed cs bs i
    · rw [hv] at he
      have g1 := fun {R : Type} (K : AV → Option R) => h.row.row.ind (i := (i : Int)) (by omega) (by omega) K
      obtain ⟨m, s1, s2, s3, _⟩ := storeK hw h.row (i := i) (by omega) 1
      refine .inr ⟨i, m, by omega, hv, hu, ?_, s2.weak0 fun _ h => .inr (.inl h), h.counted s2 s3 (by simp)⟩
      simp -implicitDefEqProofs only [h.c0, lt_t (show (i : Int) < (n : Int) by omega), he, h.c2, g1, s1, Option.bind_some, decide_true, decide_false, cond_true, cond_false, seqJ_n, seqJ_r, seqJ_e, headK_c, asB_bool, asI_int, asS_s, asN_int, extrK_0, extrK_1, extrK_2, Bool.not_true, Bool.not_false, Nat.beq_refl]
    · rw [hv] at he
      have ih := dTake_loop hw h hn k (i + 1) (by omega) fun j hj => by
        by_cases hji : j = i
        · rw [hji]; exact hv
        · exact hu j (by omega)
      simp -implicitDefEqProofs only [h.c0, lt_t (show (i : Int) < (n : Int) by omega), he, ei, Option.bind_some, decide_true, decide_false, cond_true, cond_false, seqJ_n, seqJ_r, seqJ_e, headK_c, asB_bool, asI_int, asS_s, asN_int, extrK_0, extrK_1, extrK_2, Bool.not_true, Bool.not_false, Nat.beq_refl]
      exact ih
theorem dTake_is (hw : WF μ) (h : Dq N μ sid so s w n fixed cs bs) (hn : n ≤ 5000) :
    (overdubref10_Space_Take [.s (.ptr sid 0 0)] μ = some (.tuple [.s (.int .i64 0), .s (.int .i64 3)], μ) ∧ ∀ j, j < n → usedD fixed cs bs j = true) ∨
    (∃ g m, g < n ∧ usedD fixed cs bs g = false ∧ (∀ j, j < g → usedD fixed cs bs j = true) ∧ overdubref10_Space_Take [.s (.ptr sid 0 0)] μ = some (.tuple [.s (.int .i64 (g : Int)), .s (.int .i64 0)], m) ∧ Keep (Dh sid s w) μ m ∧ Dq N m sid so s w n fixed (cs.set g 1) bs) := by
  have hl := dTake_loop hw h hn n 0 (Nat.zero_add _) fun j hj => by omega
  rw [n0] at hl
  rcases hl with ⟨e, hu⟩ | ⟨g, m, hg, hf, hu, e, k1, h1⟩
  · refine .inl ⟨?_, hu⟩
    rw [overdubref10_Space_Take_eq]
    simp -implicitDefEqProofs only [e, Option.bind_some, decide_true, decide_false, cond_true, cond_false, seqJ_n, seqJ_r, seqJ_e, headK_c, asB_bool, asI_int, asS_s, asN_int, extrK_0, extrK_1, extrK_2, Bool.not_true, Bool.not_false, Nat.beq_refl]
  · refine .inr ⟨g, m, hg, hf, hu, ?_, k1, h1⟩
    rw [overdubref10_Space_Take_eq]
    simp -implicitDefEqProofs only [e, Option.bind_some, decide_true, decide_false, cond_true, cond_false, seqJ_n, seqJ_r, seqJ_e, headK_c, asB_bool, asI_int, asS_s, asN_int, extrK_0, extrK_1, extrK_2, Bool.not_true, Bool.not_false, Nat.beq_refl]
theorem dCommit_is (hw : WF μ) (hN : N ≤ μ.next) (h : Dq N μ sid so s w n fixed cs bs) (hn : 1 ≤ n ∧ n ≤ 5000) :
    ∃ m so' w', overdubref10_Space_Commit [.s (.ptr sid 0 0)] μ = some (.s (.int .i64 ((waitF bs n 0).length : Int)), m) ∧ Keep (fun j => j = sid) μ m ∧ Dq N m sid so' s w' n fixed cs (List.replicate n false) ∧ ∀ j, isId w' j → μ.next ≤ j := by
  obtain ⟨y, m1, e1, k1, o1⟩ := dWaiting_is hw h (by omega)
  have h1 := h.same k1
  have hsl := k1.wf.lt h1.obj
  have hn1 := k1.next
  have k2 : Same m1 ((m1.bump 9).set (m1.next + 5) (rowObj (zerosA [.bool false] n) 1 4 (some n))) := Same.bumpSet k1.wf (by omega) _
  have ob : OwnB N ((m1.bump 9).set (m1.next + 5) (rowObj (zerosA [.bool false] n) 1 4 (some n))) (.slice (m1.next + 5) 0 0 n) (List.replicate n false) :=
    .inr ⟨m1.next + 5, 0, rowObj (zerosA [.bool false] n) 1 4 (some n), by simp, by omega, by simp, rfl, rfl, rfl, rfl, fun i b hi => by
      show (zerosA [.bool false] n)[i]? = _
      rw [zerosA_rep, List.getElem?_replicate]
      rw [List.getElem?_replicate] at hi
      split at hi
      · rw [if_pos (by assumption)]; cases hi; rfl
      · cases hi⟩
  have h2 := h1.same k2
  have hc0 : (m1.bump 9).cell sid 0 (0 + 0) = some (.int .i64 n) := by rw [bump_cell]; exact h1.c0
  generalize hM : (m1.bump 9).set (m1.next + 5) (rowObj (zerosA [.bool false] n) 1 4 (some n)) = m2 at *
  have hso' : m2.store sid 0 (0 + 3) [.slice (m1.next + 5) 0 0 n] = some (m2.set sid { so with cells := [.int .i64 n, .int .i64 fixed, s, .slice (m1.next + 5) 0 0 n] }) := by
    simp only [AMem.store, h2.obj, Option.bind_some]
    rw [if_pos ⟨h2.own, h2.ver, by rw [h2.cells]; simp⟩, h2.cells]; rfl
  have k3 : Keep (fun j => j = sid) m2 (m2.set sid { so with cells := [.int .i64 n, .int .i64 fixed, s, .slice (m1.next + 5) 0 0 n] }) := Keep.set k2.wf h2.obj rfl
  refine ⟨_, { so with cells := [.int .i64 n, .int .i64 fixed, s, .slice (m1.next + 5) 0 0 n] }, .slice (m1.next + 5) 0 0 n, ?_, ((k1.trans k2).weak0 fun _ h => h.elim).trans k3, ⟨h2.low, set_self _ _ _, h2.own, h2.ver, rfl, ownKeep h2.row k3 fun j hj hs => h2.ss (hj ▸ hs), ob.keep k3 fun j hj hs => ?_, h2.lc, by simp, h2.ss, fun hs => ?_, fun j hj hs => ?_⟩, fun j hj => ?_⟩
  · rw [overdubref10_Space_Commit_eq]
    simp -implicitDefEqProofs only [e1, o1.row.len, hc0, Option.bind_some, decide_true, decide_false, cond_true, cond_false, seqJ_n, seqJ_r, seqJ_e, headK_c, asB_bool, asI_int, asS_s, asN_int, extrK_0, extrK_1, extrK_2, Bool.not_true, Bool.not_false, Nat.beq_refl]
    rw [if_pos (by omega)]
    simp -implicitDefEqProofs only [nat_toNat, hM, hso', Option.bind_some, decide_true, decide_false, cond_true, cond_false, seqJ_n, seqJ_r, seqJ_e, headK_c, asB_bool, asI_int, asS_s, asN_int, extrK_0, extrK_1, extrK_2, Bool.not_true, Bool.not_false, Nat.beq_refl]
  · have : m1.next + 5 = j := hs
    omega
  · have : m1.next + 5 = sid := hs
    omega
  · have h3 : m1.next + 5 = j := hs
    obtain ⟨_, o, ho⟩ := own_lives h1.row hj
    have := k1.wf.lt ho
    omega
  · have : m1.next + 5 = j := hj
    omega
end
end Go.Proofs.Ytkikncdhmifkaaa
/- The document's space: a new one. -/
namespace Go.Proofs.Ytkikncdhmifkaaa
open Go Go.Proofs.Ytkikncdhmifkaaa.E
set_option linter.unusedVariables false
set_option linter.unusedSimpArgs false
theorem dNew_no {μ : AMem} {n f : Int} (h : n < 1 ∨ n > 4096 ∨ f < 0 ∨ f > n) : overdubref10_NewSpace [.s (.int .i64 n), .s (.int .i64 f)] μ = some (.tuple [.s .nilPtr, .s (.bool false)], μ) := by
  rw [overdubref10_NewSpace_eq]
  by_cases h1 : n < 1
  · simp -implicitDefEqProofs only [lt_t h1, Option.bind_some, decide_true, decide_false, cond_true, cond_false, seqJ_n, seqJ_r, seqJ_e, headK_c, asB_bool, asI_int, asS_s, asN_int, extrK_0, extrK_1, extrK_2, Bool.not_true, Bool.not_false, Nat.beq_refl]
  · by_cases h2 : n > 4096
    · simp -implicitDefEqProofs only [lt_f (show 1 ≤ n by omega), gt_t (show 4096 < n by omega), Option.bind_some, decide_true, decide_false, cond_true, cond_false, seqJ_n, seqJ_r, seqJ_e, headK_c, asB_bool, asI_int, asS_s, asN_int, extrK_0, extrK_1, extrK_2, Bool.not_true, Bool.not_false, Nat.beq_refl]
    · by_cases h3 : f < 0
      · simp -implicitDefEqProofs only [lt_f (show 1 ≤ n by omega), gt_f (show n ≤ 4096 by omega), lt_t h3, Option.bind_some, decide_true, decide_false, cond_true, cond_false, seqJ_n, seqJ_r, seqJ_e, headK_c, asB_bool, asI_int, asS_s, asN_int, extrK_0, extrK_1, extrK_2, Bool.not_true, Bool.not_false, Nat.beq_refl]
      · simp -implicitDefEqProofs only [lt_f (show 1 ≤ n by omega), gt_f (show n ≤ 4096 by omega), lt_f (show 0 ≤ f by omega), gt_t (show n < f by omega), Option.bind_some, decide_true, decide_false, cond_true, cond_false, seqJ_n, seqJ_r, seqJ_e, headK_c, asB_bool, asI_int, asS_s, asN_int, extrK_0, extrK_1, extrK_2, Bool.not_true, Bool.not_false, Nat.beq_refl]
theorem bools_at {m : AMem} {i n : Nat} (h : m.obj i = some (rowObj (zerosA [.bool false] n) 1 4 (some n))) {N : Nat} (hN : N ≤ i) : OwnB N m (.slice i 0 0 n) (List.replicate n false) :=
  .inr ⟨i, 0, rowObj (zerosA [.bool false] n) 1 4 (some n), by simp, hN, h, rfl, rfl, rfl, rfl, fun j b hi => by
    show (zerosA [.bool false] n)[j]? = _
    rw [zerosA_rep, List.getElem?_replicate]
    rw [List.getElem?_replicate] at hi
    split at hi
    · rw [if_pos (by assumption)]; cases hi; rfl
    · cases hi⟩
theorem dNew_is {μ : AMem} (hw : WF μ) {n f : Nat} (h1 : 1 ≤ n) (h2 : n ≤ 4096) (hf : f ≤ n) :
    ∃ sid so s w m, overdubref10_NewSpace [.s (.int .i64 (n : Int)), .s (.int .i64 (f : Int))] μ = some (.tuple [.s (.ptr sid 0 0), .s (.bool true)], m) ∧ Same μ m ∧ Dq μ.next m sid so s w n f (List.replicate n 0) (List.replicate n false) := by
  have k1 : Same μ ((μ.bump 10).set (μ.next + 3) (rowObj (zerosA [.int .i64 0] n) 1 3 (some n))) := Same.bumpSet hw (by omega) _
  have k2 : Same μ (((μ.bump 10).set (μ.next + 3) (rowObj (zerosA [.int .i64 0] n) 1 3 (some n))).set (μ.next + 5) (rowObj (zerosA [.bool false] n) 1 4 (some n))) := Keep.setS hw k1 (by omega) (by simp)
  have k3 : Same μ ((((μ.bump 10).set (μ.next + 3) (rowObj (zerosA [.int .i64 0] n) 1 3 (some n))).set (μ.next + 5) (rowObj (zerosA [.bool false] n) 1 4 (some n))).set (μ.next + 7) (rowObj [.int .i64 n, .int .i64 f, .slice (μ.next + 3) 0 0 n, .slice (μ.next + 5) 0 0 n] 4 62 (some 1))) := Keep.setS hw k2 (by omega) (by simp)
  have f3 : (μ.bump 10).obj (μ.next + 3) = none := freshB hw 10 3
  have f5 : ((μ.bump 10).set (μ.next + 3) (rowObj (zerosA [.int .i64 0] n) 1 3 (some n))).obj (μ.next + 5) = none := by rw [set_obj, if_neg (by omega)]; exact freshB hw 10 5
  have f7 : (((μ.bump 10).set (μ.next + 3) (rowObj (zerosA [.int .i64 0] n) 1 3 (some n))).set (μ.next + 5) (rowObj (zerosA [.bool false] n) 1 4 (some n))).obj (μ.next + 7) = none := by rw [set_obj, if_neg (by omega), set_obj, if_neg (by omega)]; exact freshB hw 10 7
  refine ⟨μ.next + 7, rowObj [.int .i64 n, .int .i64 f, .slice (μ.next + 3) 0 0 n, .slice (μ.next + 5) 0 0 n] 4 62 (some 1), .slice (μ.next + 3) 0 0 n, .slice (μ.next + 5) 0 0 n, _, ?_, k3, ⟨by omega, set_self _ _ _, rfl, rfl, rfl, ?_, ?_, by simp, by simp, fun h => ?_, fun h => ?_, fun j hj hj2 => ?_⟩⟩
  · rw [overdubref10_NewSpace_eq]
    simp -implicitDefEqProofs only [lt_f (show (1 : Int) ≤ (n : Int) by omega), gt_f (show (n : Int) ≤ 4096 by omega), lt_f (show (0 : Int) ≤ (f : Int) by omega), gt_f (show (f : Int) ≤ (n : Int) by omega), Option.bind_some, decide_true, decide_false, cond_true, cond_false, seqJ_n, seqJ_r, seqJ_e, headK_c, asB_bool, asI_int, asS_s, asN_int, extrK_0, extrK_1, extrK_2, Bool.not_true, Bool.not_false, Nat.beq_refl]
    rw [if_pos (by omega)]
    simp only [f3, chk_true, nat_toNat]
    rw [if_pos (by omega)]
    simp -implicitDefEqProofs only [f5, f7, chk_true, Option.bind_some, decide_true, decide_false, cond_true, cond_false, seqJ_n, seqJ_r, seqJ_e, headK_c, asB_bool, asI_int, asS_s, asN_int, extrK_0, extrK_1, extrK_2, Bool.not_true, Bool.not_false, Nat.beq_refl]
  · exact OwnRow.new (o := rowObj (zerosA [.int .i64 0] n) 1 3 (some n)) (by rw [set_obj, if_neg (by omega), set_obj, if_neg (by omega)]; exact set_self _ _ _) (by omega) (by simp) rfl rfl rfl rfl (by show zerosA _ _ = _; rw [zerosA_rep]; simp)
  · exact bools_at (by rw [set_obj, if_neg (by omega)]; exact set_self _ _ _) (by omega)
  · have : μ.next + 3 = μ.next + 7 := h
    omega
  · have : μ.next + 5 = μ.next + 7 := h
    omega
  · have a : μ.next + 3 = j := hj
    have b : μ.next + 5 = j := hj2
    omega
end Go.Proofs.Ytkikncdhmifkaaa
/- Spaces: drop, commit, new ones. -/
namespace Go.Proofs.Ytkikncdhmifkaaa
open Go Go.Proofs.Ytkikncdhmifkaaa.E
set_option linter.unusedVariables false
set_option linter.unusedSimpArgs false
/-- Behind how many of the first k it belongs. -/
def cutK (W : List Int) (i : Int) : Nat → Nat
  | 0 => 0
  | k + 1 => if W.getD k 0 > i then cutK W i k else k + 1
theorem cutK_le (W : List Int) (i : Int) : ∀ k, cutK W i k ≤ k
  | 0 => Nat.le_refl _
  | k + 1 => by rw [cutK]; split; exact Nat.le_succ_of_le (cutK_le W i k); exact Nat.le_refl _
def insK (W : List Int) (i : Int) : List Int := W.take (cutK W i W.length) ++ i :: W.drop (cutK W i W.length)
section
variable {N : Nat} {μ : AMem} {sid : Nat} {so : AObj} {u t w : SV} {F G : Nat → Prop} {fixed n : Nat} {V : Nat → Bool} {cs W : List Int}
theorem drop_look (q : Sq N μ sid so u t w F G fixed n V cs W) (hl : W.length ≤ 100000) (i : Int) (b : Bool) :
    ∀ k : Nat, k ≤ W.length → space_Space_Drop_L1 [.s (.ptr sid 0 0), .s (.int .i64 i), .s (.bool b)] [.s (.int .i64 k)] μ = some (.exit 0, [.s (.ptr sid 0 0), .s (.int .i64 i), .s (.bool b), .s (.int .i64 (cutK W i k))], μ)
  | 0, _ => by
    rw [space_Space_Drop_L1_eq, space_Space_Drop_L1_B_eq]
    simp -implicitDefEqProofs (disch := omega) only [lt_t, lt_f, gt_t, gt_f, le_t, le_f, ge_t, ge_f, ne_t, ne_f, eq_t, eq_f, w64, chk_true, Option.bind_some, decide_true, decide_false, cond_true, cond_false, seqJ_n, seqJ_r, seqJ_e, headK_c, asB_bool, asI_int, asS_s, asN_int, extrK_0, extrK_1, extrK_2, Bool.not_true, Bool.not_false, Nat.beq_refl]
    rfl
  | k + 1, hk => by
    have hr := q.row.row
    have e1 : IntKind.wrap .i64 (((k + 1 : Nat) : Int) - 1) = (k : Int) := by rw [wr (by omega)]; omega
    have a1 := fun {R : Type} (K : AV → Option R) => hr.ind (i := (k : Int)) (by omega) (by omega) K
    have a2 := fun {R : Type} (K : AV → Option R) => hr.load (i := (k : Int)) (by omega) (by omega) K
    rw [nat_toNat] at a2
    rw [space_Space_Drop_L1_eq, space_Space_Drop_L1_B_eq, cutK]
    by_cases hc : W.getD k 0 > i
    · rw [if_pos hc]
      have ih := drop_look q hl i b k (by omega)
      simp -implicitDefEqProofs only [gt_t (show (0 : Int) < ((k + 1 : Nat) : Int) by omega), q.c3, e1, a1, a2, gt_t (show i < W.getD k 0 by omega), Option.bind_some, decide_true, decide_false, cond_true, cond_false, seqJ_n, seqJ_r, seqJ_e, headK_c, asB_bool, asI_int, asS_s, asN_int, extrK_0, extrK_1, extrK_2, Bool.not_true, Bool.not_false, Nat.beq_refl]
      exact ih
    · rw [if_neg hc]
      simp -implicitDefEqProofs only [gt_t (show (0 : Int) < ((k + 1 : Nat) : Int) by omega), q.c3, e1, a1, a2, gt_f (show W.getD k 0 ≤ i by omega), Option.bind_some, decide_true, decide_false, cond_true, cond_false, seqJ_n, seqJ_r, seqJ_e, headK_c, asB_bool, asI_int, asS_s, asN_int, extrK_0, extrK_1, extrK_2, Bool.not_true, Bool.not_false, Nat.beq_refl]
/-- A cell of the box is written. -/
theorem Sq.put {so' : AObj} (hw : WF μ) (low : N ≤ sid) (hobj : μ.obj sid = some so) (hown : so.own = true) (hver : so.ver = 0) {u' t' w' : SV} {F' G' : Nat → Prop} {V' : Nat → Bool} {cs' W' : List Int} (hso : so' = { so with cells := [.int .i64 fixed, u', t', w'] })
    (hm : Mz F' N μ u' n V') (ht : Tz G' N μ t' cs') (hr : OwnRow N μ .i64 3 w' W') (h1 : ∀ j, F' j → ¬ G' j ∧ ¬ isId w' j ∧ j ≠ sid) (h2 : ∀ j, G' j → ¬ isId w' j ∧ j ≠ sid) (h3 : ¬ isId w' sid) (h4 : cs'.length = n) :
    Sq N (μ.set sid so') sid so' u' t' w' F' G' fixed n V' cs' W' ∧ Keep (fun j => j = sid) μ (μ.set sid so') := by
  have hk : Keep (fun j => j = sid) μ (μ.set sid so') := Keep.set hw hobj rfl
  subst hso
  exact ⟨⟨low, by simp, hown, hver, rfl, hm.keep hk (fun j hj hf => (h1 j hf).2.2 hj), ht.keep hk (fun j hj hf => (h2 j hf).2 hj), ownKeep hr hk (fun j hj hi => h3 (hj ▸ hi)), h1, h2, h3, h4⟩, hk⟩
end
section
variable {H : Nat → Prop} {N : Nat} {μ : AMem} {x : SV} {fixed n : Nat} {V : Nat → Bool} {cs W : List Int}
theorem spDrop_is (hw : WF μ) (hN : N ≤ μ.next) (h : Sp H N μ x fixed n V cs W) (hf : fits cs 0) (hl : W.length ≤ 10000) (i : Int) :
    (ofI cs i = 0 → space_Space_Drop [.s x, .s (.int .i64 i)] μ = some (.s (.bool false), μ)) ∧
    (ofI cs i ≠ 0 → ∃ μ' H', space_Space_Drop [.s x, .s (.int .i64 i)] μ = some (.s (.bool true), μ') ∧ Keep H μ μ' ∧ (∀ j, H' j → H j ∨ μ.next ≤ j) ∧ Sp H' N μ' x fixed n V (decZ cs i) (if ofI cs i = 1 then insK W i else W)) := by
  obtain ⟨sid, so, u, t, w, F, G, rfl, q, ⟨hs0, hF, hG, hW0⟩, hb⟩ := h
  obtain ⟨d1, d2⟩ := q.tab.drop hw hf i
  refine ⟨fun h0 => ?_, fun h0 => ?_⟩
  · rw [space_Space_Drop_eq]
    simp -implicitDefEqProofs only [q.c2, d1 h0, Option.bind_some, decide_true, decide_false, cond_true, cond_false, seqJ_n, seqJ_r, seqJ_e, headK_c, asB_bool, asI_int, asS_s, asN_int, extrK_0, extrK_1, extrK_2, Bool.not_true, Bool.not_false, Nat.beq_refl]
  · obtain ⟨m1, e1, k1, z1⟩ := d2 h0
    have q1 := q.tabbed k1 z1 (decZ_len ..)
    by_cases h1 : ofI cs i = 1
    · rw [if_pos h1]
      have hlk := drop_look q1 (by omega) i true W.length (Nat.le_refl _)
      obtain ⟨k, hk⟩ : ∃ k, cutK W i W.length = k := ⟨_, rfl⟩
      have hkl : k ≤ W.length := hk ▸ cutK_le W i W.length
      rw [hk] at hlk
      have hw1 : WF m1 := k1.wf
      have hn1 := k1.next
      -- the literal, and what is behind it
      have ks := Same.bumpSet hw1 (n := 20) (a := 8) (by omega) (rowObj [.int .i64 i] 1 3 (some 1))
      obtain ⟨m2, hm2⟩ : ∃ m2, m2 = (m1.bump 20).set (m1.next + 8) (rowObj [.int .i64 i] 1 3 (some 1)) := ⟨_, rfl⟩
      rw [← hm2] at ks
      have q2 := q1.same ks
      have hn2 : m2.next = m1.next + 20 := by rw [hm2]; rfl
      have hlit : OwnRow N m2 .i64 3 (.slice (m1.next + 8) 0 0 1) [i] := OwnRow.new (o := rowObj [.int .i64 i] 1 3 (some 1)) (by rw [hm2]; simp) (by omega) rfl rfl rfl rfl rfl rfl
      have hfree : ∀ a, a < 20 → a ≠ 8 → m2.obj (m1.next + a) = none := fun a ha hne => by rw [hm2, set_obj, if_neg (by omega)]; exact hw1 _ (by omega)
      obtain ⟨y, c1, c2⟩ := q1.row.row.front hkl
      obtain ⟨z, c3, c4⟩ := q1.row.row.back hkl
      obtain ⟨x43, m3, a1, a2, a3, a4, a5, a6⟩ := hlit.append (B := 8) (nid := m1.next + 15) ks.wf (c4.same ks) (by omega) (by simp; omega) (by omega) (by omega) (hfree 15 (by omega) (by omega))
      have hwl : ∀ j, isId w j → j < m1.next := fun j hj => by
        obtain ⟨_, o, ho⟩ := own_lives q1.row hj
        exact hw1.lt ho
      have hwlit : ∀ j, isId w j → ¬ isId (.slice (m1.next + 8) 0 0 1) j := fun j hj h => by
        have := hwl j hj
        have : m1.next + 8 = j := h
        omega
      have hk3 : Same m1 m3 := ⟨a3, by omega, fun id o ho _ => a5.1 id o (ks.old id o ho fun h => h) fun h => by
        have := hw1.lt ho
        have : m1.next + 8 = id := h
        omega, fun id hid hno => a5.2 id (by omega) (ks.low id hid hno)⟩
      have q3 := q1.same hk3
      have hfr3 : m3.obj (m1.next + 16) = none := a5.2 _ (by omega) (hfree 16 (by omega) (by omega))
      -- what is ahead of it
      have hy3 : OwnRow N m3 .i64 3 y (W.take k) := by
        rcases q3.row with ⟨hw0, hW⟩ | ⟨id, ver, o, hw0, b1, b2, b3, b4, b5, b6, b7⟩
        · have := c1 (R := AV) some
          rw [hw0] at this
          have hk0 : k = 0 := by rw [hW] at hkl; simpa using hkl
          subst hk0
          simp only [cutS, n0] at this
          simp at this
          rw [← this]
          exact .inl ⟨rfl, by simp⟩
        · have := c1 (R := AV) some
          rw [hw0] at this
          simp only [cutS] at this
          rw [if_pos (by omega)] at this
          simp at this
          rw [← this]
          refine .inr ⟨id, ver, o, by simp; omega, b1, b2, b3, b4, b5, b6, fun j v hj => b7 j v ?_⟩
          rw [List.getElem?_take] at hj
          split at hj
          · exact hj
          · cases hj
      have hyid : ∀ j, isId y j → isId w j := fun j hj => by
        rcases q3.row with ⟨hw0, hW⟩ | ⟨id, ver, o, hw0, b1, b2, b3, b4, b5, b6, b7⟩
        · have := c1 (R := AV) some
          rw [hw0] at this
          have hk0 : k = 0 := by rw [hW] at hkl; simpa using hkl
          subst hk0
          simp only [cutS, n0] at this
          simp at this
          rw [← this] at hj
          exact hj.elim
        · have := c1 (R := AV) some
          rw [hw0] at this
          simp only [cutS] at this
          rw [if_pos (by omega)] at this
          simp at this
          rw [← this] at hj
          rw [hw0]; exact hj
      obtain ⟨x46, m4, f1, f2, f3, f4, f5, f6⟩ := hy3.append (B := 8) (nid := m1.next + 16) a3 a2.row (by omega) (by simp; omega) (by omega) (by omega) hfr3
      have hid46 : ∀ j, isId x46 j → isId w j ∨ j = m1.next + 16 := fun j hj => (f6 j hj).imp (hyid j) fun h => h
      have hFW : ∀ j, F j → ¬ isId x46 j := fun j hj hi => by
        rcases hid46 j hi with h3 | h3
        · exact (q1.offF j hj).2.1 h3
        · obtain ⟨_, o, ho⟩ := q1.map.lives j hj
          have := hw1.lt ho
          omega
      have hGW : ∀ j, G j → ¬ isId x46 j := fun j hj hi => by
        rcases hid46 j hi with h3 | h3
        · exact (q1.offG j hj).1 h3
        · obtain ⟨_, o, ho⟩ := q1.tab.lives j hj
          have := hw1.lt ho
          omega
      have hsW : ¬ isId x46 sid := fun hi => by
        rcases hid46 sid hi with h3 | h3
        · exact q1.offW h3
        · have := hw1.lt q1.obj
          omega
      -- all but the row that waits
      have hk4 : Keep (fun j => isId w j) m1 m4 := ⟨f3, by omega, fun id o ho hne => f5.1 id o (hk3.old id o ho fun h => h) fun h => hne (hyid id h), fun id hid hno => f5.2 id (by omega) (hk3.low id hid hno)⟩
      have hso4 : m4.obj sid = some so := hk4.old _ _ q1.obj q1.offW
      have f2' : OwnRow N m4 .i64 3 x46 (insK W i) := by unfold insK; rw [hk]; exact f2
      obtain ⟨q5, k5⟩ := Sq.put (so' := { so with cells := [.int .i64 fixed, u, t, x46] }) f3 q.low hso4 q.own q.ver rfl (q1.map.keep hk4 fun j hj hf => (q1.offF j hf).2.1 hj) (q1.tab.keep hk4 fun j hj hf => (q1.offG j hf).1 hj) f2' (fun j hj => ⟨(q1.offF j hj).1, hFW j hj, (q1.offF j hj).2.2⟩) (fun j hj => ⟨hGW j hj, (q1.offG j hj).2⟩) hsW q1.len
      have kk : Keep H μ (m4.set sid { so with cells := [.int .i64 fixed, u, t, x46] }) := (k1.weak0 hG).trans ((hk4.weak0 hW0).trans (k5.weak0 fun j hj => hj ▸ hs0))
      have kn := kk.next
      have hn4 : (m4.set sid { so with cells := [.int .i64 fixed, u, t, x46] }).next = m1.next + 20 := by rw [set_next, f4, a4, hn2]
      refine ⟨_, fun j => H j ∨ j = m1.next + 16, ?_, kk, fun j hj => hj.imp (fun h => h) fun h => by omega, ⟨sid, _, u, t, x46, F, G, rfl, q5, ⟨.inl hs0, fun j hj => .inl (hF j hj), fun j hj => .inl (hG j hj), fun j hj => (hid46 j hj).imp (hW0 j) fun h => h⟩, fun j hj => ?_⟩⟩
      rotate_left
      · rcases hj with hj | hj
        · exact ⟨(hb j hj).1, by have := (hb j hj).2; omega⟩
        · exact ⟨by omega, by omega⟩
      have hst : m4.store sid 0 (0 + 3) [x46] = some (m4.set sid { so with cells := [.int .i64 fixed, u, t, x46] }) := by
        simp only [AMem.store, hso4, Option.bind_some]
        rw [if_pos ⟨q.own, q.ver, by rw [q.cells]; simp⟩, q.cells]; rfl
      have hn : nonNil (R := Res) (.s (.ptr sid 0 0)) = fun K => K := by funext K; rfl
      have hfr1 : (m1.bump 20).obj (m1.next + 8) = none := freshB hw1 20 8
      rw [space_Space_Drop_eq]
      simp -implicitDefEqProofs only [q.c2, e1, eq_t (show ofI cs i - 1 = 0 by omega), q1.c3, q1.row.row.len, hlk, hn, ptrAdd_p, loadAt_p, bump_cell, c1, hfr1, c3, chk_true, Option.bind_some, decide_true, decide_false, cond_true, cond_false, seqJ_n, seqJ_r, seqJ_e, headK_c, asB_bool, asI_int, asS_s, asN_int, extrK_0, extrK_1, extrK_2, Bool.not_true, Bool.not_false, Nat.beq_refl]
      rw [← hm2]
      simp -implicitDefEqProofs only [a1, q3.c3, f1, hn, ptrAdd_p, loadAt_p, storeAt, AV.cells, List.length_singleton, if_true, hst, chk_true, Option.bind_some, decide_true, decide_false, cond_true, cond_false, seqJ_n, seqJ_r, seqJ_e, headK_c, asB_bool, asI_int, asS_s, asN_int, extrK_0, extrK_1, extrK_2, Bool.not_true, Bool.not_false, Nat.beq_refl]
    · rw [if_neg h1]
      refine ⟨m1, H, ?_, k1.weak0 hG, fun j hj => .inl hj, ⟨sid, so, u, t, w, F, G, rfl, q1, ⟨hs0, hF, hG, hW0⟩, fun j hj => ⟨(hb j hj).1, by have := (hb j hj).2; have := k1.next; omega⟩⟩⟩
      rw [space_Space_Drop_eq]
      simp -implicitDefEqProofs only [q.c2, e1, eq_f (show ¬ ofI cs i - 1 = 0 by omega), Option.bind_some, decide_true, decide_false, cond_true, cond_false, seqJ_n, seqJ_r, seqJ_e, headK_c, asB_bool, asI_int, asS_s, asN_int, extrK_0, extrK_1, extrK_2, Bool.not_true, Bool.not_false, Nat.beq_refl]
end
end Go.Proofs.Ytkikncdhmifkaaa
/- Spaces: commit, new ones. -/
namespace Go.Proofs.Ytkikncdhmifkaaa
open Go Go.Proofs.Ytkikncdhmifkaaa.E
set_option linter.unusedVariables false
set_option linter.unusedSimpArgs false
def putV (b : Bool) : (Nat → Bool) → List Int → (Nat → Bool)
  | V, [] => V
  | V, v :: l => putV b (setV V v.toNat b) l
theorem putV_is (b : Bool) : ∀ (l : List Int) (V : Nat → Bool) (j : Nat), (∀ v ∈ l, 0 ≤ v) → putV b V l j = if (j : Int) ∈ l then b else V j
  | [], V, j, _ => by simp [putV]
  | v :: l, V, j, h => by
    have hv := h v (List.mem_cons_self ..)
    rw [putV, putV_is b l _ j fun w hw => h w (List.mem_cons_of_mem _ hw)]
    unfold setV
    by_cases h1 : (j : Int) ∈ l
    · rw [if_pos h1, if_pos (List.mem_cons_of_mem _ h1)]
    · rw [if_neg h1]
      by_cases h2 : j = v.toNat
      · rw [if_pos h2, if_pos (by rw [show (j : Int) = v by omega]; exact List.mem_cons_self ..)]
      · rw [if_neg h2, if_neg]
        intro hm
        rcases List.mem_cons.mp hm with h3 | h3
        · omega
        · exact h1 h3
theorem set_set4 (μ : AMem) (i : Nat) (a b : AObj) : (μ.set i a).set i b = μ.set i b := by
  unfold AMem.set
  congr 1
  funext j
  by_cases h : j = i
  · simp [h]
  · simp [h]
section
variable {N : Nat} {sid : Nat} {so : AObj} {u t w : SV} {F G : Nat → Prop} {fixed n : Nat} {cs W : List Int}
theorem commit_loop {y : SV} {zs : List Int} (hz : ∀ v ∈ zs, 0 ≤ v ∧ v < n) (hn : n ≤ 5000) (hl : zs.length ≤ 100000) (hyF : ∀ j, F j → ¬ isId y j) :
    ∀ (k i : Nat) (μ : AMem) (V : Nat → Bool), i + k = zs.length → WF μ → Sq N μ sid so u t w F G fixed n V cs W → IsRow μ .i64 y zs →
      ∃ μ', space_Space_Commit_L1 [.s (.ptr sid 0 0), .s y, .s (.int .i64 zs.length)] [.s (.int .i64 i)] μ = some (.exit 0, [.s (.ptr sid 0 0)], μ') ∧ Keep F μ μ' ∧ Sq N μ' sid so u t w F G fixed n (putV false V (zs.drop i)) cs W
  | 0, i, μ, V, h, hw, q, hy => by
    refine ⟨μ, ?_, Keep.refl hw, by rw [List.drop_of_length_le (by omega)]; exact q⟩
    rw [space_Space_Commit_L1_eq, space_Space_Commit_L1_B_eq]
    simp -implicitDefEqProofs (disch := omega) only [lt_t, lt_f, gt_t, gt_f, le_t, le_f, ge_t, ge_f, ne_t, ne_f, eq_t, eq_f, w64, chk_true, Option.bind_some, decide_true, decide_false, cond_true, cond_false, seqJ_n, seqJ_r, seqJ_e, headK_c, asB_bool, asI_int, asS_s, asN_int, extrK_0, extrK_1, extrK_2, Bool.not_true, Bool.not_false, Nat.beq_refl]
  | k + 1, i, μ, V, h, hw, q, hy => by
    have hi : i < zs.length := by omega
    have hv := hz _ (getD_mem hi)
    obtain ⟨m1, e1, k1, z1, _⟩ := q.map.set hw hn (i := (zs.getD i 0).toNat) (by omega) false
    rw [show (((zs.getD i 0).toNat : Nat) : Int) = zs.getD i 0 by omega] at e1
    obtain ⟨m2, e2, k2, q2⟩ := commit_loop hz hn hl hyF k (i + 1) m1 _ (by omega) k1.wf (q.mapped k1 z1) (rowKeep hy k1 hyF)
    rw [nsu] at e2
    refine ⟨m2, ?_, k1.trans k2, by rw [drop_cons hi]; exact q2⟩
    rw [space_Space_Commit_L1_eq, space_Space_Commit_L1_B_eq]
    simp -implicitDefEqProofs (disch := omega) only [lt_t, lt_f, gt_t, gt_f, le_t, le_f, ge_t, ge_f, ne_t, ne_f, eq_t, eq_f, w64, chk_true, Option.bind_some, decide_true, decide_false, cond_true, cond_false, seqJ_n, seqJ_r, seqJ_e, headK_c, asB_bool, asI_int, asS_s, asN_int, extrK_0, extrK_1, extrK_2, Bool.not_true, Bool.not_false, Nat.beq_refl, hy.ind, hy.load, nat_toNat, q.c1, e1]
    exact e2
theorem put_store {m : AMem} {so' : AObj} (hso : m.obj sid = some so) (hown : so.own = true) (hver : so.ver = 0) {a b c d v : SV} (hc : so.cells = [a, b, c, d]) {k : Nat} (hk : k < 4) (ho : so' = { so with cells := overA so.cells (0 + k) [v] }) :
    m.store sid 0 (0 + k) [v] = some (m.set sid so') := by
  simp only [AMem.store, hso, Option.bind_some]
  rw [if_pos ⟨hown, hver, by rw [hc]; simp; omega⟩, ho]
end
section
variable {H : Nat → Prop} {N : Nat} {μ : AMem} {x : SV} {fixed n : Nat} {V : Nat → Bool} {cs W : List Int}
theorem nonNil_p {R : Type} (a b c : Nat) (K : Option R) : nonNil (.s (.ptr a b c)) K = K := rfl
theorem storeAt_p {R : Type} (m : AMem) (a b c : Nat) (v : SV) (K : AMem → Option R) : storeAt 1 m (.s (.ptr a b c)) (.s v) K = (m.store a b c [v]).bind K := rfl
theorem spCommit_is (hw : WF μ) (h : Sp H N μ x fixed n V cs W) (hn : n ≤ 5000) (hl : W.length ≤ 100000) (hW : ∀ v ∈ W, 0 ≤ v ∧ v < n) :
    ∃ μ', space_Space_Commit [.s x] μ = some (.s (.int .i64 W.length), μ') ∧ Keep H μ μ' ∧ Sp H N μ' x fixed n (putV false V W) cs [] := by
  obtain ⟨sid, so, u, t, w, F, G, rfl, q, ⟨hs0, hF, hG, hW0⟩, hb⟩ := h
  obtain ⟨m1, e1, k1, q1⟩ := commit_loop hW hn hl (fun j hj => (q.offF j hj).2.1) W.length 0 μ V (by omega) hw q q.row.row
  rw [n0] at e1
  rw [List.drop_zero] at q1
  obtain ⟨q5, k5⟩ := Sq.put (so' := { so with cells := [.int .i64 fixed, u, t, .nilSlice] }) k1.wf q1.low q1.obj q1.own q1.ver rfl q1.map q1.tab (OwnRow.nil _ _ _ _) (fun j hj => ⟨(q1.offF j hj).1, fun h => h, (q1.offF j hj).2.2⟩) (fun j hj => ⟨fun h => h, (q1.offG j hj).2⟩) (fun h => h) q1.len
  have kk := (k1.weak0 hF).trans (k5.weak0 fun j hj => hj ▸ hs0)
  refine ⟨_, ?_, kk, ⟨sid, _, u, t, .nilSlice, F, G, rfl, q5, ⟨hs0, hF, hG, fun j h => h.elim⟩, fun j hj => ⟨(hb j hj).1, by have := (hb j hj).2; have := kk.next; omega⟩⟩⟩
  have hst := put_store (v := .nilSlice) (so' := { so with cells := [.int .i64 fixed, u, t, .nilSlice] }) (k := 3) q1.obj q1.own q1.ver q1.cells (by omega) (by rw [q1.cells]; rfl)
  rw [space_Space_Commit_eq]
  simp -implicitDefEqProofs only [q.c3, q.row.row.len, e1, nonNil_p, ptrAdd_p, loadAt_p, q1.c3, q1.row.row.len, storeAt_p, hst, Option.bind_some, decide_true, decide_false, cond_true, cond_false, seqJ_n, seqJ_r, seqJ_e, headK_c, asB_bool, asI_int, asS_s, asN_int, extrK_0, extrK_1, extrK_2, Bool.not_true, Bool.not_false, Nat.beq_refl]
theorem Mp.less {N M : Nat} {μ : AMem} {x : SV} {n : Nat} {rs : List SV} {wss : List (List Int)} (h : Mp N μ x n rs wss) (hM : M ≤ N) : Mp M μ x n rs wss := by
  obtain ⟨sid, so, lid, lo, ver, hx, hN, hso, hsv, hsc, hN2, hlo, hlv, hlc, hl, hr, hap⟩ := h
  refine ⟨sid, so, lid, lo, ver, hx, by omega, hso, hsv, hsc, by omega, hlo, hlv, hlc, hl, fun j r' ws' hj hws => ?_, hap⟩
  obtain ⟨⟨e, h1⟩, h2⟩ := hr j r' ws' hj hws
  exact ⟨⟨e, h1.less hM⟩, h2⟩
theorem Mz.less {F : Nat → Prop} {N M : Nat} {μ : AMem} {x : SV} {n : Nat} {V : Nat → Bool} (h : Mz F N μ x n V) (hM : M ≤ N) : Mz F M μ x n V := by
  obtain ⟨⟨rs, ws, ⟨wss, hm, hl, h0⟩, hf, hU⟩, hlv⟩ := h
  refine ⟨⟨rs, ws, ⟨wss, hm.less hM, hl, h0⟩, hf, hU⟩, fun j hj => ?_⟩
  obtain ⟨h1, h2⟩ := hlv j hj
  exact ⟨by omega, h2⟩
theorem Tz.less {G : Nat → Prop} {N M : Nat} {μ : AMem} {x : SV} {cs : List Int} (h : Tz G N μ x cs) (hM : M ≤ N) : Tz G M μ x cs := by
  obtain ⟨⟨s, ht, h1, h2⟩, hlv⟩ := h
  refine ⟨⟨s, ht.less hM, h1, h2⟩, fun j hj => ?_⟩
  obtain ⟨h1, h2⟩ := hlv j hj
  exact ⟨by omega, h2⟩
theorem fresh_loop {F G : Nat → Prop} {u t : SV} (hFG : ∀ j, F j → ¬ G j) (hn : n ≤ 5000) (hfx : fixed ≤ n) :
    ∀ (k i : Nat) (μ : AMem), i + k = fixed → WF μ → Mz F N μ u n (fun j => decide (j < i)) → Tz G N μ t cs →
      ∃ μ', space_fresh_L1 [.s u, .s t, .s (.int .i64 fixed)] [.s (.int .i64 i)] μ = some (.exit 0, [.s u, .s t], μ') ∧ Keep F μ μ' ∧ Mz F N μ' u n (fun j => decide (j < fixed)) ∧ Tz G N μ' t cs
  | 0, i, μ, h, hw, hm, ht => by
    obtain rfl : i = fixed := by omega
    refine ⟨μ, ?_, Keep.refl hw, hm, ht⟩
    rw [space_fresh_L1_eq, space_fresh_L1_B_eq]
    simp -implicitDefEqProofs (disch := omega) only [lt_t, lt_f, gt_t, gt_f, le_t, le_f, ge_t, ge_f, ne_t, ne_f, eq_t, eq_f, w64, chk_true, Option.bind_some, decide_true, decide_false, cond_true, cond_false, seqJ_n, seqJ_r, seqJ_e, headK_c, asB_bool, asI_int, asS_s, asN_int, extrK_0, extrK_1, extrK_2, Bool.not_true, Bool.not_false, Nat.beq_refl]
  | k + 1, i, μ, h, hw, hm, ht => by
    obtain ⟨m1, e1, k1, z1, _⟩ := hm.set hw hn (i := i) (by omega) true
    obtain ⟨m2, e2, k2, q2, q3⟩ := fresh_loop hFG hn hfx k (i + 1) m1 (by omega) k1.wf (z1.cong fun j hj => by
      show (if j = i then true else decide (j < i)) = decide (j < i + 1)
      by_cases h1 : j = i
      · rw [if_pos h1, decide_eq_true (by omega)]
      · rw [if_neg h1]
        by_cases h2 : j < i
        · rw [decide_eq_true h2, decide_eq_true (by omega)]
        · rw [decide_eq_false h2, decide_eq_false (by omega)]) (ht.keep k1 hFG)
    rw [nsu] at e2
    have ei : IntKind.wrap .i64 ((i : Int) + 1) = (i : Int) + 1 := wr (by omega)
    refine ⟨m2, ?_, k1.trans k2, q2, q3⟩
    rw [space_fresh_L1_eq, space_fresh_L1_B_eq]
    simp -implicitDefEqProofs only [lt_t (show (i : Int) < (fixed : Int) by omega), e1, ei, Option.bind_some, decide_true, decide_false, cond_true, cond_false, seqJ_n, seqJ_r, seqJ_e, headK_c, asB_bool, asI_int, asS_s, asN_int, extrK_0, extrK_1, extrK_2, Bool.not_true, Bool.not_false, Nat.beq_refl]
    exact e2
theorem fresh_is (hw : WF μ) (h1 : 1 ≤ n) (h2 : n ≤ 4096) (hfx : fixed ≤ n) :
    ∃ u t F G μ', space_fresh [.s (.int .i64 n), .s (.int .i64 fixed)] μ = some (.tuple [.s u, .s t], μ') ∧ Same μ μ' ∧ Mz F μ.next μ' u n (fun j => decide (j < fixed)) ∧ Tz G μ.next μ' t (List.replicate n 0) ∧ ∀ j, F j → ¬ G j := by
  obtain ⟨u, F, m1, e1, k1, z1, f1⟩ := mapNew_z hw h1 h2
  obtain ⟨t, G, m2, e2, k2, z2, f2⟩ := tabNew_z k1.wf ⟨h1, h2⟩
  have hFG : ∀ j, F j → ¬ G j := fun j hF hG => by
    have := f1 j hF
    have := (z2.lives j hG).1
    omega
  obtain ⟨m3, e3, k3, q1, q2⟩ := fresh_loop (N := μ.next) hFG (by omega) hfx fixed 0 m2 (by omega) k2.wf ((z1.keep k2 fun _ h => h.elim).cong fun j hj => by rw [decide_eq_false (by omega)]) (z2.less k1.next)
  rw [n0] at e3
  refine ⟨u, t, F, G, m3, ?_, keepSame hw (k1.trans k2) k3 fun j hj => (z1.lives j hj).1, q1, q2, hFG⟩
  rw [space_fresh_eq]
  simp -implicitDefEqProofs only [e1, e2, e3, Option.bind_some, decide_true, decide_false, cond_true, cond_false, seqJ_n, seqJ_r, seqJ_e, headK_c, asB_bool, asI_int, asS_s, asN_int, extrK_0, extrK_1, extrK_2, Bool.not_true, Bool.not_false, Nat.beq_refl]
theorem spNew_is (hw : WF μ) (h1 : 1 ≤ n) (h2 : n ≤ 4096) (hfx : fixed ≤ n) :
    ∃ x H μ', space_New [.s (.int .i64 n), .s (.int .i64 fixed)] μ = some (.tuple [.s x, .s (.int .i64 0)], μ') ∧ Same μ μ' ∧ Sp H μ.next μ' x fixed n (fun j => decide (j < fixed)) (List.replicate n 0) [] := by
  obtain ⟨m0, hm0⟩ : ∃ m0, m0 = ((μ.bump 4).set (μ.next + 2) (rowObj [.int .i64 fixed, .nilPtr, .nilPtr, .nilSlice] 4 54 (some 1))) := ⟨_, rfl⟩
  have hs0 : Same μ m0 := by rw [hm0]; exact newS (Keep.refl hw) (by omega) _
  have hn0 : m0.next = μ.next + 4 := by rw [hm0]; rfl
  obtain ⟨u, t, F, G, m1, e1, k1, z1, z2, hFG⟩ := fresh_is hs0.wf h1 h2 hfx
  have hso : m1.obj (μ.next + 2) = some (rowObj [.int .i64 fixed, .nilPtr, .nilPtr, .nilSlice] 4 54 (some 1)) := k1.old _ _ (by rw [hm0]; simp) fun h => h
  have hF : ∀ j, F j → μ.next + 4 ≤ j := fun j hj => by have := (z1.lives j hj).1; omega
  have hG : ∀ j, G j → μ.next + 4 ≤ j := fun j hj => by have := (z2.lives j hj).1; omega
  obtain ⟨q5, k5⟩ := Sq.put (N := μ.next) (so' := { rowObj [.int .i64 fixed, .nilPtr, .nilPtr, .nilSlice] 4 54 (some 1) with cells := [.int .i64 fixed, u, t, .nilSlice] }) k1.wf (by omega) hso rfl rfl rfl (z1.less (by omega)) (z2.less (by omega)) (OwnRow.nil _ _ _ _) (fun j hj => ⟨hFG j hj, fun h => h, by have := hF j hj; omega⟩) (fun j hj => ⟨fun h => h, by have := hG j hj; omega⟩) (fun h => h) (by simp)
  refine ⟨.ptr (μ.next + 2) 0 0, fun j => F j ∨ G j ∨ j = μ.next + 2, _, ?_, keepSame hw (hs0.trans k1) k5 fun j hj => by omega, ⟨_, _, u, t, .nilSlice, F, G, rfl, q5, ⟨.inr (.inr rfl), fun j h => .inl h, fun j h => .inr (.inl h), fun j h => h.elim⟩, fun j hj => ?_⟩⟩
  rotate_left
  · have hk1 := k1.next
    rcases hj with h | h | h
    · obtain ⟨g1, o, g2⟩ := z1.lives j h
      have := k1.wf.lt g2
      exact ⟨by omega, by simpa using this⟩
    · obtain ⟨g1, o, g2⟩ := z2.lives j h
      have := k1.wf.lt g2
      exact ⟨by omega, by simpa using this⟩
    · exact ⟨by omega, by simp only [set_next]; omega⟩
  have s1 := put_store (v := u) (so' := { rowObj [.int .i64 fixed, .nilPtr, .nilPtr, .nilSlice] 4 54 (some 1) with cells := [.int .i64 fixed, u, .nilPtr, .nilSlice] }) (k := 1) hso rfl rfl rfl (by omega) rfl
  have s2 := put_store (m := m1.set (μ.next + 2) { rowObj [.int .i64 fixed, .nilPtr, .nilPtr, .nilSlice] 4 54 (some 1) with cells := [.int .i64 fixed, u, .nilPtr, .nilSlice] }) (v := t) (so' := { rowObj [.int .i64 fixed, .nilPtr, .nilPtr, .nilSlice] 4 54 (some 1) with cells := [.int .i64 fixed, u, t, .nilSlice] }) (k := 2) (set_self ..) rfl rfl rfl (by omega) rfl
  rw [set_set4] at s2
  rw [space_New_eq]
  simp -implicitDefEqProofs only [lt_f (show (1 : Int) ≤ (n : Int) by omega), gt_f (show (n : Int) ≤ 4096 by omega), lt_f (show (0 : Int) ≤ (fixed : Int) by omega), gt_f (show (fixed : Int) ≤ (n : Int) by omega), ← hm0, e1, s1, s2, Option.bind_some, decide_true, decide_false, cond_true, cond_false, seqJ_n, seqJ_r, seqJ_e, headK_c, asB_bool, asI_int, asS_s, asN_int, extrK_0, extrK_1, extrK_2, Bool.not_true, Bool.not_false, Nat.beq_refl]
end
end Go.Proofs.Ytkikncdhmifkaaa
/- Spaces: keep. -/
namespace Go.Proofs.Ytkikncdhmifkaaa
open Go Go.Proofs.Ytkikncdhmifkaaa.E
set_option linter.unusedVariables false
set_option linter.unusedSimpArgs false
theorem keepFresh {H S : Nat → Prop} {μ m m' : AMem} (hw : WF μ) (h : Keep H μ m) (k : Keep S m m') (hS : ∀ j, S j → H j ∨ μ.next ≤ j) : Keep H μ m' :=
  ⟨k.wf, Nat.le_trans h.next k.next, fun id o ho hh => k.old id o (h.old id o ho hh) fun hs => by
    rcases hS id hs with h1 | h1
    · exact hh h1
    · have := hw.lt ho; omega, fun id hi hno => k.low id (by have := h.next; omega) (h.low id hi hno)⟩
def keepOk (fixed n : Nat) (v : Int) : Bool := decide ((fixed : Int) ≤ v) && decide (v < (n : Int))
section
variable {N : Nat} {sid : Nat} {so : AObj} {u t w : SV} {F G : Nat → Prop} {fixed n : Nat} {cs W : List Int}
theorem keepMay_loop {μ : AMem} {V : Nat → Bool} {y : SV} {ls : List Int} (q : Sq N μ sid so u t w F G fixed n V cs W) (hy : IsRow μ .i64 y ls) (hl : ls.length ≤ 10000) :
    ∀ k i : Nat, i + k = ls.length → space_Space_Keep_L1 [.s (.ptr sid 0 0), .s y, .s y, .s (.int .i64 ls.length)] [.s (.int .i64 i)] μ = if (ls.drop i).all (keepOk fixed n) then some (.exit 0, [.s (.ptr sid 0 0), .s y], μ) else some (.ret, [.s (.bool false)], μ)
  | 0, i, h => by
    rw [List.drop_of_length_le (by omega)]
    rw [space_Space_Keep_L1_eq, space_Space_Keep_L1_B_eq]
    simp -implicitDefEqProofs (disch := omega) only [lt_t, lt_f, gt_t, gt_f, le_t, le_f, ge_t, ge_f, ne_t, ne_f, eq_t, eq_f, w64, chk_true, Option.bind_some, decide_true, decide_false, cond_true, cond_false, seqJ_n, seqJ_r, seqJ_e, headK_c, asB_bool, asI_int, asS_s, asN_int, extrK_0, extrK_1, extrK_2, Bool.not_true, Bool.not_false, Nat.beq_refl, List.all_nil]
    rfl
  | k + 1, i, h => by
    have hi : i < ls.length := by omega
    have ih := keepMay_loop q hy hl k (i + 1) (by omega)
    rw [nsu] at ih
    rw [drop_cons hi, List.all_cons]
    rw [space_Space_Keep_L1_eq, space_Space_Keep_L1_B_eq]
    have a1 := fun {R : Type} (K : AV → Option R) => hy.ind (i := (i : Int)) (by omega) (by omega) K
    have a2 := fun {R : Type} (K : AV → Option R) => hy.load (i := (i : Int)) (by omega) (by omega) K
    rw [nat_toNat] at a2
    have ei : IntKind.wrap .i64 ((i : Int) + 1) = (i : Int) + 1 := wr (by omega)
    have ci := lt_t (show (i : Int) < (ls.length : Int) by omega)
    by_cases c1 : (fixed : Int) ≤ ls.getD i 0
    · by_cases c2 : ls.getD i 0 < (n : Int)
      · have hk : keepOk fixed n (ls.getD i 0) = true := by unfold keepOk; rw [decide_eq_true c1, decide_eq_true c2]; rfl
        rw [hk, Bool.true_and, ← ih]
        simp -implicitDefEqProofs only [ci, a1, a2, q.c0, q.c1, mapLen_is q.map, lt_f c1, ge_f c2, ei, Option.bind_some, decide_true, decide_false, cond_true, cond_false, seqJ_n, seqJ_r, seqJ_e, headK_c, asB_bool, asI_int, asS_s, asN_int, extrK_0, extrK_1, extrK_2, Bool.not_true, Bool.not_false, Nat.beq_refl]
      · have hk : keepOk fixed n (ls.getD i 0) = false := by unfold keepOk; rw [decide_eq_false c2, Bool.and_false]
        rw [hk, Bool.false_and]
        simp -implicitDefEqProofs only [ci, a1, a2, q.c0, q.c1, mapLen_is q.map, lt_f c1, ge_t (show (n : Int) ≤ ls.getD i 0 by omega), Option.bind_some, decide_true, decide_false, cond_true, cond_false, seqJ_n, seqJ_r, seqJ_e, headK_c, asB_bool, asI_int, asS_s, asN_int, extrK_0, extrK_1, extrK_2, Bool.not_true, Bool.not_false, Nat.beq_refl]
        rfl
    · have hk : keepOk fixed n (ls.getD i 0) = false := by unfold keepOk; rw [decide_eq_false c1, Bool.false_and]
      rw [hk, Bool.false_and]
      simp -implicitDefEqProofs only [ci, a1, a2, q.c0, lt_t (show ls.getD i 0 < (fixed : Int) by omega), Option.bind_some, decide_true, decide_false, cond_true, cond_false, seqJ_n, seqJ_r, seqJ_e, headK_c, asB_bool, asI_int, asS_s, asN_int, extrK_0, extrK_1, extrK_2, Bool.not_true, Bool.not_false, Nat.beq_refl]
      rfl
theorem keepSet_loop {y : SV} {zs : List Int} (hz : ∀ v ∈ zs, 0 ≤ v ∧ v < n) (hn : n ≤ 5000) (hl : zs.length ≤ 100000) (hyF : ∀ j, F j → ¬ isId y j) :
    ∀ (k i : Nat) (μ : AMem) (V : Nat → Bool), i + k = zs.length → WF μ → Sq N μ sid so u t w F G fixed n V cs W → IsRow μ .i64 y zs →
      ∃ μ', space_Space_Keep_L2 [.s (.ptr sid 0 0), .s y, .s (.int .i64 zs.length)] [.s (.int .i64 i)] μ = some (.exit 2, [.s (.ptr sid 0 0)], μ') ∧ Keep F μ μ' ∧ Sq N μ' sid so u t w F G fixed n (putV true V (zs.drop i)) cs W
  | 0, i, μ, V, h, hw, q, hy => by
    refine ⟨μ, ?_, Keep.refl hw, by rw [List.drop_of_length_le (by omega)]; exact q⟩
    rw [space_Space_Keep_L2_eq, space_Space_Keep_L2_B_eq]
    simp -implicitDefEqProofs (disch := omega) only [lt_t, lt_f, gt_t, gt_f, le_t, le_f, ge_t, ge_f, ne_t, ne_f, eq_t, eq_f, w64, chk_true, Option.bind_some, decide_true, decide_false, cond_true, cond_false, seqJ_n, seqJ_r, seqJ_e, headK_c, asB_bool, asI_int, asS_s, asN_int, extrK_0, extrK_1, extrK_2, Bool.not_true, Bool.not_false, Nat.beq_refl]
  | k + 1, i, μ, V, h, hw, q, hy => by
    have hi : i < zs.length := by omega
    have hv := hz _ (getD_mem hi)
    obtain ⟨m1, e1, k1, z1, _⟩ := q.map.set hw hn (i := (zs.getD i 0).toNat) (by omega) true
    rw [show (((zs.getD i 0).toNat : Nat) : Int) = zs.getD i 0 by omega] at e1
    obtain ⟨m2, e2, k2, q2⟩ := keepSet_loop hz hn hl hyF k (i + 1) m1 _ (by omega) k1.wf (q.mapped k1 z1) (rowKeep hy k1 hyF)
    rw [nsu] at e2
    refine ⟨m2, ?_, k1.trans k2, by rw [drop_cons hi]; exact q2⟩
    rw [space_Space_Keep_L2_eq, space_Space_Keep_L2_B_eq]
    simp -implicitDefEqProofs (disch := omega) only [lt_t, lt_f, gt_t, gt_f, le_t, le_f, ge_t, ge_f, ne_t, ne_f, eq_t, eq_f, w64, chk_true, Option.bind_some, decide_true, decide_false, cond_true, cond_false, seqJ_n, seqJ_r, seqJ_e, headK_c, asB_bool, asI_int, asS_s, asN_int, extrK_0, extrK_1, extrK_2, Bool.not_true, Bool.not_false, Nat.beq_refl, hy.ind, hy.load, nat_toNat, nonNil_p, ptrAdd_p, loadAt_p, q.c1, e1]
    exact e2
end
section
variable {H : Nat → Prop} {N : Nat} {μ : AMem} {x : SV} {fixed n : Nat} {V : Nat → Bool} {cs W : List Int}
theorem spKeep_is (hw : WF μ) (hN : N ≤ μ.next) (h : Sp H N μ x fixed n V cs W) (h1 : 1 ≤ n) (h2 : n ≤ 4096) (hfx : fixed ≤ n) {y : SV} {ls : List Int} (hy : IsRow μ .i64 y ls) (hyH : ∀ j, isId y j → ¬ H j) (hl : ls.length ≤ 10000) :
    (ls.all (keepOk fixed n) = false → space_Space_Keep [.s x, .s y] μ = some (.s (.bool false), μ)) ∧
    (ls.all (keepOk fixed n) = true → ∃ μ' H', space_Space_Keep [.s x, .s y] μ = some (.s (.bool true), μ') ∧ Keep H μ μ' ∧ (∀ j, H' j → H j ∨ μ.next ≤ j) ∧ Sp H' N μ' x fixed n (putV true (fun j => decide (j < fixed)) ls) (addZ (List.replicate n 0) ls) []) := by
  obtain ⟨sid, so, u, t, w, F, G, rfl, q, ⟨hs0, hF, hG, hW0⟩, hb⟩ := h
  have hmay := keepMay_loop q hy hl ls.length 0 (by omega)
  rw [n0, List.drop_zero] at hmay
  refine ⟨fun hno => ?_, fun hok => ?_⟩
  · rw [hno] at hmay
    simp only [Bool.false_eq_true, if_false] at hmay
    rw [space_Space_Keep_eq, hy.len]
    simp -implicitDefEqProofs only [hmay, Option.bind_some, decide_true, decide_false, cond_true, cond_false, seqJ_n, seqJ_r, seqJ_e, headK_c, asB_bool, asI_int, asS_s, asN_int, extrK_0, extrK_1, extrK_2, Bool.not_true, Bool.not_false, Nat.beq_refl]
  · rw [hok] at hmay
    simp only [if_true] at hmay
    have hls : ∀ v ∈ ls, (fixed : Int) ≤ v ∧ v < n := fun v hv => by
      have := (List.all_eq_true.mp hok) v hv
      simp only [keepOk, Bool.and_eq_true, decide_eq_true_eq] at this
      exact this
    obtain ⟨u', t', F', G', m1, e1, k1, z1, z2, hFG⟩ := fresh_is hw h1 h2 hfx
    have hF' : ∀ j, F' j → μ.next ≤ j := fun j hj => (z1.lives j hj).1
    have hG' : ∀ j, G' j → μ.next ≤ j := fun j hj => (z2.lives j hj).1
    have hyl : ∀ j, isId y j → j < μ.next := fun j hj => by
      obtain ⟨o, ho⟩ := row_lives hy hj
      exact hw.lt ho
    have hys : ¬ isId y sid := fun h => hyH sid h hs0
    have hwl : ∀ j, isId w j → j < μ.next := fun j hj => (hb j (hW0 j hj)).2
    have hsl := (hb sid hs0).2
    have q1 := q.same k1
    obtain ⟨q2, k2⟩ := Sq.put (so' := { so with cells := [.int .i64 fixed, u', t, w] }) k1.wf q1.low q1.obj q1.own q1.ver rfl (z1.less hN) q1.tab q1.row (fun j hj => ⟨fun h => by have := (hb j (hG j h)).2; have := hF' j hj; omega, fun h => by have := hwl j h; have := hF' j hj; omega, by have := hF' j hj; omega⟩) (fun j hj => q1.offG j hj) q1.offW q1.len
    have z2' := z2.keep k2 fun j hj h => by have := hG' j h; omega
    obtain ⟨q3, k3⟩ := Sq.put (so' := { so with cells := [.int .i64 fixed, u', t', w] }) k2.wf q2.low q2.obj q2.own q2.ver rfl q2.map (z2'.less hN) q2.row (fun j hj => ⟨hFG j hj, (q2.offF j hj).2⟩) (fun j hj => ⟨fun h => by have := hwl j h; have := hG' j hj; omega, by have := hG' j hj; omega⟩) q2.offW (by simp)
    have s1 := put_store (v := u') (so' := { so with cells := [.int .i64 fixed, u', t, w] }) (k := 1) q1.obj q1.own q1.ver q1.cells (by omega) (by rw [q1.cells]; rfl)
    have s2 := put_store (v := t') (so' := { so with cells := [.int .i64 fixed, u', t', w] }) (k := 2) q2.obj q2.own q2.ver q2.cells (by omega) rfl
    have hy3 : IsRow ((m1.set sid { so with cells := [.int .i64 fixed, u', t, w] }).set sid { so with cells := [.int .i64 fixed, u', t', w] }) .i64 y ls := rowKeep (rowKeep (hy.same k1) k2 fun j hj h => hys (hj ▸ h)) k3 fun j hj h => hys (hj ▸ h)
    obtain ⟨m4, e4, k4, z4⟩ := q3.tab.add k3.wf hy3 (fun j hj h => by have := hyl j hj; have := hG' j h; omega) (by omega) (fits_zero _ _ (by omega)) (by
      rw [List.all_eq_true]
      intro v hv
      have := hls v hv
      unfold mayI; rw [List.length_replicate, decide_eq_true (by omega), decide_eq_true (by omega)]; rfl)
    have q4 := q3.tabbed k4 z4 (addZ_len ..)
    have hy4 : IsRow m4 .i64 y ls := rowKeep hy3 k4 fun j hj h => by have := hyl j h; have := hG' j hj; omega
    obtain ⟨m5, e5, k5, q5⟩ := keepSet_loop (fun v hv => by have := hls v hv; omega) (by omega) (by omega) (fun j hj h => by have := hyl j h; have := hF' j hj; omega) ls.length 0 m4 _ (by omega) k4.wf q4 hy4
    rw [n0] at e5
    rw [List.drop_zero] at q5
    obtain ⟨q6, k6⟩ := Sq.put (so' := { so with cells := [.int .i64 fixed, u', t', .nilSlice] }) k5.wf q5.low q5.obj q5.own q5.ver rfl q5.map q5.tab (OwnRow.nil _ _ _ _) (fun j hj => ⟨(q5.offF j hj).1, fun h => h, (q5.offF j hj).2.2⟩) (fun j hj => ⟨fun h => h, (q5.offG j hj).2⟩) (fun h => h) q5.len
    have s3 := put_store (v := .nilSlice) (so' := { so with cells := [.int .i64 fixed, u', t', .nilSlice] }) (k := 3) q5.obj q5.own q5.ver q5.cells (by omega) rfl
    have kk : Keep H μ _ := keepFresh hw (keepFresh hw (keepFresh hw (keepFresh hw (keepFresh hw (Same.kn k1) k2 fun j hj => .inl (hj ▸ hs0)) k3 fun j hj => .inl (hj ▸ hs0)) k4 fun j hj => .inr (hG' j hj)) k5 fun j hj => .inr (hF' j hj)) k6 fun j hj => .inl (hj ▸ hs0)
    have kn := kk.next
    refine ⟨_, fun j => H j ∨ F' j ∨ G' j, ?_, kk, fun j hj => hj.imp (fun h => h) fun h => h.elim (hF' j) (hG' j), ⟨sid, _, u', t', .nilSlice, F', G', rfl, q6, ⟨.inl hs0, fun j h => .inr (.inl h), fun j h => .inr (.inr h), fun j h => h.elim⟩, fun j hj => ?_⟩⟩
    rotate_left
    · rcases hj with h | h | h
      · exact ⟨(hb j h).1, by have := (hb j h).2; omega⟩
      · obtain ⟨g1, o, g2⟩ := q6.map.lives j h
        exact ⟨g1, k6.wf.lt g2⟩
      · obtain ⟨g1, o, g2⟩ := q6.tab.lives j h
        exact ⟨g1, k6.wf.lt g2⟩
    · rw [space_Space_Keep_eq, hy.len]
      simp -implicitDefEqProofs only [hmay, nonNil_p, ptrAdd_p, loadAt_p, storeAt_p, q.c1, q.c0, mapLen_is q.map, e1, s1, s2, q3.c2, e4, hy.len, e5, s3, chk_true, Option.bind_some, decide_true, decide_false, cond_true, cond_false, seqJ_n, seqJ_r, seqJ_e, headK_c, asB_bool, asI_int, asS_s, asN_int, extrK_0, extrK_1, extrK_2, Bool.not_true, Bool.not_false, Nat.beq_refl]
end
end Go.Proofs.Ytkikncdhmifkaaa
/- The document's space: only these are kept. -/
namespace Go.Proofs.Ytkikncdhmifkaaa
open Go Go.Proofs.Ytkikncdhmifkaaa.E
set_option linter.unusedVariables false
set_option linter.unusedSimpArgs false
section
variable {N sid n fixed : Nat} {μ μ' : AMem} {so : AObj} {s w : SV} {cs : List Int} {bs : List Bool}
theorem dKeepMay_loop {y : SV} {ls : List Int} (h : Dq N μ sid so s w n fixed cs bs) (hy : IsRow μ .i64 y ls) (hl : ls.length ≤ 10000) :
    ∀ k i : Nat, i + k = ls.length → overdubref10_Space_Keep_L1 [.s (.ptr sid 0 0), .s y, .s (.int .i64 (ls.length : Int))] [.s (.int .i64 (i : Int))] μ = if (ls.drop i).all (keepOk fixed n) then some (.exit 0, [.s (.ptr sid 0 0), .s y], μ) else some (.ret, [.s (.bool false)], μ)
  | 0, i, hi => by
    obtain rfl : i = ls.length := by omega
    rw [overdubref10_Space_Keep_L1_eq, overdubref10_Space_Keep_L1_B_eq, List.drop_eq_nil_of_le (Nat.le_refl _)]
    simp -implicitDefEqProofs only [lt_f (Int.le_refl (ls.length : Int)), List.all_nil, if_true, Option.bind_some, decide_true, decide_false, cond_true, cond_false, seqJ_n, seqJ_r, seqJ_e, headK_c, asB_bool, asI_int, asS_s, asN_int, extrK_0, extrK_1, extrK_2, Bool.not_true, Bool.not_false, Nat.beq_refl]
  | k + 1, i, hi => by
    have ih := dKeepMay_loop h hy hl k (i + 1) (by omega)
    have hil : i < ls.length := by omega
    have ei : IntKind.wrap .i64 ((i : Int) + 1) = ((i + 1 : Nat) : Int) := by rw [wr (by omega)]; rfl
    have c1 := lt_t (show (i : Int) < (ls.length : Int) by omega)
    have g1 := fun {R : Type} (K : AV → Option R) => hy.ind (i := (i : Int)) (by omega) (by omega) K
    have l1 := fun {R : Type} (K : AV → Option R) => hy.load (i := (i : Int)) (by omega) (by omega) K
    rw [overdubref10_Space_Keep_L1_eq, overdubref10_Space_Keep_L1_B_eq, drop_cons hil, List.all_cons]
    unfold keepOk at ih ⊢
    by_cases h1 : ls.getD i 0 < (fixed : Int)
    · rw [decide_eq_false (p := (fixed : Int) ≤ ls.getD i 0) (by omega)]
      simp -implicitDefEqProofs only [c1, g1, l1, nat_toNat, h.c1, lt_t h1, Bool.false_and, Bool.false_eq_true, if_false, Option.bind_some, decide_true, decide_false, cond_true, cond_false, seqJ_n, seqJ_r, seqJ_e, headK_c, asB_bool, asI_int, asS_s, asN_int, extrK_0, extrK_1, extrK_2, Bool.not_true, Bool.not_false, Nat.beq_refl]
    · rw [decide_eq_true (p := (fixed : Int) ≤ ls.getD i 0) (by omega)]
      by_cases h2 : ls.getD i 0 < (n : Int)
      · rw [decide_eq_true h2]
        simp -implicitDefEqProofs only [c1, g1, l1, nat_toNat, h.c1, h.c0, lt_f (show (fixed : Int) ≤ ls.getD i 0 by omega), ge_f h2, ei, Bool.true_and, Option.bind_some, decide_true, decide_false, cond_true, cond_false, seqJ_n, seqJ_r, seqJ_e, headK_c, asB_bool, asI_int, asS_s, asN_int, extrK_0, extrK_1, extrK_2, Bool.not_true, Bool.not_false, Nat.beq_refl]
        exact ih
      · rw [decide_eq_false h2]
        simp -implicitDefEqProofs only [c1, g1, l1, nat_toNat, h.c1, h.c0, lt_f (show (fixed : Int) ≤ ls.getD i 0 by omega), ge_t (show (n : Int) ≤ ls.getD i 0 by omega), Bool.true_and, Bool.false_and, Bool.false_eq_true, if_false, Option.bind_some, decide_true, decide_false, cond_true, cond_false, seqJ_n, seqJ_r, seqJ_e, headK_c, asB_bool, asI_int, asS_s, asN_int, extrK_0, extrK_1, extrK_2, Bool.not_true, Bool.not_false, Nat.beq_refl]
theorem dKeepInc_loop {y : SV} {ls : List Int} (hls : ∀ v ∈ ls, 0 ≤ v ∧ v < n) (hl : ls.length ≤ 10000) (hys : ∀ j, isId s j → ¬ isId y j) :
    ∀ (k i : Nat) (m : AMem) (c : List Int), i + k = ls.length → WF m → Dq N m sid so s w n fixed c bs → IsRow m .i64 y ls → fits c k →
      ∃ m', overdubref10_Space_Keep_L2 [.s (.ptr sid 0 0), .s y, .s (.int .i64 (ls.length : Int))] [.s (.int .i64 (i : Int))] m = some (.exit 2, [], m') ∧ Keep (isId s) m m' ∧ Dq N m' sid so s w n fixed (addZ c (ls.drop i)) bs
  | 0, i, m, c, hi, hw, h, hy, hf => by
    obtain rfl : i = ls.length := by omega
    refine ⟨m, ?_, Keep.refl hw, by rw [List.drop_eq_nil_of_le (Nat.le_refl _)]; exact h⟩
    rw [overdubref10_Space_Keep_L2_eq, overdubref10_Space_Keep_L2_B_eq]
    simp -implicitDefEqProofs only [lt_f (Int.le_refl (ls.length : Int)), Option.bind_some, decide_true, decide_false, cond_true, cond_false, seqJ_n, seqJ_r, seqJ_e, headK_c, asB_bool, asI_int, asS_s, asN_int, extrK_0, extrK_1, extrK_2, Bool.not_true, Bool.not_false, Nat.beq_refl]
  | k + 1, i, m, c, hi, hw, h, hy, hf => by
    have hil : i < ls.length := by omega
    have hlc := h.lc
    have hv := hls _ (getD_mem hil)
    obtain ⟨v, hv2⟩ : ∃ v : Nat, ls.getD i 0 = v := ⟨(ls.getD i 0).toNat, by omega⟩
    have ei : IntKind.wrap .i64 ((i : Int) + 1) = ((i + 1 : Nat) : Int) := by rw [wr (by omega)]; rfl
    have c1 := lt_t (show (i : Int) < (ls.length : Int) by omega)
    have g1 := fun {R : Type} (K : AV → Option R) => hy.ind (i := (i : Int)) (by omega) (by omega) K
    have l1 := fun {R : Type} (K : AV → Option R) => hy.load (i := (i : Int)) (by omega) (by omega) K
    have g2 := fun {R : Type} (K : AV → Option R) => h.row.row.ind (i := (v : Int)) (by omega) (by omega) K
    have l2 := fun {R : Type} (K : AV → Option R) => h.row.row.load (i := (v : Int)) (by omega) (by omega) K
    have hg := getD_fit hf (by omega) v
    have ew : IntKind.wrap .i64 (c.getD v 0 + 1) = c.getD v 0 + 1 := wr (by omega)
    obtain ⟨m1, s1, s2, s3, _⟩ := storeK hw h.row (i := v) (by omega) (c.getD v 0 + 1)
    have hinc : c.set v (c.getD v 0 + 1) = incZ c (ls.getD i 0) := by rw [hv2]; rfl
    rw [hinc] at s3
    obtain ⟨m2, q1, q2, q3⟩ := dKeepInc_loop hls hl hys k (i + 1) m1 _ (by omega) s2.wf (h.counted s2 s3 (incZ_len _ _)) (rowKeep hy s2 fun j hj hyj => hys j hj hyj) (incZ_fit hf (by omega) _)
    refine ⟨m2, ?_, s2.trans q2, by rw [drop_cons hil]; exact q3⟩
    rw [overdubref10_Space_Keep_L2_eq, overdubref10_Space_Keep_L2_B_eq]
    simp -implicitDefEqProofs only [c1, nonNil_p, ptrAdd_p, loadAt_p, h.c2, g1, l1, nat_toNat, hv2, g2, l2, ew, s1, ei, Option.bind_some, decide_true, decide_false, cond_true, cond_false, seqJ_n, seqJ_r, seqJ_e, headK_c, asB_bool, asI_int, asS_s, asN_int, extrK_0, extrK_1, extrK_2, Bool.not_true, Bool.not_false, Nat.beq_refl]
    exact q1
theorem dKeep_is (hw : WF μ) (hN : N ≤ μ.next) (h : Dq N μ sid so s w n fixed cs bs) (hn : 1 ≤ n ∧ n ≤ 5000) {y : SV} {ls : List Int} (hy : IsRow μ .i64 y ls) (hl : ls.length ≤ 10000) (hysid : ¬ isId y sid) :
    (ls.all (keepOk fixed n) = false → overdubref10_Space_Keep [.s (.ptr sid 0 0), .s y] μ = some (.s (.bool false), μ)) ∧
    (ls.all (keepOk fixed n) = true → ∃ m so' s' w', overdubref10_Space_Keep [.s (.ptr sid 0 0), .s y] μ = some (.s (.bool true), m) ∧ Keep (fun j => j = sid) μ m ∧ Dq N m sid so' s' w' n fixed (addZ (List.replicate n 0) ls) (List.replicate n false) ∧ ∀ j, isId s' j ∨ isId w' j → μ.next ≤ j) := by
  have e1 := dKeepMay_loop h hy hl ls.length 0 (Nat.zero_add _)
  rw [n0, List.drop_zero] at e1
  refine ⟨fun ha => ?_, fun ha => ?_⟩
  · rw [ha] at e1
    simp only [Bool.false_eq_true, if_false] at e1
    rw [overdubref10_Space_Keep_eq]
    simp -implicitDefEqProofs only [hy.len, e1, Option.bind_some, decide_true, decide_false, cond_true, cond_false, seqJ_n, seqJ_r, seqJ_e, headK_c, asB_bool, asI_int, asS_s, asN_int, extrK_0, extrK_1, extrK_2, Bool.not_true, Bool.not_false, Nat.beq_refl]
  · rw [ha] at e1
    simp only [if_true] at e1
    have hsl := hw.lt h.obj
    have k1 : Same μ ((μ.bump 18).set (μ.next + 6) (rowObj (zerosA [.int .i64 0] n) 1 3 (some n))) := Same.bumpSet hw (by omega) _
    have hs1 := k1.old _ _ h.obj fun h => h
    have hnx1 : ((μ.bump 18).set (μ.next + 6) (rowObj (zerosA [.int .i64 0] n) 1 3 (some n))).next = μ.next + 18 := by simp
    have hr1 : OwnRow N ((μ.bump 18).set (μ.next + 6) (rowObj (zerosA [.int .i64 0] n) 1 3 (some n))) .i64 3 (.slice (μ.next + 6) 0 0 n) (List.replicate n 0) :=
      OwnRow.new (o := rowObj (zerosA [.int .i64 0] n) 1 3 (some n)) (by simp) (by omega) (by simp) rfl rfl rfl rfl (by show zerosA _ _ = _; rw [zerosA_rep]; simp)
    have hf11 : ((μ.bump 18).set (μ.next + 6) (rowObj (zerosA [.int .i64 0] n) 1 3 (some n))).obj (μ.next + 11) = none := by rw [set_obj, if_neg (by omega)]; exact freshB hw 18 11
    have hf6 : (μ.bump 18).obj (μ.next + 6) = none := freshB hw 18 6
    have hc0 : (μ.bump 18).cell sid 0 (0 + 0) = some (.int .i64 n) := by rw [bump_cell]; exact h.c0
    generalize hM1 : (μ.bump 18).set (μ.next + 6) (rowObj (zerosA [.int .i64 0] n) 1 3 (some n)) = M1 at *
    obtain ⟨so1, hso1⟩ : ∃ so1 : AObj, so1 = { so with cells := [.int .i64 n, .int .i64 fixed, .slice (μ.next + 6) 0 0 n, w] } := ⟨_, rfl⟩
    have st1 : M1.store sid 0 (0 + 2) [.slice (μ.next + 6) 0 0 n] = some (M1.set sid so1) := by
      simp only [AMem.store, hs1, Option.bind_some]
      rw [if_pos ⟨h.own, h.ver, by rw [h.cells]; simp⟩, h.cells, hso1]; rfl
    have k2 : Keep (fun j => j = sid) M1 (M1.set sid so1) := Keep.set k1.wf hs1 rfl
    have hf11b : (M1.set sid so1).obj (μ.next + 11) = none := by rw [set_obj, if_neg (by omega)]; exact hf11
    have hlt : μ.next + 11 < (M1.set sid so1).next := by rw [set_next, hnx1]; omega
    have kA : Keep (fun j => j = sid) μ (M1.set sid so1) := (k1.weak0 fun _ h => h.elim).trans k2
    have kB : Keep (fun j => j = sid) μ ((M1.set sid so1).set (μ.next + 11) (rowObj (zerosA [.bool false] n) 1 4 (some n))) := Keep.setS hw kA (by omega) hlt
    have hs3 : ((M1.set sid so1).set (μ.next + 11) (rowObj (zerosA [.bool false] n) 1 4 (some n))).obj sid = some so1 := by rw [set_obj, if_neg (by omega)]; exact set_self _ _ _
    have hr3 : OwnRow N ((M1.set sid so1).set (μ.next + 11) (rowObj (zerosA [.bool false] n) 1 4 (some n))) .i64 3 (.slice (μ.next + 6) 0 0 n) (List.replicate n 0) := hr1.old fun id o ho hi => by
      have : μ.next + 6 = id := hi
      rw [set_obj, if_neg (by omega), set_obj, if_neg (by omega)]; exact ho
    have hb3 : ((M1.set sid so1).set (μ.next + 11) (rowObj (zerosA [.bool false] n) 1 4 (some n))).obj (μ.next + 11) = some (rowObj (zerosA [.bool false] n) 1 4 (some n)) := set_self _ _ _
    generalize hM3 : (M1.set sid so1).set (μ.next + 11) (rowObj (zerosA [.bool false] n) 1 4 (some n)) = M3 at *
    obtain ⟨so2, hso2⟩ : ∃ so2 : AObj, so2 = { so1 with cells := [.int .i64 n, .int .i64 fixed, .slice (μ.next + 6) 0 0 n, .slice (μ.next + 11) 0 0 n] } := ⟨_, rfl⟩
    have st2 : M3.store sid 0 (0 + 3) [.slice (μ.next + 11) 0 0 n] = some (M3.set sid so2) := by
      simp only [AMem.store, hs3, Option.bind_some]
      rw [if_pos ⟨by rw [hso1]; exact h.own, by rw [hso1]; exact h.ver, by rw [hso1]; simp⟩, hso2, hso1]; rfl
    have kC : Keep (fun j => j = sid) μ (M3.set sid so2) := kB.trans (Keep.set kB.wf hs3 rfl)
    have hD : Dq N (M3.set sid so2) sid so2 (.slice (μ.next + 6) 0 0 n) (.slice (μ.next + 11) 0 0 n) n fixed (List.replicate n 0) (List.replicate n false) := by
      refine ⟨h.low, set_self _ _ _, by rw [hso2, hso1]; exact h.own, by rw [hso2, hso1]; exact h.ver, by rw [hso2], hr3.old fun id o ho hi => ?_, bools_at (by rw [set_obj, if_neg (by omega)]; exact hb3) (by omega), by simp, by simp, fun h => ?_, fun h => ?_, fun j hj hj2 => ?_⟩
      · have : μ.next + 6 = id := hi
        rw [set_obj, if_neg (by omega)]; exact ho
      · have : μ.next + 6 = sid := h
        omega
      · have : μ.next + 11 = sid := h
        omega
      · have a : μ.next + 6 = j := hj
        have b : μ.next + 11 = j := hj2
        omega
    obtain ⟨m, e2, k4, hD2⟩ := dKeepInc_loop (y := y) (ls := ls) (fun v hv => by
      have := List.all_eq_true.mp ha v hv
      unfold keepOk at this
      rw [Bool.and_eq_true] at this
      have a1 := of_decide_eq_true this.1
      have a2 := of_decide_eq_true this.2
      omega) hl (fun j hj hyj => by
      have a : μ.next + 6 = j := hj
      obtain ⟨o, ho⟩ := row_lives hy hyj
      have := hw.lt ho
      omega) ls.length 0 (M3.set sid so2) _ (Nat.zero_add _) kC.wf hD (rowKeep hy kC fun j hj hyj => hysid (hj ▸ hyj)) (fits_zero _ _ (by omega))
    rw [n0] at e2
    rw [List.drop_zero] at hD2
    refine ⟨m, so2, _, _, ?_, keepFresh hw kC k4 fun j hj => .inr (by
      have a : μ.next + 6 = j := hj
      omega), hD2, fun j hj => ?_⟩
    · rw [overdubref10_Space_Keep_eq]
      simp -implicitDefEqProofs only [hy.len, e1, nonNil_p, ptrAdd_p, loadAt_p, hc0, Option.bind_some, decide_true, decide_false, cond_true, cond_false, seqJ_n, seqJ_r, seqJ_e, headK_c, asB_bool, asI_int, asS_s, asN_int, extrK_0, extrK_1, extrK_2, Bool.not_true, Bool.not_false, Nat.beq_refl]
      rw [if_pos (by omega)]
      simp -implicitDefEqProofs only [hf6, chk_true, nat_toNat, nonNil_p, ptrAdd_p, storeAt_p, hM1, st1, Option.bind_some, decide_true, decide_false, cond_true, cond_false, seqJ_n, seqJ_r, seqJ_e, headK_c, asB_bool, asI_int, asS_s, asN_int, extrK_0, extrK_1, extrK_2, Bool.not_true, Bool.not_false, Nat.beq_refl]
      rw [if_pos (by omega)]
      simp -implicitDefEqProofs only [hf11b, chk_true, nat_toNat, nonNil_p, ptrAdd_p, storeAt_p, hM3, st2, hy.len, e2, Option.bind_some, decide_true, decide_false, cond_true, cond_false, seqJ_n, seqJ_r, seqJ_e, headK_c, asB_bool, asI_int, asS_s, asN_int, extrK_0, extrK_1, extrK_2, Bool.not_true, Bool.not_false, Nat.beq_refl]
    · rcases hj with hj | hj
      · have a : μ.next + 6 = j := hj
        omega
      · have a : μ.next + 11 = j := hj
        omega
end
end Go.Proofs.Ytkikncdhmifkaaa
