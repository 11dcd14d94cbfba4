/- What the functions come to. -/
import Derived.Test.YtepdjffnjfdklaaZs
/- Whole numbers of 64 digits, products. -/
namespace Go.Proofs.Ytepdjffnjfdklaa
open Go Go.Proofs.Ytepdjffnjfdklaa.E
set_option linter.unusedVariables false
set_option linter.unusedSimpArgs false
theorem wr {n : Int} (h : -9223372036854775808 ≤ n ∧ n ≤ 9223372036854775807) : IntKind.wrap .i64 n = n := i64_in' n h
theorem wf64 {n : Int} (h : (Lit.int .i64 n).wf = true) : -9223372036854775808 ≤ n ∧ n ≤ 9223372036854775807 := by
  simpa [Lit.wf, IntKind.min, IntKind.max, IntKind.signed, IntKind.bits] using h
theorem prod_le {a b A B : Int} (h1 : -A ≤ a) (h2 : a ≤ A) (h3 : -B ≤ b) (h4 : b ≤ B) : -(A * B) ≤ a * b ∧ a * b ≤ A * B := by
  have hA : 0 ≤ A := by omega
  have hB : 0 ≤ B := by omega
  have e1 := Int.mul_nonneg (show 0 ≤ A - a by omega) (show 0 ≤ B - b by omega)
  have e2 := Int.mul_nonneg (show 0 ≤ A + a by omega) (show 0 ≤ B + b by omega)
  have e3 := Int.mul_nonneg (show 0 ≤ A - a by omega) (show 0 ≤ B + b by omega)
  have e4 := Int.mul_nonneg (show 0 ≤ A + a by omega) (show 0 ≤ B - b by omega)
  simp only [Int.sub_mul, Int.mul_sub, Int.add_mul, Int.mul_add] at e1 e2 e3 e4
  constructor <;> omega
end Go.Proofs.Ytepdjffnjfdklaa
/- Steps of a walk: facts with premises that arithmetic closes; a number put behind a row. -/
namespace Go.Proofs.Ytepdjffnjfdklaa
open Go Go.Proofs.Ytepdjffnjfdklaa.E
set_option linter.unusedVariables false
set_option linter.unusedSimpArgs false
theorem w64 {n : Int} (h : -9223372036854775808 ≤ n) (h' : n ≤ 9223372036854775807) : IntKind.wrap .i64 n = n := wr ⟨h, h'⟩
theorem lt_t {a b : Int} (h : a < b) : decide (a < b) = true := decide_eq_true h
theorem lt_f {a b : Int} (h : b ≤ a) : decide (a < b) = false := decide_eq_false (by omega)
theorem gt_t {a b : Int} (h : b < a) : decide (a > b) = true := decide_eq_true h
theorem gt_f {a b : Int} (h : a ≤ b) : decide (a > b) = false := decide_eq_false (by omega)
theorem le_t {a b : Int} (h : a ≤ b) : decide (a ≤ b) = true := decide_eq_true h
theorem le_f {a b : Int} (h : b < a) : decide (a ≤ b) = false := decide_eq_false (by omega)
theorem ge_t {a b : Int} (h : b ≤ a) : decide (a ≥ b) = true := decide_eq_true h
theorem ge_f {a b : Int} (h : a < b) : decide (a ≥ b) = false := decide_eq_false (by omega)
theorem ne_t {a b : Int} (h : ¬ a = b) : (a != b) = true := by simp [h]
theorem ne_f {a b : Int} (h : a = b) : (a != b) = false := by simp [h]
theorem eq_t {a b : Int} (h : a = b) : (a == b) = true := by simp [h]
theorem eq_f {a b : Int} (h : ¬ a = b) : (a == b) = false := by simp [h]
theorem n0 : ((0 : Nat) : Int) = 0 := rfl
theorem nsu (i : Nat) : ((i + 1 : Nat) : Int) = (i : Int) + 1 := rfl
theorem nat_toNat (i : Nat) : ((i : Nat) : Int).toNat = i := rfl
theorem chk {α : Type} {p : Prop} (h : p) (x : Option α) : checkA p x = x := checkA_pos h x
theorem chk_rfl {α β : Type} (a : α) (x : Option β) : checkA (a = a) x = x := checkA_pos rfl x
theorem chk_true {β : Type} (x : Option β) : checkA True x = x := checkA_pos trivial x
theorem ptrAdd_p {R : Type} (n a b c : Nat) (K : AV → Option R) : ptrAdd n (.s (.ptr a b c)) K = K (.s (.ptr a b (c + n))) := rfl
theorem loadAt_p {R : Type} (μ : AMem) (a b c : Nat) (K : AV → Option R) : loadAt μ (.s (.ptr a b c)) K = (μ.cell a b c).bind fun x => K (.s x) := rfl
theorem bump_cell (μ : AMem) (n a b c : Nat) : (μ.bump n).cell a b c = μ.cell a b c := rfl
theorem set_self (μ : AMem) (i : Nat) (o : AObj) : (μ.set i o).obj i = some o := by simp
/-- A number behind a row of the call's own. -/
theorem pushS {μ0 μ : AMem} (h0 : WF μ0) (hs : Same μ0 μ) {k : IntKind} {e : TypeId} {x : SV} {zs : List Int} (h : OwnRow μ0.next μ k e x zs) {B a b n : Nat} (v : Int) (hB : 1 ≤ B) (hb : (zs.length + 1) * B ≤ 140737488355328)
    (ha : a < n) (hbn : b < n) (hab : a ≠ b) {q : Option Nat} : ∃ x' μ', (∀ {R : Type} (K : AV → AMem → Option R), appendA e 1 B (μ.next + b) ((μ.bump n).set (μ.next + a) (rowObj [.int k v] 1 e q)) (.s x) (.s (.slice (μ.next + a) 0 0 1)) K = K (.s x') μ') ∧
      Same μ0 μ' ∧ OwnRow μ0.next μ' k e x' (zs ++ [v]) := by
  obtain ⟨y', μ', p1, p2, p3, p4, p5, p6⟩ := OwnRow.push (B := B) (a := a) (b := b) (n := n) (q := q) hs.wf h v hB hb hs.next ha hbn hab
  exact ⟨y', μ', p1, Same.push h0 hs h p3 p4 p5, p2⟩
theorem same_row {μ0 μ : AMem} {k : IntKind} {x : SV} {zs : List Int} (hs : Same μ0 μ) (hx : IsRow μ0 k x zs) : IsRow μ k x zs := hx.same hs
theorem bumpS {μ0 μ : AMem} (hs : Same μ0 μ) (n : Nat) : Same μ0 (μ.bump n) := hs.trans (Keep.bump hs.wf n)
/-- A new object of the call's own. -/
theorem newS {μ0 μ : AMem} (hs : Same μ0 μ) {n a : Nat} (ha : a < n) (o : AObj) : Same μ0 ((μ.bump n).set (μ.next + a) o) := hs.trans (Same.bumpSet hs.wf ha o)
theorem freshB {μ : AMem} (hw : WF μ) (n a : Nat) : (μ.bump n).obj (μ.next + a) = none := by rw [bump_obj]; exact hw _ (by omega)
theorem freshS {μ μ' : AMem} (hw : WF μ) {n a : Nat} (ha : a < n) (hs : Same (μ.bump n) μ') : μ'.obj (μ.next + a) = none := hs.low _ (by simp [ha]) (freshB hw n a)
theorem range_cons (f : Nat → Int) (i k : Nat) : (List.range' i (k + 1)).map f = f i :: (List.range' (i + 1) k).map f := rfl
theorem getD_lt {zs : List Int} {i : Nat} (h : i < zs.length) : zs.getD i 0 = zs[i] := by rw [List.getD_eq_getElem?_getD, List.getElem?_eq_getElem h]; rfl
theorem take_snoc {zs : List Int} {i : Nat} (h : i < zs.length) : zs.take (i + 1) = zs.take i ++ [zs.getD i 0] := by rw [List.take_add_one, List.getElem?_eq_getElem h, getD_lt h]; rfl
/-- A cut from the beginning. -/
theorem E.IsRow.front {μ : AMem} {k : IntKind} {x : SV} {zs : List Int} (h : IsRow μ k x zs) {n : Nat} (hn : n ≤ zs.length) : ∃ y, (∀ {R : Type} (K : AV → Option R), cutS 1 (.s x) 0 (n : Int) K = K (.s y)) ∧ IsRow μ k y (zs.take n) := by
  refine ⟨cutV x 0 n, fun K => h.cut (by omega) (by omega) (by omega) K, ?_⟩
  have := h.cutRow (a := 0) (b := (n : Int)) (by omega) (by omega) (by omega)
  simpa using this
/-- A cut up to the end. -/
theorem E.IsRow.back {μ : AMem} {k : IntKind} {x : SV} {zs : List Int} (h : IsRow μ k x zs) {n : Nat} (hn : n ≤ zs.length) : ∃ y, (∀ {R : Type} (K : AV → Option R), cutS 1 (.s x) (n : Int) (zs.length : Int) K = K (.s y)) ∧ IsRow μ k y (zs.drop n) := by
  refine ⟨cutV x n zs.length, fun K => h.cut (by omega) (by omega) (by omega) K, ?_⟩
  have := h.cutRow (a := n) (b := (zs.length : Int)) (by omega) (by omega) (by omega)
  simpa using this
theorem zerosA_rep (v : SV) : ∀ n, zerosA [v] n = List.replicate n v
  | 0 => rfl
  | n + 1 => by
    have := zerosA_rep v n
    simp only [zerosA, List.replicate_succ] at this ⊢
    simp_all
/-- A row of noughts that was made. -/
theorem zeros_row {μ : AMem} {id : Nat} {n : Nat} {q : Option Nat} {e : TypeId} (h : μ.obj id = some (rowObj (zerosA [.int .i64 0] n) 1 e q)) : IsRow μ .i64 (.slice id 0 0 n) (List.replicate n 0) :=
  IsRow.made h (by simp) rfl (by show zerosA _ n = _; rw [zerosA_rep]; simp)
end Go.Proofs.Ytepdjffnjfdklaa
/- Rows behind rows. -/
namespace Go.Proofs.Ytepdjffnjfdklaa
open Go Go.Proofs.Ytepdjffnjfdklaa.E
set_option linter.unusedVariables false
set_option linter.unusedSimpArgs false
/-- A row behind a row of the call's own. -/
theorem appS {μ0 μ : AMem} (h0 : WF μ0) (hs : Same μ0 μ) {k : IntKind} {e : TypeId} {x y : SV} {zs ws : List Int} (h : OwnRow μ0.next μ k e x zs) (hy : IsRow μ k y ws) {B nid : Nat} (hB : 1 ≤ B) (hb : (zs.length + ws.length) * B ≤ 140737488355328)
    (hN : μ0.next ≤ nid) (hlt : nid < μ.next) (hf : μ.obj nid = none) : ∃ x' μ', (∀ {R : Type} (K : AV → AMem → Option R), appendA e 1 B nid μ (.s x) (.s y) K = K (.s x') μ') ∧ Same μ0 μ' ∧ OwnRow μ0.next μ' k e x' (zs ++ ws) := by
  obtain ⟨x', μ', g1, g2, g3, g4, g5, g6⟩ := OwnRow.append hs.wf h hy hB hb hN hlt hf
  exact ⟨x', μ', g1, ⟨g3, by rw [g4]; exact hs.next, fun id o ho hf => g5.1 id o (hs.old id o ho hf) (h.notOld (h0.lt ho)), fun id hi hno => g5.2 id (by omega) (hs.low id hi hno)⟩, g2⟩
/-- A number behind a row of the call's own, where its box was reserved ahead of a call. -/
theorem pushM {μ0 μ m : AMem} (h0 : WF μ0) (hs : Same μ0 μ) {n : Nat} (hm : Same (μ.bump n) m) {k : IntKind} {e : TypeId} {x : SV} {zs : List Int} (h : OwnRow μ0.next μ k e x zs) {B a b : Nat} (v : Int) (hB : 1 ≤ B) (hb : (zs.length + 1) * B ≤ 140737488355328)
    (ha : a < n) (hbn : b < n) (hab : a ≠ b) {q : Option Nat} : ∃ x' μ', (∀ {R : Type} (K : AV → AMem → Option R), appendA e 1 B (μ.next + b) (m.set (μ.next + a) (rowObj [.int k v] 1 e q)) (.s x) (.s (.slice (μ.next + a) 0 0 1)) K = K (.s x') μ') ∧
      Same μ0 μ' ∧ OwnRow μ0.next μ' k e x' (zs ++ [v]) := by
  have hn := hs.next
  have hmn := hm.next
  simp only [bump_next] at hmn
  have hsm : Same μ0 (m.set (μ.next + a) (rowObj [.int k v] 1 e q)) := Keep.setS h0 ((bumpS hs n).trans hm) (by omega) (by omega)
  have hy : IsRow (m.set (μ.next + a) (rowObj [.int k v] 1 e q)) k (.slice (μ.next + a) 0 0 1) [v] := IsRow.made (o := rowObj [.int k v] 1 e q) (by simp) rfl rfl rfl
  have h' : OwnRow μ0.next (m.set (μ.next + a) (rowObj [.int k v] 1 e q)) k e x zs := h.old fun id o ho _ => by
    have := hs.wf.lt ho
    rw [set_obj, if_neg (by omega)]
    exact hm.old _ _ ho (fun h => h)
  exact appS h0 hsm h' hy hB (by simpa using hb) (by omega) (by simp; omega) (by rw [set_obj, if_neg (by omega)]; exact freshS hs.wf hbn hm)
/-- A copy of a row. -/
theorem copyS {μ0 μ : AMem} (h0 : WF μ0) (hs : Same μ0 μ) {k : IntKind} {e : TypeId} {x : SV} {zs : List Int} (hx : IsRow μ k x zs) {B b n : Nat} (hB : 1 ≤ B) (hb : zs.length * B ≤ 140737488355328) (hbn : b < n) :
    ∃ y μ', (∀ {R : Type} (K : AV → AMem → Option R), appendA e 1 B (μ.next + b) (μ.bump n) (.s .nilSlice) (.s x) K = K (.s y) μ') ∧ Same μ0 μ' ∧ OwnRow μ0.next μ' k e y zs := by
  have hN := hs.next
  obtain ⟨y, μ', g1, g2, g3⟩ := appS (e := e) (B := B) (nid := μ.next + b) h0 (bumpS hs n) (OwnRow.nil μ0.next (μ.bump n) k e) (hx.same (Keep.bump hs.wf n)) hB (by simpa using hb) (by omega) (by simp; omega) (freshB hs.wf n b)
  exact ⟨y, μ', g1, g2, by simpa using g3⟩
/-- A copy of a row, and which object it is. -/
theorem copyI {μ0 μ : AMem} (h0 : WF μ0) (hs : Same μ0 μ) {k : IntKind} {e : TypeId} {x : SV} {zs : List Int} (hx : IsRow μ k x zs) {B b n : Nat} (hB : 1 ≤ B) (hb : zs.length * B ≤ 140737488355328) (hbn : b < n) :
    ∃ y μ', (∀ {R : Type} (K : AV → AMem → Option R), appendA e 1 B (μ.next + b) (μ.bump n) (.s .nilSlice) (.s x) K = K (.s y) μ') ∧ Same μ0 μ' ∧ OwnRow μ0.next μ' k e y zs ∧ μ'.next = μ.next + n ∧ ∀ id, isId y id → id = μ.next + b := by
  have hN := hs.next
  obtain ⟨x', μ', g1, g2, g3, g4, g5, g6⟩ := OwnRow.append (B := B) (nid := μ.next + b) (bumpS hs n).wf (OwnRow.nil μ0.next (μ.bump n) k e) (hx.same (Keep.bump hs.wf n)) hB (by simpa using hb) (by omega) (by simp; omega) (freshB hs.wf n b)
  refine ⟨x', μ', g1, ⟨g3, by rw [g4]; exact (bumpS hs n).next, fun id o ho hf => g5.1 id o ((bumpS hs n).old id o ho hf) fun h => h, fun id hi hno => g5.2 id (by omega) ((bumpS hs n).low id hi hno)⟩, by simpa using g2, g4, fun id hid => (g6 id hid).resolve_left fun h => h⟩
def leftZ (g : List Int → Int) (n : Nat) (xs : List Int) : List Int := (List.range' n (xs.length - n)).map fun i => xs.getD i 0 - g (xs.take i)
theorem drop_cons {zs : List Int} {i : Nat} (h : i < zs.length) : zs.drop i = zs.getD i 0 :: zs.drop (i + 1) := by rw [List.drop_eq_getElem_cons h, getD_lt h]
theorem take_map_snoc {zs : List Int} (f : Int → Int) {i : Nat} (h : i < zs.length) : (zs.take (i + 1)).map f = (zs.take i).map f ++ [f (zs.getD i 0)] := by rw [take_snoc h, List.map_append]; rfl
theorem getD_mem {zs : List Int} {i : Nat} (h : i < zs.length) : zs.getD i 0 ∈ zs := by rw [getD_lt h]; exact List.getElem_mem h
theorem take_min {zs : List Int} {i n : Nat} (h : i = min n zs.length) : zs.take i = zs.take n := by
  subst h
  rcases Nat.le_total n zs.length with hl | hl
  · rw [Nat.min_eq_left hl]
  · rw [Nat.min_eq_right hl, List.take_of_length_le (Nat.le_refl _), List.take_of_length_le hl]
end Go.Proofs.Ytepdjffnjfdklaa
/- A number behind one of several rows of the call's own: the others stay. -/
namespace Go.Proofs.Ytepdjffnjfdklaa
open Go Go.Proofs.Ytepdjffnjfdklaa.E
set_option linter.unusedVariables false
set_option linter.unusedSimpArgs false
/-- Two rows are not of one object. -/
def Apart (x y : SV) : Prop := ∀ id, isId x id → ¬ isId y id
theorem Apart.symm {x y : SV} (h : Apart x y) : Apart y x := fun id h1 h2 => h id h2 h1
theorem apart_nil (y : SV) : Apart .nilSlice y := fun id h _ => h.elim
theorem own_lives {N : Nat} {μ : AMem} {k : IntKind} {e : TypeId} {x : SV} {zs : List Int} (h : OwnRow N μ k e x zs) {id : Nat} (hi : isId x id) : N ≤ id ∧ ∃ o, μ.obj id = some o := by
  rcases h with ⟨rfl, _⟩ | ⟨j, ver, o, rfl, hN, ho, _⟩
  · exact hi.elim
  · have : j = id := hi
    subst this
    exact ⟨hN, o, ho⟩
/-- The literal's box is written, then the row grows: what else lives stays, what else is free stays free. -/
theorem pushX {μ0 m : AMem} (h0 : WF μ0) (hs : Same μ0 m) {k : IntKind} {e : TypeId} {x : SV} {zs : List Int} (h : OwnRow μ0.next m k e x zs) {B ra rb : Nat} (v : Int) (hB : 1 ≤ B) (hb : (zs.length + 1) * B ≤ 140737488355328)
    (ha0 : μ0.next ≤ ra) (hb0 : μ0.next ≤ rb) (ha : ra < m.next) (hbn : rb < m.next) (hab : ra ≠ rb) (hfa : m.obj ra = none) (hfb : m.obj rb = none) {q : Option Nat} :
    ∃ x' m', (∀ {R : Type} (K : AV → AMem → Option R), appendA e 1 B rb (m.set ra (rowObj [.int k v] 1 e q)) (.s x) (.s (.slice ra 0 0 1)) K = K (.s x') m') ∧ Same μ0 m' ∧ OwnRow μ0.next m' k e x' (zs ++ [v]) ∧ m'.next = m.next ∧
      (∀ id o, m.obj id = some o → ¬ isId x id → m'.obj id = some o) ∧ (∀ id, id ≠ ra → id ≠ rb → m.obj id = none → m'.obj id = none) ∧ (∀ id, isId x' id → isId x id ∨ id = rb) := by
  have hsm : Same μ0 (m.set ra (rowObj [.int k v] 1 e q)) := Keep.setS h0 hs ha0 ha
  have hy : IsRow (m.set ra (rowObj [.int k v] 1 e q)) k (.slice ra 0 0 1) [v] := IsRow.made (o := rowObj [.int k v] 1 e q) (by simp) rfl rfl rfl
  have hne : ∀ id o, m.obj id = some o → id ≠ ra := fun id o ho e => by rw [e, hfa] at ho; cases ho
  have h' : OwnRow μ0.next (m.set ra (rowObj [.int k v] 1 e q)) k e x zs := h.old fun id o ho _ => by rw [set_obj, if_neg (hne id o ho)]; exact ho
  obtain ⟨x', m', g1, g2, g3, g4, g5, g6⟩ := OwnRow.append hsm.wf h' hy hB (by simpa using hb) hb0 (by simp; exact hbn) (by rw [set_obj, if_neg (fun e => hab e.symm)]; exact hfb)
  refine ⟨x', m', g1, ⟨g3, by rw [g4]; exact hs.next, fun id o ho hf => g5.1 id o (hsm.old id o ho hf) (h'.notOld (h0.lt ho)), fun id hi hno => g5.2 id (by omega) (hsm.low id hi hno)⟩, g2, g4, fun id o ho hx => g5.1 id o (by rw [set_obj, if_neg (hne id o ho)]; exact ho) hx, fun id h1 h2 hno => g5.2 id h2 (by rw [set_obj, if_neg h1]; exact hno), g6⟩
/-- Another row of the call's own stays, and stays apart. -/
theorem other {N : Nat} {m m' : AMem} {k : IntKind} {e : TypeId} {x x' y : SV} {zs : List Int} {rb : Nat} (hy : OwnRow N m k e y zs) (hxy : Apart x y) (hfb : m.obj rb = none)
    (g5 : ∀ id o, m.obj id = some o → ¬ isId x id → m'.obj id = some o) (g6 : ∀ id, isId x' id → isId x id ∨ id = rb) : OwnRow N m' k e y zs ∧ Apart x' y := by
  refine ⟨hy.old fun id o ho hi => g5 id o ho fun hx => hxy id hx hi, fun id h1 h2 => ?_⟩
  rcases g6 id h1 with h3 | h3
  · exact hxy id h3 h2
  · obtain ⟨_, o, ho⟩ := own_lives hy h2
    rw [h3, hfb] at ho; cases ho
end Go.Proofs.Ytepdjffnjfdklaa
/- A number is written into a row of the call's own. -/
namespace Go.Proofs.Ytepdjffnjfdklaa
open Go Go.Proofs.Ytepdjffnjfdklaa.E
set_option linter.unusedVariables false
set_option linter.unusedSimpArgs false
theorem overA_get (cs : List SV) (i : Nat) (v : SV) (h : i < cs.length) (j : Nat) : (overA cs i [v])[j]? = if j = i then some v else cs[j]? := by
  unfold overA
  have htl : (cs.take i).length = i := by simp; omega
  rw [List.append_assoc, List.getElem?_append, htl]
  split
  · rename_i h1
    rw [if_neg (by omega), List.getElem?_take, if_pos h1]
  · rename_i h1
    rw [List.getElem?_append]
    simp only [List.length_cons, List.length_nil]
    split
    · rename_i h2
      have : j = i := by omega
      rw [if_pos this, this, Nat.sub_self]; rfl
    · rename_i h2
      rw [if_neg (by omega), List.getElem?_drop]
      congr 1; omega
theorem storeS {μ0 m : AMem} (h0 : WF μ0) (hs : Same μ0 m) {k : IntKind} {e : TypeId} {x : SV} {zs : List Int} (h : OwnRow μ0.next m k e x zs) {i : Nat} (hi : i < zs.length) (v : Int) :
    ∃ m', (∀ {R : Type} (K : AMem → Option R), storeAt 1 m (plc x (i : Int)) (.s (.int k v)) K = K m') ∧ Same μ0 m' ∧ OwnRow μ0.next m' k e x (zs.set i v) ∧ m'.next = m.next ∧ (∀ id o, m.obj id = some o → ¬ isId x id → m'.obj id = some o) ∧ (∀ id, m.obj id = none → m'.obj id = none) := by
  rcases h with ⟨rfl, rfl⟩ | ⟨id, ver, o, rfl, hN, ho, how, hv, hsz, he, hc⟩
  · simp at hi
  · have hcl := cells_len hc
    have hne : ∀ j p, m.obj j = some p → ¬ isId (.slice id ver 0 zs.length) j → j ≠ id := fun j p _ hh e => hh e.symm
    have hnone : ∀ j, m.obj j = none → j ≠ id := fun j hj e => by rw [e, ho] at hj; cases hj
    refine ⟨m.set id { o with cells := overA o.cells i [.int k v] }, fun K => ?_, ⟨hs.wf.set (hs.wf.lt ho), hs.next, fun j p hp hf => ?_, fun j hj hno => ?_⟩, ?_, rfl, fun j p hp hh => ?_, fun j hj => ?_⟩
    · have hii : (0 + (i : Int).toNat * 1) = i := by omega
      simp only [storeAt, plc, AV.cells, AMem.store, ho, Option.bind_some, hii, List.length_singleton, if_true]
      rw [if_pos ⟨how, hv, by omega⟩, Option.bind_some]
    · have : j ≠ id := by have := h0.lt hp; omega
      rw [set_obj, if_neg this]; exact hs.old j p hp hf
    · have : j ≠ id := by omega
      rw [set_obj, if_neg this]; exact hs.low j hj hno
    · refine .inr ⟨id, ver, { o with cells := overA o.cells i [.int k v] }, by simp, hN, by simp, how, hv, hsz, he, fun j n hj => ?_⟩
      show (overA o.cells i [.int k v])[j]? = _
      rw [overA_get _ _ _ (by omega)]
      rw [List.getElem?_set] at hj
      split at hj
      · rename_i hij
        rw [if_pos hij.symm]
        cases hj; rfl
      · rename_i hij
        rw [if_neg (fun e => hij e.symm)]; exact hc j n hj
    · rw [set_obj, if_neg (hne j p hp hh)]; exact hp
    · rw [set_obj, if_neg (hnone j hj)]; exact hj
/-- Another row stays. -/
theorem rowOther {m m' : AMem} {k : IntKind} {x y : SV} {zs : List Int} (hy : IsRow m k y zs) (hxy : Apart x y) (g : ∀ id o, m.obj id = some o → ¬ isId x id → m'.obj id = some o) : IsRow m' k y zs := by
  rcases hy with ⟨rfl, rfl⟩ | ⟨id, ver, off, o, rfl, ho, r⟩
  · exact .inl ⟨rfl, rfl⟩
  · exact .inr ⟨id, ver, off, o, rfl, g id o ho fun h => hxy id h rfl, r⟩
theorem row_lives {m : AMem} {k : IntKind} {y : SV} {zs : List Int} (hy : IsRow m k y zs) {id : Nat} (h : isId y id) : ∃ o, m.obj id = some o := by
  rcases hy with ⟨rfl, _⟩ | ⟨j, ver, off, o, rfl, ho, r⟩
  · exact h.elim
  · have : j = id := h
    exact ⟨o, this ▸ ho⟩
/-- A row that lived before is apart from one of the call's own. -/
theorem apart_old {μ0 m : AMem} (h0 : WF μ0) {k k' : IntKind} {e : TypeId} {x y : SV} {zs ws : List Int} (hx : OwnRow μ0.next m k e x zs) (hy : IsRow μ0 k' y ws) : Apart x y := fun id h1 h2 => by
  obtain ⟨o, ho⟩ := row_lives hy h2
  have := h0.lt ho
  have := (own_lives hx h1).1
  omega
/-- A row of the call's own is written: all else stays. -/
theorem storeK {N : Nat} {m : AMem} (hw : WF m) {k : IntKind} {e : TypeId} {x : SV} {zs : List Int} (h : OwnRow N m k e x zs) {i : Nat} (hi : i < zs.length) (v : Int) :
    ∃ m', (∀ {R : Type} (K : AMem → Option R), storeAt 1 m (plc x (i : Int)) (.s (.int k v)) K = K m') ∧ Keep (isId x) m m' ∧ OwnRow N m' k e x (zs.set i v) ∧ m'.next = m.next := by
  rcases h with ⟨rfl, rfl⟩ | ⟨id, ver, o, rfl, hN, ho, how, hv, hsz, he, hc⟩
  · simp at hi
  · have hcl := cells_len hc
    refine ⟨m.set id { o with cells := overA o.cells i [.int k v] }, fun K => ?_, Keep.set hw ho rfl, ?_, rfl⟩
    · have hii : (0 + (i : Int).toNat * 1) = i := by omega
      simp only [storeAt, plc, AV.cells, AMem.store, ho, Option.bind_some, hii, List.length_singleton, if_true]
      rw [if_pos ⟨how, hv, by omega⟩, Option.bind_some]
    · refine .inr ⟨id, ver, { o with cells := overA o.cells i [.int k v] }, by simp, hN, by simp, how, hv, hsz, he, fun j n hj => ?_⟩
      show (overA o.cells i [.int k v])[j]? = _
      rw [overA_get _ _ _ (by omega)]
      rw [List.getElem?_set] at hj
      split at hj
      · rename_i hij
        rw [if_pos hij.symm]
        cases hj; rfl
      · rename_i hij
        rw [if_neg (fun e => hij e.symm)]; exact hc j n hj
/-- A number behind a row of the call's own: only that row changes. -/
theorem pushK {N : Nat} {μ : AMem} (hw : WF μ) {k : IntKind} {e : TypeId} {x : SV} {zs : List Int} (h : OwnRow N μ k e x zs) {B a b n : Nat} (v : Int) (hB : 1 ≤ B) (hb : (zs.length + 1) * B ≤ 140737488355328) (hN : N ≤ μ.next) (ha : a < n) (hbn : b < n) (hab : a ≠ b) {q : Option Nat} :
    ∃ x' μ', (∀ {R : Type} (K : AV → AMem → Option R), appendA e 1 B (μ.next + b) ((μ.bump n).set (μ.next + a) (rowObj [.int k v] 1 e q)) (.s x) (.s (.slice (μ.next + a) 0 0 1)) K = K (.s x') μ') ∧ Keep (isId x) μ μ' ∧ OwnRow N μ' k e x' (zs ++ [v]) ∧ ∀ j, isId x' j → isId x j ∨ μ.next ≤ j := by
  obtain ⟨x', μ', p1, p2, p3, p4, p5, p6⟩ := OwnRow.push (B := B) (a := a) (b := b) (n := n) (q := q) hw h v hB hb hN ha hbn hab
  exact ⟨x', μ', p1, ⟨p3, p4, p5.1, p5.2⟩, p2, p6⟩
theorem E.Keep.weak0 {S T : Nat → Prop} {μ μ' : AMem} (h : Keep S μ μ') (hST : ∀ j, S j → T j) : Keep T μ μ' := ⟨h.wf, h.next, fun id o ho hf => h.old id o ho fun hs => hf (hST id hs), h.low⟩
theorem keepSame {μ0 m m' : AMem} {S : Nat → Prop} (h0 : WF μ0) (hs : Same μ0 m) (hk : Keep S m m') (hS : ∀ j, S j → μ0.next ≤ j) : Same μ0 m' :=
  ⟨hk.wf, Nat.le_trans hs.next hk.next, fun id o ho hf => hk.old id o (hs.old id o ho hf) fun h => by have := hS id h; have := h0.lt ho; omega, fun id hi hn => hk.low id (Nat.lt_of_lt_of_le hi hs.next) (hs.low id hi hn)⟩
theorem rowKeep {m m' : AMem} {S : Nat → Prop} {k : IntKind} {y : SV} {zs : List Int} (hy : IsRow m k y zs) (hk : Keep S m m') (hS : ∀ j, S j → ¬ isId y j) : IsRow m' k y zs := by
  rcases hy with ⟨rfl, rfl⟩ | ⟨id, ver, off, o, rfl, ho, r⟩
  · exact .inl ⟨rfl, rfl⟩
  · exact .inr ⟨id, ver, off, o, rfl, hk.old id o ho fun h => hS id h rfl, r⟩
theorem ownKeep {N : Nat} {m m' : AMem} {S : Nat → Prop} {k : IntKind} {e : TypeId} {y : SV} {zs : List Int} (hy : OwnRow N m k e y zs) (hk : Keep S m m') (hS : ∀ j, S j → ¬ isId y j) : OwnRow N m' k e y zs :=
  hy.old fun id o ho hi => hk.old id o ho fun h => hS id h hi
end Go.Proofs.Ytepdjffnjfdklaa
/- Rows of Bools. -/
namespace Go.Proofs.Ytepdjffnjfdklaa
open Go Go.Proofs.Ytepdjffnjfdklaa.E
set_option linter.unusedVariables false
set_option linter.unusedSimpArgs false
/-- A row of Bools of the call's own. -/
def OwnB (N : Nat) (μ : AMem) (x : SV) (bs : List Bool) : Prop :=
  (x = .nilSlice ∧ bs = []) ∨ ∃ id ver o, x = .slice id ver 0 bs.length ∧ N ≤ id ∧ μ.obj id = some o ∧ o.own = true ∧ o.ver = ver ∧ o.size = 1 ∧ o.elem = 4 ∧ ∀ (i : Nat) b, bs[i]? = some b → o.cells[i]? = some (.bool b)
variable {N : Nat} {μ μ' : AMem} {x : SV} {bs : List Bool}
theorem OwnB.len (h : OwnB N μ x bs) : lenS (.s x) = some bs.length := by
  rcases h with ⟨rfl, rfl⟩ | ⟨id, ver, o, rfl, _⟩ <;> rfl
theorem OwnB.nil (N : Nat) (μ : AMem) : OwnB N μ .nilSlice [] := .inl ⟨rfl, rfl⟩
theorem OwnB.old (h : OwnB N μ x bs) (hk : ∀ id o, μ.obj id = some o → isId x id → μ'.obj id = some o) : OwnB N μ' x bs := by
  rcases h with ⟨rfl, rfl⟩ | ⟨id, ver, o, rfl, hN, ho, r⟩
  · exact .inl ⟨rfl, rfl⟩
  · exact .inr ⟨id, ver, o, rfl, hN, hk id o ho rfl, r⟩
theorem OwnB.same (h : OwnB N μ x bs) (hs : Same μ μ') : OwnB N μ' x bs := h.old fun id o ho _ => hs.old id o ho fun h => h
theorem OwnB.keep {S : Nat → Prop} (h : OwnB N μ x bs) (hk : Keep S μ μ') (hS : ∀ j, S j → ¬ isId x j) : OwnB N μ' x bs := h.old fun id o ho hi => hk.old id o ho fun hs => hS id hs hi
theorem OwnB.lives (h : OwnB N μ x bs) {id : Nat} (hi : isId x id) : N ≤ id ∧ ∃ o, μ.obj id = some o := by
  rcases h with ⟨rfl, _⟩ | ⟨j, ver, o, rfl, hN, ho, _⟩
  · exact hi.elim
  · have : j = id := hi
    subst this
    exact ⟨hN, o, ho⟩
theorem OwnB.less {M : Nat} (h : OwnB N μ x bs) (hM : M ≤ N) : OwnB M μ x bs := by
  rcases h with ⟨rfl, rfl⟩ | ⟨id, ver, o, rfl, hN, r⟩
  · exact .inl ⟨rfl, rfl⟩
  · exact .inr ⟨id, ver, o, rfl, by omega, r⟩
theorem OwnB.ind (h : OwnB N μ x bs) {i : Int} (h0 : 0 ≤ i) (h1 : i < bs.length) {R : Type} (K : AV → Option R) : indS 1 (.s x) i K = K (plc x i) := by
  rcases h with ⟨rfl, rfl⟩ | ⟨id, ver, o, rfl, _⟩
  · simp at h1; omega
  · simp [indS, plc, h0, h1]
theorem OwnB.load (h : OwnB N μ x bs) {i : Nat} (h1 : i < bs.length) {R : Type} (K : AV → Option R) : loadAt μ (plc x (i : Int)) K = K (.s (.bool (bs.getD i false))) := by
  rcases h with ⟨rfl, rfl⟩ | ⟨id, ver, o, rfl, hN, ho, how, hv, hs, he, hc⟩
  · simp at h1
  · have hg := hc i _ (List.getElem?_eq_getElem h1)
    simp only [plc, loadAt, AMem.cell, ho, Option.bind_some, hv, if_true, nat_toNat, Nat.mul_one, Nat.zero_add, hg]
    rw [List.getD_eq_getElem?_getD, List.getElem?_eq_getElem h1]; rfl
theorem cells_lenB {cs : List SV} (hc : ∀ (i : Nat) b, bs[i]? = some b → cs[i]? = some (.bool b)) : bs.length ≤ cs.length := by
  rcases Nat.eq_zero_or_pos bs.length with h0 | h0
  · omega
  · have := (List.getElem?_eq_some_iff.mp (hc (bs.length - 1) _ (List.getElem?_eq_getElem (by omega)))).1
    omega
/-- One is written. -/
theorem OwnB.store (hw : WF μ) (h : OwnB N μ x bs) {i : Nat} (hi : i < bs.length) (v : Bool) :
    ∃ m', (∀ {R : Type} (K : AMem → Option R), storeAt 1 μ (plc x (i : Int)) (.s (.bool v)) K = K m') ∧ Keep (isId x) μ m' ∧ OwnB N m' x (bs.set i v) := by
  rcases h with ⟨rfl, rfl⟩ | ⟨id, ver, o, rfl, hN, ho, how, hv, hs, he, hc⟩
  · simp at hi
  · have hl := cells_lenB hc
    refine ⟨μ.set id { o with cells := overA o.cells i [.bool v] }, fun K => ?_, Keep.set hw ho rfl, .inr ⟨id, ver, { o with cells := overA o.cells i [.bool v] }, by simp, hN, by simp, how, hv, hs, he, fun j b hj => ?_⟩⟩
    · simp only [storeAt, plc, AV.cells, List.length_cons, List.length_nil, if_true, AMem.store, ho, Option.bind_some, how, hv, nat_toNat, Nat.mul_one, Nat.zero_add, true_and]
      rw [if_pos (by omega)]; rfl
    · show (overA o.cells i [.bool v])[j]? = _
      rw [overA_get _ _ _ (by omega)]
      rw [List.getElem?_set] at hj
      by_cases hij : i = j
      · subst hij
        rw [if_pos rfl, if_pos hi] at hj
        cases hj
        rw [if_pos rfl]
      · rw [if_neg hij] at hj
        rw [if_neg (fun h => hij h.symm)]
        exact hc j b hj
theorem OwnB.row (h : OwnB N μ x bs) : lenS (.s x) = some bs.length ∧ μ.row 1 bs.length (.s x) = some (bs.map .bool) := by
  refine ⟨h.len, ?_⟩
  rcases h with ⟨rfl, rfl⟩ | ⟨id, ver, o, rfl, hN, ho, how, hv, hs, he, hc⟩
  · rfl
  · have hl := cells_lenB hc
    have hcs : (o.cells.drop 0).take bs.length = bs.map .bool := by
      apply List.ext_getElem?
      intro i
      rw [List.drop_zero, List.getElem?_take, List.getElem?_map]
      split
      · rename_i hi
        rw [hc i _ (List.getElem?_eq_getElem hi), List.getElem?_eq_getElem hi]; rfl
      · rename_i hi
        rw [List.getElem?_eq_none (by omega)]; rfl
    simp only [AMem.row, ho, Option.bind_some, hv, Nat.mul_one, true_and, Nat.le_refl]
    rw [if_pos (by omega), hcs]
/-- One behind. -/
theorem OwnB.push {μ0 m : AMem} (h0 : WF μ0) (hs : Same μ0 m) (h : OwnB μ0.next m x bs) (v : Bool) (hl : bs.length ≤ 1000000) {a b n : Nat} (ha : a < n) (hb : b < n) (hab : a ≠ b) :
    ∃ y m', (∀ {R : Type} (K : AV → AMem → Option R), appendA 4 1 1 (m.next + b) ((m.bump n).set (m.next + a) (rowObj [.bool v] 1 4 (some 1))) (.s x) (.s (.slice (m.next + a) 0 0 1)) K = K (.s y) m') ∧ Same μ0 m' ∧ OwnB μ0.next m' y (bs ++ [v]) := by
  have hn := hs.next
  have hrow : ((m.bump n).set (m.next + a) (rowObj [.bool v] 1 4 (some 1))).row 1 1 (.s (.slice (m.next + a) 0 0 1)) = some [.bool v] := by
    simp only [AMem.row, set_obj, if_true, Option.bind_some]
    rfl
  have hlen : lenS (.s (.slice (m.next + a) 0 0 1)) = some 1 := rfl
  have hs1 : Same μ0 ((m.bump n).set (m.next + a) (rowObj [.bool v] 1 4 (some 1))) := newS hs ha _
  have hfb : ((m.bump n).set (m.next + a) (rowObj [.bool v] 1 4 (some 1))).obj (m.next + b) = none := by
    rw [set_obj, if_neg (by omega)]; exact freshB hs.wf n b
  rcases h with ⟨rfl, rfl⟩ | ⟨id, ver, o, rfl, hN, ho, how, hv, hsz, he, hc⟩
  · refine ⟨.slice (m.next + b) 0 0 1, ((m.bump n).set (m.next + a) (rowObj [.bool v] 1 4 (some 1))).set (m.next + b) (rowObj [.bool v] 1 4 none), fun K => ?_, Keep.setS h0 hs1 (by omega) (by simp; omega), .inr ⟨m.next + b, 0, rowObj [.bool v] 1 4 none, rfl, by omega, by simp, rfl, rfl, rfl, rfl, fun i b hi => ?_⟩⟩
    · simp only [appendA, hlen, Option.bind_some, hrow, appendS]
      rw [if_pos ⟨by omega, by omega⟩, if_neg (by omega)]
    · rcases i with _ | i
      · simp at hi; subst hi; rfl
      · simp at hi
  · have hl2 := cells_lenB hc
    have hlt := hs.wf.lt ho
    have ho1 : ((m.bump n).set (m.next + a) (rowObj [.bool v] 1 4 (some 1))).obj id = some o := by rw [set_obj, if_neg (by omega)]; exact ho
    refine ⟨.slice id (ver + 1) 0 (bs.length + 1), ((m.bump n).set (m.next + a) (rowObj [.bool v] 1 4 (some 1))).set id (newVer o (o.cells.take bs.length ++ [.bool v])), fun K => ?_, Keep.setS h0 hs1 hN (by simp; omega), .inr ⟨id, ver + 1, newVer o (o.cells.take bs.length ++ [.bool v]), by simp, hN, by simp, how, by simp [newVer, hv], hsz, he, fun i b hi => ?_⟩⟩
    · simp only [appendA, hlen, Option.bind_some, hrow, appendS, ho1, how, hv, hsz, he, Nat.mul_one]
      rw [if_pos ⟨trivial, trivial, trivial, trivial, hl2, by omega, by omega⟩, if_neg (by omega)]
    · show (o.cells.take bs.length ++ [SV.bool v])[i]? = _
      have htl : (o.cells.take bs.length).length = bs.length := by simp [Nat.min_eq_left hl2]
      rw [List.getElem?_append] at hi ⊢
      rw [htl]
      split at hi
      · rename_i hlt'
        rw [if_pos hlt', List.getElem?_take, if_pos hlt']; exact hc i b hi
      · rename_i hlt'
        rw [if_neg hlt']
        rcases hk : i - bs.length with _ | k
        · rw [hk] at hi; simp at hi; subst hi; rfl
        · rw [hk] at hi; simp at hi
/-- A copy. -/
theorem OwnB.copy {M : Nat} (hw : WF μ) (h : OwnB M μ x bs) (hl : bs.length ≤ 1000000) {b n : Nat} (hb : b < n) :
    ∃ y m', (∀ {R : Type} (K : AV → AMem → Option R), appendA 4 1 1 (μ.next + b) (μ.bump n) (.s .nilSlice) (.s x) K = K (.s y) m') ∧ Same μ m' ∧ OwnB μ.next m' y bs ∧ m'.next = μ.next + n := by
  obtain ⟨hlen, hrow⟩ := h.row
  have hrow' : (μ.bump n).row 1 bs.length (.s x) = some (bs.map .bool) := by
    rcases x with _ | _ <;> exact hrow
  have k1 := bumpS (Keep.refl hw) n
  by_cases h0 : bs = []
  · subst h0
    refine ⟨.nilSlice, μ.bump n, fun K => ?_, k1, OwnB.nil _ _, by simp⟩
    simp only [appendA, hlen, Option.bind_some, hrow', appendS]
    simp
  · have hp : ¬ bs.length = 0 := fun h => h0 (List.eq_nil_of_length_eq_zero h)
    refine ⟨.slice (μ.next + b) 0 0 bs.length, (μ.bump n).set (μ.next + b) (rowObj (bs.map .bool) 1 4 none), fun K => ?_, newS (Keep.refl hw) hb _, .inr ⟨μ.next + b, 0, rowObj (bs.map .bool) 1 4 none, rfl, by omega, by simp, rfl, rfl, rfl, rfl, fun i b hi => by simp [rowObj, hi]⟩, by simp⟩
    simp only [appendA, hlen, Option.bind_some, hrow', appendS]
    rw [if_pos ⟨by omega, by omega⟩, if_neg hp]
end Go.Proofs.Ytepdjffnjfdklaa
/- Words of 64 digits. -/
namespace Go.Proofs.Ytepdjffnjfdklaa
open Go Go.Proofs.Ytepdjffnjfdklaa.E
set_option linter.unusedVariables false
set_option linter.unusedSimpArgs false
def w64ok (w : Int) : Prop := 0 ≤ w ∧ w < 18446744073709551616
def bitV (w : Int) (j : Nat) : Bool := (BitVec.ofInt 64 w).getLsbD j
theorem wu64 {n : Int} (h : w64ok n) : IntKind.wrap .u64 n = n := by
  unfold w64ok at h
  simp [IntKind.wrap, IntKind.signed, IntKind.bits]; omega
theorem bv_ok (x : BitVec 64) : w64ok (x.toNat : Int) := by
  have := x.isLt
  unfold w64ok; omega
theorem ofInt_wrap (x : BitVec 64) : BitVec.ofInt 64 (IntKind.wrap .u64 (x.toNat : Int)) = x := by
  rw [wu64 (bv_ok x)]
  apply BitVec.eq_of_toNat_eq
  rw [BitVec.toNat_ofInt]
  have := x.isLt
  omega
def orW (w : Int) (r : Nat) : Int := IntKind.wrap .u64 (BitVec.toNat ((BitVec.ofInt (IntKind.bits .u64) w) ||| (BitVec.ofInt (IntKind.bits .u64) (IntKind.wrap .u64 (1 * 2 ^ r)))))
def clrW (w : Int) (r : Nat) : Int := IntKind.wrap .u64 (BitVec.toNat ((BitVec.ofInt (IntKind.bits .u64) w) &&& ~~~ (BitVec.ofInt (IntKind.bits .u64) (IntKind.wrap .u64 (1 * 2 ^ r)))))
theorem one_bit : ∀ r : Fin 64, BitVec.ofInt 64 (IntKind.wrap .u64 (1 * 2 ^ r.val)) = BitVec.twoPow 64 r.val := by decide +kernel
theorem orW_ok (w : Int) (r : Nat) : w64ok (orW w r) := by
  show w64ok (IntKind.wrap .u64 ((((BitVec.ofInt 64 w) ||| (BitVec.ofInt 64 (IntKind.wrap .u64 (1 * 2 ^ r)))).toNat : Nat) : Int))
  rw [wu64 (bv_ok _)]; exact bv_ok _
theorem clrW_ok (w : Int) (r : Nat) : w64ok (clrW w r) := by
  show w64ok (IntKind.wrap .u64 ((((BitVec.ofInt 64 w) &&& ~~~ (BitVec.ofInt 64 (IntKind.wrap .u64 (1 * 2 ^ r)))).toNat : Nat) : Int))
  rw [wu64 (bv_ok _)]; exact bv_ok _
theorem orW_bit (w : Int) {r j : Nat} (hr : r < 64) (hj : j < 64) : bitV (orW w r) j = if j = r then true else bitV w j := by
  unfold bitV
  have e : BitVec.ofInt 64 (orW w r) = (BitVec.ofInt 64 w) ||| (BitVec.ofInt 64 (IntKind.wrap .u64 (1 * 2 ^ r))) := ofInt_wrap _
  rw [e, one_bit ⟨r, hr⟩, BitVec.getLsbD_or, BitVec.getLsbD_twoPow]
  by_cases h : j = r
  · subst h; simp [hr]
  · rw [if_neg h]
    have : (r == j) = false := by simp; omega
    simp [this, hr]; omega
theorem clrW_bit (w : Int) {r j : Nat} (hr : r < 64) (hj : j < 64) : bitV (clrW w r) j = if j = r then false else bitV w j := by
  unfold bitV
  have e : BitVec.ofInt 64 (clrW w r) = (BitVec.ofInt 64 w) &&& ~~~ (BitVec.ofInt 64 (IntKind.wrap .u64 (1 * 2 ^ r))) := ofInt_wrap _
  rw [e, one_bit ⟨r, hr⟩, BitVec.getLsbD_and, BitVec.getLsbD_not, BitVec.getLsbD_twoPow]
  by_cases h : j = r
  · subst h; simp [hr]
  · rw [if_neg h]
    simp [hj]; omega
theorem full_bit : ∀ j : Fin 64, bitV 18446744073709551615 j.val = true := by decide +kernel
theorem zero_bit (j : Nat) : bitV 0 j = false := by unfold bitV; simp
/-- The program's look at a digit. -/
theorem look_bit {w : Int} (h : w64ok w) (r : Nat) : (IntKind.wrap .u64 (BitVec.toNat ((BitVec.ofInt (IntKind.bits .u64) (Int.fdiv w (2 ^ r))) &&& (BitVec.ofInt (IntKind.bits .u64) 1))) == 1) = bitV w r := by
  unfold w64ok at h
  have hp : (0 : Int) < 2 ^ r := Int.pow_pos (by omega)
  have e0 : Int.fdiv w (2 ^ r) = w / 2 ^ r := Int.fdiv_eq_ediv_of_nonneg _ (Int.le_of_lt hp)
  have hq : 0 ≤ w / 2 ^ r ∧ w / 2 ^ r ≤ w := ⟨Int.ediv_nonneg h.1 (Int.le_of_lt hp), Int.ediv_le_self _ h.1⟩
  have e1 : (BitVec.toNat ((BitVec.ofInt (IntKind.bits .u64) (w / 2 ^ r)) &&& (BitVec.ofInt (IntKind.bits .u64) 1)) : Int) = w / 2 ^ r % 2 := by
    show ((BitVec.toNat ((BitVec.ofInt 64 (w / 2 ^ r)) &&& (BitVec.ofInt 64 1)) : Nat) : Int) = _
    rw [BitVec.toNat_and, BitVec.toNat_ofInt, BitVec.toNat_ofInt]
    have : (1 : Int) % ((2 ^ 64 : Nat) : Int) = 1 := by decide
    rw [this, show (1 : Int).toNat = 1 from rfl, Nat.and_one_is_mod]
    omega
  rw [e0, e1, wu64 (by unfold w64ok; omega)]
  unfold bitV
  rw [BitVec.getLsbD, BitVec.toNat_ofInt]
  have e2 : (w % ((2 ^ 64 : Nat) : Int)).toNat = w.toNat := by omega
  rw [e2, Nat.testBit_eq_decide_div_mod_eq]
  have e3 : ((w.toNat / 2 ^ r % 2 : Nat) : Int) = w / 2 ^ r % 2 := by
    rw [Int.natCast_emod, Int.natCast_ediv, Int.natCast_pow]
    have : ((w.toNat : Nat) : Int) = w := by omega
    rw [this]; rfl
  by_cases hc : w.toNat / 2 ^ r % 2 = 1
  · rw [decide_eq_true hc, ← e3, hc]; rfl
  · rw [decide_eq_false hc]
    have : ¬ w / 2 ^ r % 2 = 1 := by omega
    simp [this]
def U (ws : List Int) (i : Nat) : Bool := bitV (ws.getD (i / 64) 0) (i % 64)
def setWd (ws : List Int) (i : Nat) (b : Bool) : List Int := ws.set (i / 64) (if b then orW (ws.getD (i / 64) 0) (i % 64) else clrW (ws.getD (i / 64) 0) (i % 64))
theorem getD_setW {l : List Int} {i j : Nat} {v : Int} (h : i < l.length) : (l.set i v).getD j 0 = if j = i then v else l.getD j 0 := by
  rw [List.getD_eq_getElem?_getD, List.getElem?_set]
  by_cases hj : i = j
  · rw [if_pos hj, if_pos hj.symm, if_pos h]; rfl
  · rw [if_neg hj, if_neg (fun e => hj e.symm), List.getD_eq_getElem?_getD]
theorem U_set {ws : List Int} {i : Nat} (h : i / 64 < ws.length) (b : Bool) (j : Nat) : U (setWd ws i b) j = if j = i then b else U ws j := by
  unfold U setWd
  rw [getD_setW h]
  by_cases c : j / 64 = i / 64
  · rw [if_pos c]
    cases b
    · rw [if_neg (by simp), clrW_bit _ (by omega) (by omega), c]
      by_cases c2 : j = i
      · subst c2; rw [if_pos rfl, if_pos rfl]
      · rw [if_neg (by omega), if_neg c2]
    · rw [if_pos rfl, orW_bit _ (by omega) (by omega), c]
      by_cases c2 : j = i
      · subst c2; rw [if_pos rfl, if_pos rfl]
      · rw [if_neg (by omega), if_neg c2]
  · rw [if_neg c]
    by_cases c2 : j = i
    · subst c2; exact absurd rfl c
    · rw [if_neg c2]
theorem setWd_len (ws : List Int) (i : Nat) (b : Bool) : (setWd ws i b).length = ws.length := by simp [setWd]
theorem setWd_ok {ws : List Int} (h : ∀ w ∈ ws, w64ok w) (i : Nat) (b : Bool) : ∀ w ∈ setWd ws i b, w64ok w := by
  intro w hw
  rcases List.mem_or_eq_of_mem_set hw with h1 | h1
  · exact h w h1
  · rw [h1]; cases b
    · exact clrW_ok _ _
    · exact orW_ok _ _
end Go.Proofs.Ytepdjffnjfdklaa
/- What a map of sectors comes to. -/
namespace Go.Proofs.Ytepdjffnjfdklaa
open Go Go.Proofs.Ytepdjffnjfdklaa.E
set_option linter.unusedVariables false
set_option linter.unusedSimpArgs false
/-- A map: its box, the row of its levels, each level's words. -/
def Mp (N : Nat) (μ : AMem) (x : SV) (n : Nat) (rs : List SV) (wss : List (List Int)) : Prop :=
  ∃ sid so lid lo ver, x = .ptr sid 0 0 ∧ N ≤ sid ∧ μ.obj sid = some so ∧ so.ver = 0 ∧ so.cells = [.int .i64 n, .slice lid ver 0 rs.length] ∧
    N ≤ lid ∧ μ.obj lid = some lo ∧ lo.ver = ver ∧ (∀ (k : Nat) r, rs[k]? = some r → lo.cells[k]? = some r) ∧ rs.length = wss.length ∧
    (∀ (k : Nat) r ws, rs[k]? = some r → wss[k]? = some ws → (∃ e, OwnRow N μ .u64 e r ws) ∧ (∀ w ∈ ws, w64ok w) ∧ ¬ isId r sid ∧ ¬ isId r lid) ∧
    (∀ (i j : Nat) r r', i ≠ j → rs[i]? = some r → rs[j]? = some r' → Apart r r')
/-- A level's digits say which words below are full. -/
def Sm (ws vs : List Int) : Prop := (∀ j, j < ws.length → U vs j = (ws.getD j 0 == 18446744073709551615)) ∧ ∀ j, ws.length ≤ j → j < 64 * vs.length → U vs j = true
/-- How long the levels are, and that each one says which words below are full. -/
def lens (n : Nat) (wss : List (List Int)) : Prop := (wss.length = 1 ∧ n ≤ 64 ∨ wss.length = 2 ∧ 64 < n) ∧ wss.length ≤ 100 ∧ (∀ ws, wss[0]? = some ws → n ≤ 64 * ws.length ∧ ws.length ≤ 10000 ∧ ws.length = (n + 63) / 64) ∧ ∀ (k : Nat) ws vs, wss[k]? = some ws → wss[k + 1]? = some vs → vs.length = (ws.length + 63) / 64 ∧ Sm ws vs
def feet (rs : List SV) : Nat → Prop := fun j => ∃ r ∈ rs, isId r j
theorem Mp.nn {N : Nat} {μ : AMem} {x : SV} {n : Nat} {rs : List SV} {wss : List (List Int)} (h : Mp N μ x n rs wss) : isNil (.s x) = some false := by
  obtain ⟨sid, so, lid, lo, ver, rfl, _⟩ := h; rfl
theorem Mp.ids {N : Nat} {μ : AMem} {x : SV} {n : Nat} {rs : List SV} {wss : List (List Int)} (h : Mp N μ x n rs wss) {j : Nat} (hj : feet rs j) : N ≤ j ∧ ∃ o, μ.obj j = some o := by
  obtain ⟨sid, so, lid, lo, ver, _, _, _, _, _, _, _, _, _, hl, hr, _⟩ := h
  obtain ⟨r, hm, hi⟩ := hj
  obtain ⟨k, hk, rfl⟩ := List.mem_iff_getElem.mp hm
  obtain ⟨⟨e, ho⟩, _⟩ := hr k _ _ (List.getElem?_eq_getElem hk) (List.getElem?_eq_getElem (by omega))
  exact own_lives ho hi
/-- What a look at a level needs. -/
theorem Mp.level {N : Nat} {μ : AMem} {x : SV} {n : Nat} {rs : List SV} {wss : List (List Int)} (h : Mp N μ x n rs wss) {k : Nat} {ws : List Int} (hk : wss[k]? = some ws) :
    ∃ sid r L p, x = .ptr sid 0 0 ∧ rs[k]? = some r ∧ μ.cell sid 0 (0 + 0) = some (.int .i64 n) ∧ μ.cell sid 0 (0 + 1) = some L ∧ lenS (.s L) = some wss.length ∧ (∀ {R : Type} (K : AV → Option R), indS 1 (.s L) (k : Int) K = K p) ∧
      (∀ {R : Type} (K : AV → Option R), loadAt μ p K = K (.s r)) ∧ (∃ e, OwnRow N μ .u64 e r ws) ∧ (∀ w ∈ ws, w64ok w) := by
  obtain ⟨sid, so, lid, lo, ver, hx, hN, hso, hsv, hsc, hN2, hlo, hlv, hlc, hl, hr, hap⟩ := h
  have hkl : k < wss.length := (List.getElem?_eq_some_iff.mp hk).1
  have hkr : k < rs.length := by omega
  have hrk := List.getElem?_eq_getElem hkr
  obtain ⟨ho, hw, _, _⟩ := hr k _ _ hrk hk
  refine ⟨sid, rs[k], .slice lid ver 0 rs.length, .s (.ptr lid ver (0 + k * 1)), hx, hrk, ?_, ?_, ?_, fun K => ?_, fun K => ?_, ho, hw⟩
  · simp only [AMem.cell, hso, Option.bind_some, hsv, if_true, hsc]; rfl
  · simp only [AMem.cell, hso, Option.bind_some, hsv, if_true, hsc]; rfl
  · show some rs.length = _; rw [hl]
  · have h0 : (0 : Int) ≤ (k : Int) := by omega
    have h1 : (k : Int) < (rs.length : Int) := by omega
    simp only [indS, h0, h1, and_self, if_true, nat_toNat]
  · simp only [loadAt, AMem.cell, hlo, Option.bind_some, hlv, if_true, Nat.mul_one, Nat.zero_add, hlc k _ hrk]
/-- A level's row was written. -/
theorem Mp.wrote {N : Nat} {μ μ' : AMem} {x : SV} {n : Nat} {rs : List SV} {wss : List (List Int)} (h : Mp N μ x n rs wss) {k : Nat} {r : SV} {ws : List Int} (hk : rs[k]? = some r) (hkl : k < wss.length) (hK : Keep (isId r) μ μ') (ho : ∃ e, OwnRow N μ' .u64 e r ws) (hw : ∀ w ∈ ws, w64ok w) : Mp N μ' x n rs (wss.set k ws) := by
  obtain ⟨sid, so, lid, lo, ver, hx, hN, hso, hsv, hsc, hN2, hlo, hlv, hlc, hl, hr, hap⟩ := h
  obtain ⟨_, _, hns, hnl⟩ := hr k r _ hk (List.getElem?_eq_getElem hkl)
  refine ⟨sid, so, lid, lo, ver, hx, hN, hK.old _ _ hso hns, hsv, hsc, hN2, hK.old _ _ hlo hnl, hlv, hlc, by simp; exact hl, fun j r' ws' hj hws => ?_, hap⟩
  rw [List.getElem?_set] at hws
  by_cases hjk : k = j
  · subst hjk
    rw [if_pos rfl, if_pos hkl] at hws
    cases hws
    rw [hk] at hj
    cases hj
    exact ⟨ho, hw, hns, hnl⟩
  · rw [if_neg hjk] at hws
    obtain ⟨⟨e, h1⟩, h2, h3, h4⟩ := hr j r' ws' hj hws
    exact ⟨⟨e, ownKeep h1 hK fun i hi hh => hap k j r r' hjk hk hj i hi hh⟩, h2, h3, h4⟩
theorem Mp.keep {N : Nat} {μ μ' : AMem} {S : Nat → Prop} {x : SV} {n : Nat} {rs : List SV} {wss : List (List Int)} (h : Mp N μ x n rs wss) (hK : Same μ μ') : Mp N μ' x n rs wss := by
  obtain ⟨sid, so, lid, lo, ver, hx, hN, hso, hsv, hsc, hN2, hlo, hlv, hlc, hl, hr, hap⟩ := h
  refine ⟨sid, so, lid, lo, ver, hx, hN, hK.old _ _ hso fun h => h, hsv, hsc, hN2, hK.old _ _ hlo fun h => h, hlv, hlc, hl, fun j r' ws' hj hws => ?_, hap⟩
  obtain ⟨⟨e, h1⟩, h2⟩ := hr j r' ws' hj hws
  exact ⟨⟨e, ownKeep h1 hK fun i hi => hi.elim⟩, h2⟩
/-- A map that may be asked: its first level's words. -/
structure Mw (N : Nat) (μ : AMem) (x : SV) (n : Nat) (rs : List SV) (ws : List Int) : Prop where
  ex : ∃ wss, Mp N μ x n rs wss ∧ lens n wss ∧ wss[0]? = some ws
theorem mapMay_is {N : Nat} {μ : AMem} {x : SV} {n : Nat} {rs : List SV} {ws : List Int} (h : Mw N μ x n rs ws) (i : Int) : bitmap_Map_may [.s x, .s (.int .i64 i)] μ = some (.s (.bool (decide (0 ≤ i) && decide (i < n))), μ) := by
  obtain ⟨wss, hm, hl, h0⟩ := h.ex
  obtain ⟨sid, r, L, p, rfl, hr, hc0, hc1, hL, hi, hld, _⟩ := hm.level h0
  rw [bitmap_Map_may_eq]
  by_cases h1 : 0 ≤ i
  · rw [decide_eq_true h1, Bool.true_and]
    simp -implicitDefEqProofs (disch := omega) only [lt_t, lt_f, gt_t, gt_f, le_t, le_f, ge_t, ge_f, ne_t, ne_f, eq_t, eq_f, w64, chk_true, Option.bind_some, decide_true, decide_false, cond_true, cond_false, seqJ_n, seqJ_r, seqJ_e, headK_c, asB_bool, asI_int, asS_s, asN_int, extrK_0, extrK_1, extrK_2, Bool.not_true, Bool.not_false, Nat.beq_refl, hc0]
  · rw [decide_eq_false h1, Bool.false_and]
    simp -implicitDefEqProofs (disch := omega) only [lt_t, lt_f, gt_t, gt_f, le_t, le_f, ge_t, ge_f, ne_t, ne_f, eq_t, eq_f, w64, chk_true, Option.bind_some, decide_true, decide_false, cond_true, cond_false, seqJ_n, seqJ_r, seqJ_e, headK_c, asB_bool, asI_int, asS_s, asN_int, extrK_0, extrK_1, extrK_2, Bool.not_true, Bool.not_false, Nat.beq_refl]
def usedZ (n : Nat) (ws : List Int) (i : Int) : Bool := !(decide (0 ≤ i) && decide (i < n)) || U ws i.toNat
theorem used_is {N : Nat} {μ : AMem} {x : SV} {n : Nat} {rs : List SV} {ws : List Int} (h : Mw N μ x n rs ws) (i : Int) : bitmap_Map_Used [.s x, .s (.int .i64 i)] μ = some (.s (.bool (usedZ n ws i)), μ) := by
  have hmay := mapMay_is h i
  obtain ⟨wss, hm, hl, h0⟩ := h.ex
  obtain ⟨sid, r, L, p, rfl, hr, hc0, hc1, hL, hi, hld, ⟨e, ho⟩, hok⟩ := hm.level h0
  obtain ⟨hl1, hl100, hl2, _⟩ := hl
  obtain ⟨hn, hn2⟩ := hl2 ws h0
  rw [bitmap_Map_Used_eq, hmay]
  unfold usedZ
  by_cases hb : 0 ≤ i ∧ i < n
  · obtain ⟨j, rfl⟩ : ∃ j : Nat, i = (j : Int) := ⟨i.toNat, by omega⟩
    have hbt : (decide (0 ≤ (j : Int)) && decide ((j : Int) < (n : Int))) = true := by rw [decide_eq_true hb.1, decide_eq_true hb.2]; rfl
    have hj : j / 64 < ws.length := by omega
    have e1 : IntKind.wrap .i64 (Int.tdiv (j : Int) 64) = ((j / 64 : Nat) : Int) := by rw [Int.tdiv_eq_ediv_of_nonneg (by omega), wr (by omega)]; omega
    have e2 : Int.tmod (j : Int) 64 = ((j % 64 : Nat) : Int) := by rw [Int.tmod_eq_emod_of_nonneg (by omega)]; omega
    have e3 : min (Int.toNat ((j % 64 : Nat) : Int)) (IntKind.bits .u64) = j % 64 := by show min _ 64 = _; omega
    have e3b : min (j % 64) (IntKind.bits .u64) = j % 64 := by show min _ 64 = _; omega
    have a1 := fun {R : Type} (K : AV → Option R) => ho.row.ind (i := ((j / 64 : Nat) : Int)) (by omega) (by omega) K
    have a2 := fun {R : Type} (K : AV → Option R) => ho.row.load (i := ((j / 64 : Nat) : Int)) (by omega) (by omega) K
    rw [nat_toNat] at a2
    have hlk := look_bit (hok _ (getD_mem hj)) (j % 64)
    have hi0 := fun {R : Type} (K : AV → Option R) => hi K
    rw [n0] at hi0
    rw [hbt]
    simp -implicitDefEqProofs only [hc1, hi0, hld, e1, a1, a2, e2, if_neg (show ¬ ((j % 64 : Nat) : Int) < 0 by omega), e3, e3b, hlk, Bool.false_or, nat_toNat, Option.bind_some, decide_true, decide_false, cond_true, cond_false, seqJ_n, seqJ_r, seqJ_e, headK_c, asB_bool, asI_int, asS_s, asN_int, extrK_0, extrK_1, extrK_2, Bool.not_true, Bool.not_false, Nat.beq_refl]
    rfl
  · have hbf : (decide (0 ≤ i) && decide (i < (n : Int))) = false := by
      by_cases h1 : 0 ≤ i
      · rw [decide_eq_false (p := i < (n : Int)) (by omega), Bool.and_false]
      · rw [decide_eq_false h1, Bool.false_and]
    rw [hbf]
    simp -implicitDefEqProofs only [Bool.true_or, Option.bind_some, decide_true, decide_false, cond_true, cond_false, seqJ_n, seqJ_r, seqJ_e, headK_c, asB_bool, asI_int, asS_s, asN_int, extrK_0, extrK_1, extrK_2, Bool.not_true, Bool.not_false, Nat.beq_refl]
theorem setL_loop {N : Nat} {x : SV} {n : Nat} {rs : List SV} :
    ∀ (m k i : Nat) (b : Bool) (μ : AMem) (wss : List (List Int)), k + m = wss.length → (∀ ws, wss[k]? = some ws → i / 64 < ws.length) → (∀ (k : Nat) ws vs, wss[k]? = some ws → wss[k + 1]? = some vs → ws.length ≤ 64 * vs.length) → i ≤ 1000000 → wss.length ≤ 100 → WF μ → Mp N μ x n rs wss →
      ∃ μ' wss', bitmap_Map_Set_L1 [.s x, .s (.int .i64 wss.length)] [.s (.int .i64 i), .s (.bool b), .s (.int .i64 k)] μ = some (.exit 0, [], μ') ∧ Keep (feet rs) μ μ' ∧ Mp N μ' x n rs wss' ∧ wss'.length = wss.length ∧
        (∀ j : Nat, (wss'[j]?.map List.length) = (wss[j]?.map List.length)) ∧ (∀ j : Nat, j < k → wss'[j]? = wss[j]?) ∧ (∀ ws, wss[k]? = some ws → wss'[k]? = some (setWd ws i b)) ∧
        ((∀ j : Nat, k ≤ j → ∀ ws vs, wss[j]? = some ws → wss[j + 1]? = some vs → Sm ws vs) → ∀ j : Nat, k ≤ j → ∀ ws vs, wss'[j]? = some ws → wss'[j + 1]? = some vs → Sm ws vs)
  | 0, k, i, b, μ, wss, hk, hi, hc, hb, h100, hw, h => by
    have hx : ∃ sid, x = .ptr sid 0 0 := by obtain ⟨sid, so, lid, lo, ver, rfl, _⟩ := h; exact ⟨sid, rfl⟩
    obtain ⟨sid, rfl⟩ := hx
    rw [bitmap_Map_Set_L1_eq, bitmap_Map_Set_L1_B_eq]
    refine ⟨μ, wss, ?_, Keep.refl hw, h, rfl, fun _ => rfl, fun _ _ => rfl, fun ws hws => ?_, fun h => h⟩
    · simp -implicitDefEqProofs (disch := omega) only [lt_t, lt_f, gt_t, gt_f, le_t, le_f, ge_t, ge_f, ne_t, ne_f, eq_t, eq_f, w64, chk_true, Option.bind_some, decide_true, decide_false, cond_true, cond_false, seqJ_n, seqJ_r, seqJ_e, headK_c, asB_bool, asI_int, asS_s, asN_int, extrK_0, extrK_1, extrK_2, Bool.not_true, Bool.not_false, Nat.beq_refl]
    · have := (List.getElem?_eq_some_iff.mp hws).1
      omega
  | m + 1, k, i, b, μ, wss, hk, hi, hc, hb, h100, hw, h => by
    have hkl : k < wss.length := by omega
    obtain ⟨ws, hws⟩ : ∃ ws, wss[k]? = some ws := ⟨_, List.getElem?_eq_getElem hkl⟩
    have hiw := hi ws hws
    obtain ⟨sid, r, L, p, hx, hr, hc0, hc1, hL, hind, hld, ⟨e, ho⟩, hok⟩ := h.level hws
    obtain ⟨m1, s1, s2, s3, s4⟩ := storeK hw ho (i := i / 64) hiw (if b then orW (ws.getD (i / 64) 0) (i % 64) else clrW (ws.getD (i / 64) 0) (i % 64))
    have h1 : Mp N m1 x n rs (wss.set k (setWd ws i b)) := h.wrote hr hkl s2 ⟨e, s3⟩ (setWd_ok hok i b)
    have hws1 : (wss.set k (setWd ws i b))[k]? = some (setWd ws i b) := List.getElem?_set_self hkl
    obtain ⟨sid', r', L', p', hx', hr', hc0', hc1', hL', hind', hld', ⟨e', ho'⟩, hok'⟩ := h1.level hws1
    obtain rfl : r' = r := by rw [hr] at hr'; cases hr'; rfl
    have hsl := setWd_len ws i b
    have hne : ∀ j ws', j ≠ k → ((wss.set k (setWd ws i b))[j]? = some ws' ↔ wss[j]? = some ws') := fun j ws' hj => by rw [List.getElem?_set_ne (fun e => hj e.symm)]
    obtain ⟨b', hb'⟩ : ∃ b', ((setWd ws i b).getD (i / 64) 0 == 18446744073709551615) = b' := ⟨_, rfl⟩
    obtain ⟨m2, wss2, q1, q2, q3, q4, q5, q6, q7, q8⟩ := setL_loop (N := N) (x := x) (n := n) (rs := rs) m (k + 1) (i / 64) b' m1 (wss.set k (setWd ws i b)) (by simp; omega)
      (fun vs hvs => by
        rw [hne _ _ (by omega)] at hvs
        have := hc k ws vs hws hvs
        omega)
      (fun j ws' vs h1 h2 => by
        by_cases hj : j = k
        · subst hj
          rw [hws1] at h1
          cases h1
          rw [hne _ _ (by omega)] at h2
          rw [hsl]; exact hc j ws vs hws h2
        · rw [hne _ _ hj] at h1
          by_cases hj2 : j + 1 = k
          · rw [hj2, hws1] at h2
            cases h2
            rw [hsl]; exact hc j ws' ws h1 (by rw [hj2]; exact hws)
          · rw [hne _ _ hj2] at h2
            exact hc j ws' vs h1 h2)
      (by omega) (by simp; exact h100) s2.wf h1
    have hll : (wss.set k (setWd ws i b)).length = wss.length := by simp
    rw [hll, nsu] at q1
    have hfeet : ∀ j, isId r' j → feet rs j := fun j hj => ⟨r', List.mem_of_getElem? hr, hj⟩
    refine ⟨m2, wss2, ?_, (s2.weak0 hfeet).trans q2, q3, q4.trans hll, fun j => ?_, fun j hj => ?_, fun ws' hws' => ?_, fun hS j hj => ?_⟩
    · subst hx
      have e1 : IntKind.wrap .i64 (Int.tdiv (i : Int) 64) = ((i / 64 : Nat) : Int) := by rw [Int.tdiv_eq_ediv_of_nonneg (by omega), wr (by omega)]; omega
      have e2 : Int.tmod (i : Int) 64 = ((i % 64 : Nat) : Int) := by rw [Int.tmod_eq_emod_of_nonneg (by omega)]; omega
      have e3 : min (Int.toNat ((i % 64 : Nat) : Int)) (IntKind.bits .u64) = i % 64 := by show min _ 64 = _; omega
      have ei : IntKind.wrap .i64 ((k : Int) + 1) = (k : Int) + 1 := wr (by omega)
      have a1 := fun {R : Type} (K : AV → Option R) => ho.row.ind (i := ((i / 64 : Nat) : Int)) (by omega) (by omega) K
      have a2 := fun {R : Type} (K : AV → Option R) => ho.row.load (i := ((i / 64 : Nat) : Int)) (by omega) (by omega) K
      have a3 := fun {R : Type} (K : AV → Option R) => ho'.row.ind (i := ((i / 64 : Nat) : Int)) (by omega) (by rw [hsl]; omega) K
      have a4 := fun {R : Type} (K : AV → Option R) => ho'.row.load (i := ((i / 64 : Nat) : Int)) (by omega) (by rw [hsl]; omega) K
      rw [nat_toNat] at a2 a4
      rw [hb'.symm] at q1
      cases hx'
      rw [bitmap_Map_Set_L1_eq, bitmap_Map_Set_L1_B_eq]
      cases b
      · have hclr : IntKind.wrap .u64 (BitVec.toNat ((BitVec.ofInt (IntKind.bits .u64) (ws.getD (i / 64) 0)) &&& ~~~ (BitVec.ofInt (IntKind.bits .u64) (IntKind.wrap .u64 (1 * 2 ^ (i % 64)))))) = clrW (ws.getD (i / 64) 0) (i % 64) := rfl
        simp only [Bool.false_eq_true, if_false] at s1
        simp -implicitDefEqProofs only [lt_t (show (k : Int) < wss.length by omega), e2, if_neg (show ¬ ((i % 64 : Nat) : Int) < 0 by omega), hc1, hind, hld, e1, a1, a2, e3, hclr, s1, hc1', hind', hld', a3, a4, ei, Option.bind_some, decide_true, decide_false, cond_true, cond_false, seqJ_n, seqJ_r, seqJ_e, headK_c, asB_bool, asI_int, asS_s, asN_int, extrK_0, extrK_1, extrK_2, Bool.not_true, Bool.not_false, Nat.beq_refl]
        exact q1
      · have hor : IntKind.wrap .u64 (BitVec.toNat ((BitVec.ofInt (IntKind.bits .u64) (ws.getD (i / 64) 0)) ||| (BitVec.ofInt (IntKind.bits .u64) (IntKind.wrap .u64 (1 * 2 ^ (i % 64)))))) = orW (ws.getD (i / 64) 0) (i % 64) := rfl
        simp only [if_true] at s1
        simp -implicitDefEqProofs only [lt_t (show (k : Int) < wss.length by omega), e2, if_neg (show ¬ ((i % 64 : Nat) : Int) < 0 by omega), hc1, hind, hld, e1, a1, a2, e3, hor, s1, hc1', hind', hld', a3, a4, ei, Option.bind_some, decide_true, decide_false, cond_true, cond_false, seqJ_n, seqJ_r, seqJ_e, headK_c, asB_bool, asI_int, asS_s, asN_int, extrK_0, extrK_1, extrK_2, Bool.not_true, Bool.not_false, Nat.beq_refl]
        exact q1
    · rw [q5 j]
      by_cases hj : j = k
      · subst hj; rw [hws1, hws]; simp [hsl]
      · rw [List.getElem?_set_ne (fun e => hj e.symm)]
    · rw [q6 j (by omega), List.getElem?_set_ne (by omega)]
    · rw [hws] at hws'
      cases hws'
      rw [q6 k (by omega), hws1]
    · intro us vs hus hvs
      by_cases hjk : j = k
      · subst hjk
        rw [q6 j (by omega), hws1] at hus
        cases hus
        obtain ⟨vs0, hv0⟩ : ∃ vs0, wss[j + 1]? = some vs0 := by
          have := q5 (j + 1)
          rw [hvs, List.getElem?_set_ne (by omega)] at this
          cases hu : wss[j + 1]? with
          | none => rw [hu] at this; cases this
          | some us => exact ⟨us, rfl⟩
        have hv1 := q7 vs0 (by rw [List.getElem?_set_ne (by omega)]; exact hv0)
        rw [hvs] at hv1
        cases hv1
        have hcl := hc j ws vs0 hws hv0
        have hsm := hS j (Nat.le_refl _) ws vs0 hws hv0
        refine ⟨fun l hl => ?_, fun l hl hl2 => ?_⟩
        · rw [hsl] at hl
          rw [U_set (by omega) b' l]
          by_cases hli : l = i / 64
          · rw [if_pos hli, hli, hb']
          · rw [if_neg hli, hsm.1 l hl]
            unfold setWd
            rw [getD_setW hiw, if_neg hli]
        · rw [hsl] at hl
          rw [setWd_len] at hl2
          rw [U_set (by omega) b' l, if_neg (by omega), hsm.2 l hl hl2]
      · refine q8 (fun l hl us vs hus hvs => ?_) j (by omega) us vs hus hvs
        rw [hne _ _ (by omega)] at hus
        rw [hne _ _ (by omega)] at hvs
        exact hS l (by omega) us vs hus hvs
end Go.Proofs.Ytepdjffnjfdklaa
/- Maps: set, the first free one, counts. -/
namespace Go.Proofs.Ytepdjffnjfdklaa
open Go Go.Proofs.Ytepdjffnjfdklaa.E
set_option linter.unusedVariables false
set_option linter.unusedSimpArgs false
theorem mapSet_is {N : Nat} {μ : AMem} (hw : WF μ) {x : SV} {n : Nat} {rs : List SV} {ws : List Int} (h : Mw N μ x n rs ws) (hn : n ≤ 5000) (i : Int) (b : Bool) :
    ((¬ (0 ≤ i ∧ i < n) ∨ usedZ n ws i = b) → bitmap_Map_Set [.s x, .s (.int .i64 i), .s (.bool b)] μ = some (.s (.bool false), μ)) ∧
    ((0 ≤ i ∧ i < n) → usedZ n ws i ≠ b → ∃ μ', bitmap_Map_Set [.s x, .s (.int .i64 i), .s (.bool b)] μ = some (.s (.bool true), μ') ∧ Keep (feet rs) μ μ' ∧ Mw N μ' x n rs (setWd ws i.toNat b)) := by
  have hmay := mapMay_is h i
  have hus := used_is h i
  refine ⟨fun hc => ?_, fun hb hne => ?_⟩
  · obtain ⟨wss, hm, _⟩ := h.ex
    obtain ⟨sid, so, lid, lo, ver, rfl, _⟩ := hm
    rw [bitmap_Map_Set_eq, hmay]
    by_cases hb : 0 ≤ i ∧ i < n
    · have hbt : (decide (0 ≤ i) && decide (i < (n : Int))) = true := by rw [decide_eq_true hb.1, decide_eq_true hb.2]; rfl
      have hub : (usedZ n ws i == b) = true := by
        rcases hc with hc | hc
        · exact absurd hb hc
        · rw [hc]; simp
      rw [hbt]
      simp -implicitDefEqProofs only [hus, hub, Option.bind_some, decide_true, decide_false, cond_true, cond_false, seqJ_n, seqJ_r, seqJ_e, headK_c, asB_bool, asI_int, asS_s, asN_int, extrK_0, extrK_1, extrK_2, Bool.not_true, Bool.not_false, Nat.beq_refl]
    · have hbf : (decide (0 ≤ i) && decide (i < (n : Int))) = false := by
        by_cases h1 : 0 ≤ i
        · rw [decide_eq_false (p := i < (n : Int)) (by omega), Bool.and_false]
        · rw [decide_eq_false h1, Bool.false_and]
      rw [hbf]
      simp -implicitDefEqProofs only [Option.bind_some, decide_true, decide_false, cond_true, cond_false, seqJ_n, seqJ_r, seqJ_e, headK_c, asB_bool, asI_int, asS_s, asN_int, extrK_0, extrK_1, extrK_2, Bool.not_true, Bool.not_false, Nat.beq_refl]
  · obtain ⟨wss, hm, ⟨hl1, hl100, hl2, hl3⟩, h0⟩ := h.ex
    obtain ⟨hn1, hn2⟩ := hl2 ws h0
    obtain ⟨μ', wss', q1, q2, q3, q4, q5, q6, q7, q8⟩ := setL_loop wss.length 0 i.toNat b μ wss (by omega) (fun vs hvs => by rw [h0] at hvs; cases hvs; omega) (fun k ws vs h1 h2 => by have := (hl3 k ws vs h1 h2).1; omega) (by omega) hl100 hw hm
    rw [n0, show ((i.toNat : Nat) : Int) = i by omega] at q1
    have hlv : ∀ (k : Nat) vs, wss'[k]? = some vs → ∃ us, wss[k]? = some us ∧ us.length = vs.length := fun k vs hvs => by
      have := q5 k
      rw [hvs] at this
      cases hu : wss[k]? with
      | none => rw [hu] at this; cases this
      | some us => rw [hu] at this; simp only [Option.map_some, Option.some.injEq] at this; exact ⟨us, rfl, this.symm⟩
    refine ⟨μ', ?_, q2, ⟨wss', q3, ⟨by omega, by omega, fun vs hvs => ?_, fun k vs us hvs hus => ?_⟩, q7 ws h0⟩⟩
    · obtain ⟨sid, r, L, p, hx, _, _, hc1, hL, _⟩ := hm.level h0
      subst hx
      have hbt : (decide (0 ≤ i) && decide (i < (n : Int))) = true := by rw [decide_eq_true hb.1, decide_eq_true hb.2]; rfl
      have hub : (usedZ n ws i == b) = false := by
        cases hq : usedZ n ws i <;> cases b <;> simp_all
      rw [bitmap_Map_Set_eq, hmay, hbt]
      simp -implicitDefEqProofs only [hus, hub, hc1, hL, q1, Option.bind_some, decide_true, decide_false, cond_true, cond_false, seqJ_n, seqJ_r, seqJ_e, headK_c, asB_bool, asI_int, asS_s, asN_int, extrK_0, extrK_1, extrK_2, Bool.not_true, Bool.not_false, Nat.beq_refl]
    · obtain ⟨us, h1, h2⟩ := hlv 0 vs hvs
      have := hl2 us h1
      omega
    · obtain ⟨vs', h1, h2⟩ := hlv k vs hvs
      obtain ⟨us', h3, h4⟩ := hlv (k + 1) us hus
      have := (hl3 k vs' us' h1 h3).1
      exact ⟨by omega, q8 (fun j _ ws vs h1 h2 => (hl3 j ws vs h1 h2).2) k (by omega) vs us hvs hus⟩
theorem usedZ_in {n : Nat} {ws : List Int} {i : Nat} (h : i < n) : usedZ n ws (i : Int) = U ws i := by
  unfold usedZ
  rw [decide_eq_true (by omega), decide_eq_true (by omega)]; rfl
/-- The least free one from there on. -/
def Fst (V : Nat → Bool) (n : Nat) (a : Nat) (f : Int) : Prop := (f = -1 ∧ ∀ j, a ≤ j → j < n → V j = true) ∨ ∃ g : Nat, f = (g : Int) ∧ a ≤ g ∧ g < n ∧ V g = false ∧ ∀ j, a ≤ j → j < g → V j = true
theorem first_loop {N : Nat} {μ : AMem} {x : SV} {n : Nat} {rs : List SV} {ws : List Int} (h : Mw N μ x n rs ws) (hn : n ≤ 5000) :
    ∀ (m i : Nat), n ≤ i + m → i ≤ 6000 → (∃ v, bitmap_Map_First_L1 [.s x] [.s (.int .i64 i)] μ = some (.ret, [.s (.int .i64 v)], μ) ∧ Fst (U ws) n i v) ∨ (bitmap_Map_First_L1 [.s x] [.s (.int .i64 i)] μ = some (.exit 0, [], μ) ∧ Fst (U ws) n i (-1))
  | 0, i, h1, h2 => by
    obtain ⟨wss, hm, _, h0⟩ := h.ex
    obtain ⟨sid, r, L, p, rfl, _, hc0, _⟩ := hm.level h0
    refine .inr ⟨?_, .inl ⟨rfl, fun j h3 h4 => by omega⟩⟩
    rw [bitmap_Map_First_L1_eq, bitmap_Map_First_L1_B_eq]
    simp -implicitDefEqProofs only [hc0, lt_f (show (n : Int) ≤ i by omega), Option.bind_some, decide_true, decide_false, cond_true, cond_false, seqJ_n, seqJ_r, seqJ_e, headK_c, asB_bool, asI_int, asS_s, asN_int, extrK_0, extrK_1, extrK_2, Bool.not_true, Bool.not_false, Nat.beq_refl]
  | m + 1, i, h1, h2 => by
    have hh := h
    obtain ⟨wss, hm, ⟨hl1, hl100, hl2, hl3⟩, h0⟩ := h.ex
    obtain ⟨sid, r, L, p, hx, _, hc0, hc1, hL, hi, hld, ⟨e, ho⟩, hok⟩ := hm.level h0
    obtain ⟨hn1, hn2⟩ := hl2 ws h0
    by_cases hin : i < n
    · have hus := used_is h (i : Int)
      rw [usedZ_in hin] at hus
      subst hx
      have hj : i / 64 < ws.length := by omega
      have e1 : IntKind.wrap .i64 (Int.tdiv (i : Int) 64) = ((i / 64 : Nat) : Int) := by rw [Int.tdiv_eq_ediv_of_nonneg (by omega), wr (by omega)]; omega
      have e2 : Int.tmod (i : Int) 64 = ((i % 64 : Nat) : Int) := by rw [Int.tmod_eq_emod_of_nonneg (by omega)]; omega
      have a1 := fun {R : Type} (K : AV → Option R) => ho.row.ind (i := ((i / 64 : Nat) : Int)) (by omega) (by omega) K
      have a2 := fun {R : Type} (K : AV → Option R) => ho.row.load (i := ((i / 64 : Nat) : Int)) (by omega) (by omega) K
      rw [nat_toNat] at a2
      have hi0 := fun {R : Type} (K : AV → Option R) => hi K
      rw [n0] at hi0
      have ei : IntKind.wrap .i64 ((i : Int) + 1) = (i : Int) + 1 := wr (by omega)
      have ci := lt_t (a := (i : Int)) (b := (n : Int)) (by omega)
      by_cases hf : i % 64 = 0 ∧ ws.getD (i / 64) 0 = 18446744073709551615
      · have e3 : IntKind.wrap .i64 (IntKind.wrap .i64 (IntKind.wrap .i64 ((i : Int) + 64) - 1) + 1) = ((i + 64 : Nat) : Int) := by rw [wr (n := (i : Int) + 64) (by omega), wr (n := (i : Int) + 64 - 1) (by omega), wr (by omega)]; omega
        have hfull : ∀ j, i ≤ j → j < i + 64 → U ws j = true := fun j h3 h4 => by
          unfold U
          rw [show j / 64 = i / 64 by omega, hf.2]
          exact full_bit ⟨j % 64, by omega⟩
        have ih := first_loop hh hn m (i + 64) (by omega) (by omega)
        have q0 := eq_t (a := ((i % 64 : Nat) : Int)) (b := 0) (by omega)
        have q1 := eq_t hf.2
        rw [bitmap_Map_First_L1_eq, bitmap_Map_First_L1_B_eq]
        simp -implicitDefEqProofs only [hc0, ci, e2, q0, hc1, hi0, hld, e1, a1, a2, q1, e3, Option.bind_some, decide_true, decide_false, cond_true, cond_false, seqJ_n, seqJ_r, seqJ_e, headK_c, asB_bool, asI_int, asS_s, asN_int, extrK_0, extrK_1, extrK_2, Bool.not_true, Bool.not_false, Nat.beq_refl]
        rcases ih with ⟨v, f1, f2⟩ | ⟨f1, f2⟩
        · refine .inl ⟨v, f1, ?_⟩
          rcases f2 with ⟨rfl, g2⟩ | ⟨g, rfl, g2, g3, g4, g5⟩
          · exact .inl ⟨rfl, fun j h3 h4 => by
              by_cases h5 : j < i + 64
              · exact hfull j h3 h5
              · exact g2 j (by omega) h4⟩
          · exact .inr ⟨g, rfl, by omega, g3, g4, fun j h3 h4 => by
              by_cases h5 : j < i + 64
              · exact hfull j h3 h5
              · exact g5 j (by omega) h4⟩
        · refine .inr ⟨f1, ?_⟩
          rcases f2 with ⟨_, g2⟩ | ⟨g, hg, _⟩
          · exact .inl ⟨rfl, fun j h3 h4 => by
              by_cases h5 : j < i + 64
              · exact hfull j h3 h5
              · exact g2 j (by omega) h4⟩
          · omega
      · have hsel : (bif (((i % 64 : Nat) : Int) == 0) then (some (AExit.normal, [AV.s (.bool (ws.getD (i / 64) 0 == 18446744073709551615))], μ)) else (some (AExit.normal, [AV.s (.bool false)], μ))) = some (AExit.normal, [AV.s (.bool false)], μ) := by
          by_cases h3 : i % 64 = 0
          · have : (ws.getD (i / 64) 0 == 18446744073709551615) = false := eq_f fun e => hf ⟨h3, e⟩
            rw [this]; cases (((i % 64 : Nat) : Int) == 0) <;> rfl
          · rw [eq_f (show ¬ ((i % 64 : Nat) : Int) = 0 by omega)]; rfl
        have ih := first_loop hh hn m (i + 1) (by omega) (by omega)
        rw [nsu] at ih
        rw [bitmap_Map_First_L1_eq, bitmap_Map_First_L1_B_eq]
        cases hU : U ws i
        · rw [hU] at hus
          refine .inl ⟨(i : Int), ?_, .inr ⟨i, rfl, Nat.le_refl _, hin, hU, fun j h3 h4 => by omega⟩⟩
          simp -implicitDefEqProofs only [hc0, ci, e2, hc1, hi0, hld, e1, a1, a2, hsel, hus, Option.bind_some, decide_true, decide_false, cond_true, cond_false, seqJ_n, seqJ_r, seqJ_e, headK_c, asB_bool, asI_int, asS_s, asN_int, extrK_0, extrK_1, extrK_2, Bool.not_true, Bool.not_false, Nat.beq_refl]
        · rw [hU] at hus
          simp -implicitDefEqProofs only [hc0, ci, e2, hc1, hi0, hld, e1, a1, a2, hsel, hus, ei, Option.bind_some, decide_true, decide_false, cond_true, cond_false, seqJ_n, seqJ_r, seqJ_e, headK_c, asB_bool, asI_int, asS_s, asN_int, extrK_0, extrK_1, extrK_2, Bool.not_true, Bool.not_false, Nat.beq_refl]
          rcases ih with ⟨v, f1, f2⟩ | ⟨f1, f2⟩
          · refine .inl ⟨v, f1, ?_⟩
            rcases f2 with ⟨rfl, g2⟩ | ⟨g, rfl, g2, g3, g4, g5⟩
            · exact .inl ⟨rfl, fun j h3 h4 => by
                by_cases h5 : j = i
                · rw [h5]; exact hU
                · exact g2 j (by omega) h4⟩
            · exact .inr ⟨g, rfl, by omega, g3, g4, fun j h3 h4 => by
                by_cases h5 : j = i
                · rw [h5]; exact hU
                · exact g5 j (by omega) h4⟩
          · refine .inr ⟨f1, ?_⟩
            rcases f2 with ⟨_, g2⟩ | ⟨g, hg, _⟩
            · exact .inl ⟨rfl, fun j h3 h4 => by
                by_cases h5 : j = i
                · rw [h5]; exact hU
                · exact g2 j (by omega) h4⟩
            · omega
    · subst hx
      refine .inr ⟨?_, .inl ⟨rfl, fun j h3 h4 => by omega⟩⟩
      rw [bitmap_Map_First_L1_eq, bitmap_Map_First_L1_B_eq]
      simp -implicitDefEqProofs only [hc0, lt_f (show (n : Int) ≤ i by omega), Option.bind_some, decide_true, decide_false, cond_true, cond_false, seqJ_n, seqJ_r, seqJ_e, headK_c, asB_bool, asI_int, asS_s, asN_int, extrK_0, extrK_1, extrK_2, Bool.not_true, Bool.not_false, Nat.beq_refl]
theorem mapFirst_is {N : Nat} {μ : AMem} {x : SV} {n : Nat} {rs : List SV} {ws : List Int} (h : Mw N μ x n rs ws) (hn : n ≤ 5000) : ∃ f, bitmap_Map_First [.s x, .s (.int .i64 0)] μ = some (.s (.int .i64 f), μ) ∧ Fst (U ws) n 0 f := by
  have hl := first_loop h hn n 0 (by omega) (by omega)
  rw [n0] at hl
  have hx : ∃ sid, x = .ptr sid 0 0 := by obtain ⟨wss, ⟨sid, so, lid, lo, ver, rfl, _⟩, _⟩ := h.ex; exact ⟨sid, rfl⟩
  obtain ⟨sid, rfl⟩ := hx
  have e0 : (if (0 : Int) > 0 then (0 : Int) else 0) = 0 := rfl
  rcases hl with ⟨v, e, hv⟩ | ⟨e, hv⟩
  · refine ⟨v, ?_, hv⟩
    rw [bitmap_Map_First_eq, e0, e]
    simp -implicitDefEqProofs only [Option.bind_some, decide_true, decide_false, cond_true, cond_false, seqJ_n, seqJ_r, seqJ_e, headK_c, asB_bool, asI_int, asS_s, asN_int, extrK_0, extrK_1, extrK_2, Bool.not_true, Bool.not_false, Nat.beq_refl]
  · refine ⟨-1, ?_, hv⟩
    rw [bitmap_Map_First_eq, e0, e]
    simp -implicitDefEqProofs only [Option.bind_some, decide_true, decide_false, cond_true, cond_false, seqJ_n, seqJ_r, seqJ_e, headK_c, asB_bool, asI_int, asS_s, asN_int, extrK_0, extrK_1, extrK_2, Bool.not_true, Bool.not_false, Nat.beq_refl]
theorem Fst.unique {V : Nat → Bool} {n a : Nat} {f g : Int} (h1 : Fst V n a f) (h2 : Fst V n a g) : f = g := by
  rcases h1 with ⟨rfl, a1⟩ | ⟨u, rfl, a1, a2, a3, a4⟩
  · rcases h2 with ⟨rfl, b1⟩ | ⟨v, rfl, b1, b2, b3, b4⟩
    · rfl
    · rw [a1 v b1 b2] at b3; cases b3
  · rcases h2 with ⟨rfl, b1⟩ | ⟨v, rfl, b1, b2, b3, b4⟩
    · rw [b1 u a1 a2] at a3; cases a3
    · rcases Nat.lt_trichotomy u v with h | h | h
      · rw [b4 u a1 h] at a3; cases a3
      · rw [h]
      · rw [a4 v b1 h] at b3; cases b3
def cntF (V : Nat → Bool) : Nat → Int
  | 0 => 0
  | n + 1 => cntF V n + if V n then 1 else 0
theorem cntF_le (V : Nat → Bool) : ∀ n : Nat, 0 ≤ cntF V n ∧ cntF V n ≤ n
  | 0 => by simp [cntF]
  | n + 1 => by
    have := cntF_le V n
    rw [cntF]; split <;> omega
theorem count_loop {N : Nat} {μ : AMem} {x : SV} {n : Nat} {rs : List SV} {ws : List Int} (h : Mw N μ x n rs ws) (hn : n ≤ 5000) :
    ∀ (m i : Nat), i + m = n → bitmap_Map_Count_L1 [.s x, .s (.int .i64 n)] [.s (.int .i64 (cntF (U ws) i)), .s (.int .i64 i)] μ = some (.exit 0, [.s (.int .i64 (cntF (U ws) n))], μ)
  | 0, i, h1 => by
    have hx : ∃ sid, x = .ptr sid 0 0 := by obtain ⟨wss, ⟨sid, so, lid, lo, ver, rfl, _⟩, _⟩ := h.ex; exact ⟨sid, rfl⟩
    obtain ⟨sid, rfl⟩ := hx
    obtain rfl : i = n := by omega
    rw [bitmap_Map_Count_L1_eq, bitmap_Map_Count_L1_B_eq]
    simp -implicitDefEqProofs (disch := omega) only [lt_t, lt_f, gt_t, gt_f, le_t, le_f, ge_t, ge_f, ne_t, ne_f, eq_t, eq_f, w64, chk_true, Option.bind_some, decide_true, decide_false, cond_true, cond_false, seqJ_n, seqJ_r, seqJ_e, headK_c, asB_bool, asI_int, asS_s, asN_int, extrK_0, extrK_1, extrK_2, Bool.not_true, Bool.not_false, Nat.beq_refl]
  | m + 1, i, h1 => by
    have hus := used_is h (i : Int)
    rw [usedZ_in (n := n) (ws := ws) (i := i) (by omega)] at hus
    have ih := count_loop h hn m (i + 1) (by omega)
    rw [nsu] at ih
    have hc := cntF_le (U ws) i
    have hx : ∃ sid, x = .ptr sid 0 0 := by obtain ⟨wss, ⟨sid, so, lid, lo, ver, rfl, _⟩, _⟩ := h.ex; exact ⟨sid, rfl⟩
    obtain ⟨sid, rfl⟩ := hx
    have ei : IntKind.wrap .i64 ((i : Int) + 1) = (i : Int) + 1 := wr (by omega)
    have ec : IntKind.wrap .i64 (cntF (U ws) i + 1) = cntF (U ws) i + 1 := wr (by omega)
    have ci := lt_t (a := (i : Int)) (b := (n : Int)) (by omega)
    rw [bitmap_Map_Count_L1_eq, bitmap_Map_Count_L1_B_eq]
    cases hU : U ws i
    · rw [hU] at hus
      rw [cntF, hU] at ih
      simp only [Bool.false_eq_true, if_false, Int.add_zero] at ih
      simp -implicitDefEqProofs only [ci, hus, ei, Option.bind_some, decide_true, decide_false, cond_true, cond_false, seqJ_n, seqJ_r, seqJ_e, headK_c, asB_bool, asI_int, asS_s, asN_int, extrK_0, extrK_1, extrK_2, Bool.not_true, Bool.not_false, Nat.beq_refl]
      exact ih
    · rw [hU] at hus
      rw [cntF, hU] at ih
      simp only [if_true] at ih
      simp -implicitDefEqProofs only [ci, hus, ec, ei, Option.bind_some, decide_true, decide_false, cond_true, cond_false, seqJ_n, seqJ_r, seqJ_e, headK_c, asB_bool, asI_int, asS_s, asN_int, extrK_0, extrK_1, extrK_2, Bool.not_true, Bool.not_false, Nat.beq_refl]
      exact ih
theorem mapCount_is {N : Nat} {μ : AMem} {x : SV} {n : Nat} {rs : List SV} {ws : List Int} (h : Mw N μ x n rs ws) (hn : n ≤ 5000) : bitmap_Map_Count [.s x] μ = some (.s (.int .i64 (cntF (U ws) n)), μ) := by
  have hl := count_loop h hn n 0 (by omega)
  rw [n0, show cntF (U ws) 0 = 0 from rfl] at hl
  obtain ⟨wss, hm, _, h0⟩ := h.ex
  obtain ⟨sid, r, L, p, rfl, _, hc0, _⟩ := hm.level h0
  rw [bitmap_Map_Count_eq]
  simp -implicitDefEqProofs only [hc0, hl, Option.bind_some, decide_true, decide_false, cond_true, cond_false, seqJ_n, seqJ_r, seqJ_e, headK_c, asB_bool, asI_int, asS_s, asN_int, extrK_0, extrK_1, extrK_2, Bool.not_true, Bool.not_false, Nat.beq_refl]
theorem mapTake_is {N : Nat} {μ : AMem} (hw : WF μ) {x : SV} {n : Nat} {rs : List SV} {ws : List Int} (h : Mw N μ x n rs ws) (hn : n ≤ 5000) :
    ((∀ j, j < n → U ws j = true) → bitmap_Map_Take [.s x] μ = some (.s (.int .i64 (-1)), μ)) ∧
    (∀ g : Nat, g < n → U ws g = false → (∀ j, j < g → U ws j = true) → ∃ μ', bitmap_Map_Take [.s x] μ = some (.s (.int .i64 g), μ') ∧ Keep (feet rs) μ μ' ∧ Mw N μ' x n rs (setWd ws g true)) := by
  obtain ⟨f, e1, hf⟩ := mapFirst_is h hn
  have hx : ∃ sid, x = .ptr sid 0 0 := by obtain ⟨wss, ⟨sid, so, lid, lo, ver, rfl, _⟩, _⟩ := h.ex; exact ⟨sid, rfl⟩
  obtain ⟨sid, rfl⟩ := hx
  refine ⟨fun hall => ?_, fun g hg hgf hgl => ?_⟩
  · obtain rfl := hf.unique (.inl ⟨rfl, fun j _ hj => hall j hj⟩)
    have e2 := (mapSet_is hw h hn (-1) true).1 (.inl (by omega))
    rw [bitmap_Map_Take_eq]
    simp -implicitDefEqProofs only [e1, e2, Option.bind_some, decide_true, decide_false, cond_true, cond_false, seqJ_n, seqJ_r, seqJ_e, headK_c, asB_bool, asI_int, asS_s, asN_int, extrK_0, extrK_1, extrK_2, Bool.not_true, Bool.not_false, Nat.beq_refl]
  · obtain rfl := hf.unique (.inr ⟨g, rfl, by omega, hg, hgf, fun j _ hj => hgl j hj⟩)
    obtain ⟨m, e2, k2, h2⟩ := (mapSet_is hw h hn (g : Int) true).2 (by omega) (by rw [usedZ_in hg, hgf]; simp)
    rw [nat_toNat] at h2
    refine ⟨m, ?_, k2, h2⟩
    rw [bitmap_Map_Take_eq]
    simp -implicitDefEqProofs only [e1, e2, Option.bind_some, decide_true, decide_false, cond_true, cond_false, seqJ_n, seqJ_r, seqJ_e, headK_c, asB_bool, asI_int, asS_s, asN_int, extrK_0, extrK_1, extrK_2, Bool.not_true, Bool.not_false, Nat.beq_refl]
end Go.Proofs.Ytepdjffnjfdklaa
/- A new map. -/
namespace Go.Proofs.Ytepdjffnjfdklaa
open Go Go.Proofs.Ytepdjffnjfdklaa.E
set_option linter.unusedVariables false
set_option linter.unusedSimpArgs false
/-- A level of so many digits: ones behind the last one. -/
def onesW (k : Nat) : List Int := if k % 64 = 0 then List.replicate ((k + 63) / 64) 0 else (List.replicate ((k + 63) / 64) 0).set ((k + 63) / 64 - 1) (IntKind.wrap .u64 (18446744073709551615 * 2 ^ (k % 64)))
theorem ones_len (k : Nat) : (onesW k).length = (k + 63) / 64 := by unfold onesW; split <;> simp
theorem top_bit : ∀ r j : Fin 64, bitV (IntKind.wrap .u64 (18446744073709551615 * 2 ^ r.val)) j.val = decide (r.val ≤ j.val) := by decide +kernel
theorem top_ok : ∀ r : Fin 64, w64ok (IntKind.wrap .u64 (18446744073709551615 * 2 ^ r.val)) := by unfold w64ok; decide +kernel
theorem ones_ok (k : Nat) : ∀ w ∈ onesW k, w64ok w := by
  intro w hw
  unfold onesW at hw
  split at hw
  · rw [List.eq_of_mem_replicate hw]; unfold w64ok; omega
  · rcases List.mem_or_eq_of_mem_set hw with h1 | h1
    · rw [List.eq_of_mem_replicate h1]; unfold w64ok; omega
    · rw [h1]; exact top_ok ⟨k % 64, by omega⟩
theorem rep_getD (n j : Nat) : (List.replicate n (0 : Int)).getD j 0 = 0 := by
  rw [List.getD_eq_getElem?_getD, List.getElem?_replicate]; split <;> rfl
theorem U_ones {k j : Nat} (hj : j < 64 * ((k + 63) / 64)) : U (onesW k) j = decide (k ≤ j) := by
  unfold U onesW
  by_cases h : k % 64 = 0
  · rw [if_pos h, rep_getD, zero_bit, decide_eq_false (by omega)]
  · rw [if_neg h, getD_setW (by simp; omega)]
    by_cases hc : j / 64 = (k + 63) / 64 - 1
    · rw [if_pos hc]
      have := top_bit ⟨k % 64, by omega⟩ ⟨j % 64, by omega⟩
      simp only at this
      rw [this]
      by_cases hh : k ≤ j
      · rw [decide_eq_true hh, decide_eq_true (by omega)]
      · rw [decide_eq_false hh, decide_eq_false (by omega)]
    · rw [if_neg hc, rep_getD, zero_bit, decide_eq_false (by omega)]
theorem ones_is {μ : AMem} (hw : WF μ) {k : Nat} (h1 : 1 ≤ k) (h2 : k ≤ 5000) : ∃ y μ', bitmap_ones [.s (.int .i64 k)] μ = some (.s y, μ') ∧ Same μ μ' ∧ OwnRow μ.next μ' .u64 31 y (onesW k) ∧ μ'.next = μ.next + 6 ∧ ∀ j, isId y j → j = μ.next + 4 := by
  obtain ⟨L, hL⟩ : ∃ L, L = (k + 63) / 64 := ⟨_, rfl⟩
  have e1 : IntKind.wrap .i64 (Int.tdiv (IntKind.wrap .i64 ((IntKind.wrap .i64 ((k : Int) + 64)) - 1)) 64) = (L : Int) := by
    rw [wr (n := (k : Int) + 64) (by omega), wr (n := (k : Int) + 64 - 1) (by omega), Int.tdiv_eq_ediv_of_nonneg (by omega), wr (by omega)]; omega
  have e2 : Int.tmod (k : Int) 64 = ((k % 64 : Nat) : Int) := by rw [Int.tmod_eq_emod_of_nonneg (by omega)]; omega
  have e3 : IntKind.wrap .i64 ((L : Int) - 1) = ((L - 1 : Nat) : Int) := by rw [wr (by omega)]; omega
  have e4 : min (k % 64) (IntKind.bits .u64) = k % 64 := by show min _ 64 = _; omega
  have hs := newS (Keep.refl (S := fun _ => False) hw) (n := 6) (a := 4) (by omega) (rowObj (zerosA [.int .u64 0] L) 1 31 (some L))
  have ho : OwnRow μ.next ((μ.bump 6).set (μ.next + 4) (rowObj (zerosA [.int .u64 0] L) 1 31 (some L))) .u64 31 (.slice (μ.next + 4) 0 0 L) (List.replicate L 0) :=
    OwnRow.new (o := rowObj (zerosA [.int .u64 0] L) 1 31 (some L)) (by simp) (by omega) (by simp) rfl rfl rfl rfl (by show zerosA _ L = _; rw [zerosA_rep]; simp)
  rw [bitmap_ones_eq]
  simp only [e1, e2, e3, nat_toNat, e4]
  rw [if_pos ⟨by omega, by omega, by omega, by omega⟩]
  by_cases h : k % 64 = 0
  · refine ⟨.slice (μ.next + 4) 0 0 L, _, ?_, hs, ?_, rfl, fun j hj => (show μ.next + 4 = j from hj).symm⟩
    · rw [ne_f (show ((k % 64 : Nat) : Int) = 0 by omega)]
      simp -implicitDefEqProofs only [Option.bind_some, decide_true, decide_false, cond_true, cond_false, seqJ_n, seqJ_r, seqJ_e, headK_c, asB_bool, asI_int, asS_s, asN_int, extrK_0, extrK_1, extrK_2, Bool.not_true, Bool.not_false, Nat.beq_refl]
    · unfold onesW
      rw [if_pos h, ← hL]; exact ho
  · obtain ⟨m1, s1, s2, s3, s4⟩ := storeK hs.wf ho (i := L - 1) (by simp; omega) (IntKind.wrap .u64 (18446744073709551615 * 2 ^ (k % 64)))
    refine ⟨.slice (μ.next + 4) 0 0 L, m1, ?_, keepSame hw hs s2 fun j hj => ?_, ?_, by rw [s4]; rfl, fun j hj => (show μ.next + 4 = j from hj).symm⟩
    · have s1' := fun {R : Type} (K : AMem → Option R) => s1 K
      simp only [storeAt, plc, AV.cells, List.length_singleton, if_true, nat_toNat] at s1'
      rw [ne_t (show ¬ ((k % 64 : Nat) : Int) = 0 by omega), if_neg (show ¬ ((k % 64 : Nat) : Int) < 0 by omega), if_pos (show (0 : Int) ≤ ((L - 1 : Nat) : Int) ∧ ((L - 1 : Nat) : Int) < ((L : Nat) : Int) by omega), s1']
      simp -implicitDefEqProofs only [Option.bind_some, decide_true, decide_false, cond_true, cond_false, seqJ_n, seqJ_r, seqJ_e, headK_c, asB_bool, asI_int, asS_s, asN_int, extrK_0, extrK_1, extrK_2, Bool.not_true, Bool.not_false, Nat.beq_refl]
    · have : μ.next + 4 = j := hj
      omega
    · unfold onesW
      rw [if_neg h, ← hL]; exact s3
/-- A row of any values of the call's own. -/
def OwnV (N : Nat) (μ : AMem) (e : TypeId) (x : SV) (rs : List SV) : Prop :=
  (x = .nilSlice ∧ rs = []) ∨ ∃ id ver o, x = .slice id ver 0 rs.length ∧ N ≤ id ∧ μ.obj id = some o ∧ o.own = true ∧ o.ver = ver ∧ o.size = 1 ∧ o.elem = e ∧ ∀ (i : Nat) r, rs[i]? = some r → o.cells[i]? = some r
theorem cells_lenV {rs cs : List SV} (hc : ∀ (i : Nat) n, rs[i]? = some n → cs[i]? = some n) : rs.length ≤ cs.length := by
  rcases Nat.eq_zero_or_pos rs.length with h0 | h0
  · omega
  · have := (List.getElem?_eq_some_iff.mp (hc (rs.length - 1) _ (List.getElem?_eq_getElem (by omega)))).1
    omega
theorem OwnV.len {N : Nat} {μ : AMem} {e : TypeId} {x : SV} {rs : List SV} (h : OwnV N μ e x rs) : lenS (.s x) = some rs.length := by
  rcases h with ⟨rfl, rfl⟩ | ⟨id, ver, o, rfl, _⟩ <;> rfl
theorem OwnV.keep {N : Nat} {μ μ' : AMem} {e : TypeId} {x : SV} {rs : List SV} (h : OwnV N μ e x rs) (hk : ∀ id o, μ.obj id = some o → isId x id → μ'.obj id = some o) : OwnV N μ' e x rs := by
  rcases h with ⟨rfl, rfl⟩ | ⟨id, ver, o, rfl, hN, ho, r⟩
  · exact .inl ⟨rfl, rfl⟩
  · exact .inr ⟨id, ver, o, rfl, hN, hk id o ho rfl, r⟩
theorem OwnV.lives {N : Nat} {μ : AMem} {e : TypeId} {x : SV} {rs : List SV} (h : OwnV N μ e x rs) {id : Nat} (hi : isId x id) : N ≤ id ∧ ∃ o, μ.obj id = some o := by
  rcases h with ⟨rfl, _⟩ | ⟨j, ver, o, rfl, hN, ho, _⟩
  · exact hi.elim
  · have : j = id := hi
    subst this
    exact ⟨hN, o, ho⟩
theorem OwnV.push {N : Nat} {μ : AMem} (hw : WF μ) {e : TypeId} {x : SV} {rs : List SV} (h : OwnV N μ e x rs) {y : SV} {B lit nid : Nat} (hl : rs.length ≤ 1000) (hB : B ≤ 1000) (hN : N ≤ nid) (hlt : nid < μ.next) (hf : μ.obj nid = none) {q : Option Nat} (hlit : μ.obj lit = some (rowObj [y] 1 e q)) :
    ∃ x' μ', (∀ {R : Type} (K : AV → AMem → Option R), appendA e 1 B nid μ (.s x) (.s (.slice lit 0 0 1)) K = K (.s x') μ') ∧ OwnV N μ' e x' (rs ++ [y]) ∧ WF μ' ∧ μ'.next = μ.next ∧
      ((∀ id o, μ.obj id = some o → ¬ isId x id → μ'.obj id = some o) ∧ (∀ id, id ≠ nid → μ.obj id = none → μ'.obj id = none)) ∧ (∀ id, isId x' id → isId x id ∨ id = nid) := by
  have hrow : μ.row 1 1 (.s (.slice lit 0 0 1)) = some [y] := by
    simp only [AMem.row, hlit, Option.bind_some]
    rfl
  have hb : (rs.length + 1) * B ≤ 140737488355328 := by
    have : (rs.length + 1) * B ≤ 1001 * 1000 := Nat.mul_le_mul (by omega) hB
    omega
  have hlen : lenS (.s (.slice lit 0 0 1)) = some 1 := rfl
  rcases h with ⟨rfl, rfl⟩ | ⟨id, ver, o, rfl, hN', ho, how, hv, hs, he, hc⟩
  · refine ⟨.slice nid 0 0 1, μ.set nid (rowObj [y] 1 e none), fun K => ?_, ?_, hw.set hlt, rfl, ⟨fun id o ho _ => ?_, fun id hne hn => by simp [hne, hn]⟩, fun id h => .inr (show nid = id from h).symm⟩
    · simp only [appendA, hlen, Option.bind_some, hrow, appendS]
      rw [if_pos ⟨by simpa using hb, by omega⟩, if_neg (by omega)]
    · exact .inr ⟨nid, 0, rowObj [y] 1 e none, rfl, hN, by simp, rfl, rfl, rfl, rfl, fun i r hi => hi⟩
    · have : id ≠ nid := fun e => by subst e; rw [hf] at ho; cases ho
      simp [this, ho]
  · have hcl := cells_lenV hc
    refine ⟨.slice id (ver + 1) 0 (rs.length + 1), μ.set id (newVer o (o.cells.take rs.length ++ [y])), fun K => ?_, ?_, hw.set (hw.lt ho), rfl, ⟨fun id' o' ho' hne => ?_, fun id' hne' hn => ?_⟩, fun id' h => .inl h⟩
    · simp only [appendA, hlen, Option.bind_some, hrow, appendS, ho, how, hv, hs, he, Nat.mul_one]
      rw [if_pos ⟨trivial, trivial, trivial, trivial, hcl, hb, by omega⟩, if_neg (by omega)]
    · refine .inr ⟨id, ver + 1, newVer o (o.cells.take rs.length ++ [y]), by simp, hN', by simp, how, by simp [newVer, hv], hs, he, fun i n hi => ?_⟩
      show (o.cells.take rs.length ++ [y])[i]? = _
      have htl : (o.cells.take rs.length).length = rs.length := by simp [Nat.min_eq_left hcl]
      rw [List.getElem?_append] at hi ⊢
      rw [htl]
      split at hi
      · rename_i hlt'
        rw [if_pos hlt', List.getElem?_take, if_pos hlt']; exact hc i n hi
      · rename_i hlt'
        rw [if_neg hlt']; exact hi
    · have : id' ≠ id := fun e => hne e.symm
      simp [this, ho']
    · have : id' ≠ id := fun e => by rw [e, ho] at hn; cases hn
      simp [this, hn]
/-- A map that is being made. -/
def Mq (N : Nat) (μ : AMem) (sid n : Nat) (X : SV) (rs : List SV) (wss : List (List Int)) : Prop :=
  N ≤ sid ∧ (∃ so, μ.obj sid = some so ∧ so.own = true ∧ so.ver = 0 ∧ so.cells = [.int .i64 n, X]) ∧ OwnV N μ 29 X rs ∧ ¬ isId X sid ∧ rs.length = wss.length ∧
    (∀ (k : Nat) r ws, rs[k]? = some r → wss[k]? = some ws → (∃ e, OwnRow N μ .u64 e r ws) ∧ (∀ w ∈ ws, w64ok w) ∧ ¬ isId r sid ∧ Apart r X) ∧
    (∀ (i j : Nat) r r', i ≠ j → rs[i]? = some r → rs[j]? = some r' → Apart r r')
theorem Mq.mp {N : Nat} {μ : AMem} {sid n : Nat} {X : SV} {rs : List SV} {wss : List (List Int)} (h : Mq N μ sid n X rs wss) (hne : rs ≠ []) : Mp N μ (.ptr sid 0 0) n rs wss := by
  obtain ⟨h1, ⟨so, h2, h3, h4, h5⟩, h6, h7, h8, h9, h10⟩ := h
  rcases h6 with ⟨_, e⟩ | ⟨id, ver, o, rfl, g1, g2, g3, g4, g5, g6, g7⟩
  · exact absurd e hne
  · refine ⟨sid, so, id, o, ver, rfl, h1, h2, h4, h5, g1, g2, g4, g7, h8, fun k r ws hr hws => ?_, h10⟩
    obtain ⟨q1, q2, q3, q4⟩ := h9 k r ws hr hws
    exact ⟨q1, q2, q3, fun h => q4 id h rfl⟩
theorem new_body {N : Nat} {μ : AMem} (hw : WF μ) (hN : N ≤ μ.next) {sid n : Nat} {X : SV} {rs : List SV} {wss : List (List Int)} (h : Mq N μ sid n X rs wss) {k : Nat} (h1 : 1 ≤ k) (h2 : k ≤ 5000) (hr : rs.length ≤ 10) :
    ∃ X' y μ', Mq N μ' sid n X' (rs ++ [y]) (wss ++ [onesW k]) ∧ Keep (fun j => N ≤ j) μ μ' ∧
      bitmap_New_L1_B [.s (.ptr sid 0 0)] [.s (.int .i64 k)] μ = if k ≤ 64 then some (.ret, [.s (.ptr sid 0 0), .s (.int .i64 0)], μ') else some (.normal, [.s (.int .i64 ((k + 63) / 64 : Nat))], μ') := by
  obtain ⟨g1, ⟨so, g2, g3, g4, g5⟩, g6, g7, g8, g9, g10⟩ := h
  have hsl := hw.lt g2
  have hs1 : Same μ (μ.bump 12) := Keep.bump hw 12
  obtain ⟨y, m2, o1, o2, o3, o4, o5⟩ := ones_is hs1.wf h1 h2
  simp only [bump_next] at o3 o4 o5
  have hs2 : Same μ m2 := hs1.trans o2
  have hso2 : m2.obj sid = some so := hs2.old _ _ g2 fun h => h
  have hfree : ∀ j, j < 12 → m2.obj (μ.next + j) = none := fun j hj => freshS hw hj o2
  have hlt3 : μ.next + 7 < m2.next := by omega
  obtain ⟨m3, hm3⟩ : ∃ m3, m3 = m2.set (μ.next + 7) (rowObj [y] 1 29 (some 1)) := ⟨_, rfl⟩
  have hs3 : Same μ m3 := by rw [hm3]; exact Keep.setS hw hs2 (by omega) hlt3
  have hk3 : ∀ id o, m2.obj id = some o → m3.obj id = some o := fun id o ho => by
    have : id ≠ μ.next + 7 := fun e => by rw [e, hfree 7 (by omega)] at ho; cases ho
    rw [hm3, set_obj, if_neg this]; exact ho
  have hX3 : OwnV N m3 29 X rs := g6.keep fun id o ho _ => hs3.old id o ho fun h => h
  obtain ⟨X', m4, a1, a2, a3, a4, a5, a6⟩ := hX3.push hs3.wf (y := y) (B := 24) (lit := μ.next + 7) (nid := μ.next + 8) (by omega) (by omega) (by omega) (by rw [hm3, set_next]; omega) (by rw [hm3, set_obj, if_neg (by omega)]; exact hfree 8 (by omega)) (q := some 1) (by rw [hm3]; simp)
  have hso4 : m4.obj sid = some so := a5.1 _ _ (hk3 _ _ hso2) g7
  obtain ⟨m5, hm5⟩ : ∃ m5, m5 = m4.set sid { so with cells := [.int .i64 n, X'] } := ⟨_, rfl⟩
  have hst : m4.store sid 0 (0 + 1) [X'] = some m5 := by
    simp only [AMem.store, hso4, Option.bind_some]
    rw [if_pos ⟨g3, g4, by rw [g5]; simp⟩, hm5, g5]; rfl
  have hX'sid : ¬ isId X' sid := fun h => by
    rcases a6 sid h with h3 | h3
    · exact g7 h3
    · omega
  have hX'l : ∀ id, isId X' id → ∃ o, m4.obj id = some o := fun id hi => (a2.lives hi).2
  have hk5 : ∀ id o, m4.obj id = some o → id ≠ sid → m5.obj id = some o := fun id o ho hne => by rw [hm5, set_obj, if_neg hne]; exact ho
  have hX5 : OwnV N m5 29 X' (rs ++ [y]) := a2.keep fun id o ho hi => hk5 id o ho fun e => hX'sid (e ▸ hi)
  have hysid : ¬ isId y sid := fun h => by have := o5 _ h; omega
  have hyX : Apart y X := fun id hi hx => by
    have := o5 _ hi
    obtain ⟨_, o, ho⟩ := g6.lives hx
    have := hw.lt ho
    omega
  have hyX' : Apart y X' := fun id hi hx => by
    rcases a6 id hx with h3 | h3
    · exact hyX id hi h3
    · have := o5 _ hi; omega
  have hy5 : OwnRow N m5 .u64 31 y (onesW k) := ((o3.less (M := N) (by omega)).old fun id o ho hi => hk5 id o (a5.1 id o (hk3 id o ho) (hyX id hi)) fun e => hysid (e ▸ hi))
  have hlenr : (rs ++ [y]).length = rs.length + 1 := by simp
  have hkeep : Keep (fun j => N ≤ j) μ m5 := by
    have hw5 : WF m5 := by rw [hm5]; exact a3.set (a3.lt hso4)
    have hn5 : m5.next = m2.next := by rw [hm5, set_next, a4, hm3, set_next]
    refine ⟨hw5, by omega, fun id o ho hns => ?_, fun id hi hno => ?_⟩
    · refine hk5 id o (a5.1 id o (hs3.old id o ho fun h => h) fun hx => hns ((g6.lives hx).1)) fun e => hns (e ▸ g1)
    · have h3 : m3.obj id = none := hs3.low id hi hno
      have h4 : m4.obj id = none := a5.2 id (by omega) h3
      have : id ≠ sid := fun e => by rw [e, hso4] at h4; cases h4
      rw [hm5, set_obj, if_neg this]; exact h4
  refine ⟨X', y, m5, ⟨g1, ⟨{ so with cells := [.int .i64 n, X'] }, by rw [hm5]; simp, g3, g4, rfl⟩, hX5, hX'sid, by simp; exact g8, fun j r ws hj hws => ?_, fun i j r r' hij hi hj => ?_⟩, hkeep, ?_⟩
  · rw [List.getElem?_append] at hj hws
    by_cases hjl : j < rs.length
    · rw [if_pos hjl] at hj
      rw [if_pos (by omega)] at hws
      obtain ⟨⟨e, q1⟩, q2, q3, q4⟩ := g9 j r ws hj hws
      refine ⟨⟨e, q1.old fun id o ho hi => hk5 id o (a5.1 id o (hs3.old id o ho fun h => h) (q4 id hi)) fun e => q3 (e ▸ hi)⟩, q2, q3, fun id hi hx => ?_⟩
      rcases a6 id hx with h3 | h3
      · exact q4 id hi h3
      · obtain ⟨_, o, ho⟩ := own_lives q1 hi
        have := hw.lt ho
        omega
    · rw [if_neg hjl] at hj
      rw [if_neg (by omega)] at hws
      have hj0 : j - rs.length = 0 := by have := (List.getElem?_eq_some_iff.mp hj).1; simp at this; omega
      have hw0 : j - wss.length = 0 := by omega
      rw [hj0] at hj
      rw [hw0] at hws
      cases hj
      cases hws
      exact ⟨⟨31, hy5⟩, ones_ok k, hysid, hyX'⟩
  · have hyr : ∀ (j : Nat) r, rs[j]? = some r → Apart y r := fun j r hj id hi hx => by
      have hjl := (List.getElem?_eq_some_iff.mp hj).1
      obtain ⟨⟨e, q1⟩, _⟩ := g9 j r _ hj (List.getElem?_eq_getElem (by omega))
      obtain ⟨_, o, ho⟩ := own_lives q1 hx
      have := hw.lt ho
      have := o5 _ hi
      omega
    have hlast : ∀ (j : Nat) r, ¬ j < rs.length → (rs ++ [y])[j]? = some r → j = rs.length ∧ r = y := fun j r hjl hj => by
      rw [List.getElem?_append, if_neg hjl] at hj
      have hj0 : j - rs.length = 0 := by have := (List.getElem?_eq_some_iff.mp hj).1; simp at this; omega
      rw [hj0] at hj
      cases hj
      exact ⟨by omega, rfl⟩
    by_cases hi1 : i < rs.length
    · have hi2 := hi
      rw [List.getElem?_append, if_pos hi1] at hi2
      by_cases hj1 : j < rs.length
      · rw [List.getElem?_append, if_pos hj1] at hj
        exact g10 i j r r' hij hi2 hj
      · obtain ⟨_, rfl⟩ := hlast j r' hj1 hj
        exact (hyr i r hi2).symm
    · obtain ⟨hi3, rfl⟩ := hlast i r hi1 hi
      by_cases hj1 : j < rs.length
      · rw [List.getElem?_append, if_pos hj1] at hj
        exact hyr j r' hj
      · obtain ⟨hj3, _⟩ := hlast j r' hj1 hj
        omega
  · have c1 : (μ.bump 12).cell sid 0 (0 + 1) = some X := by
      simp only [AMem.cell, bump_obj, g2, Option.bind_some, g4, if_true, g5]; rfl
    have c2 : m2.cell sid 0 (0 + 1) = some X := by
      simp only [AMem.cell, hso2, Option.bind_some, g4, if_true, g5]; rfl
    have c5 : m5.cell sid 0 (0 + 1) = some X' := by
      rw [hm5]
      simp only [AMem.cell, set_self, Option.bind_some, g4, if_true]; rfl
    rw [bitmap_New_L1_B_eq]
    simp -implicitDefEqProofs only [c1, o1, c2, hfree 7 (by omega), chk_true, Option.bind_some, decide_true, decide_false, cond_true, cond_false, seqJ_n, seqJ_r, seqJ_e, headK_c, asB_bool, asI_int, asS_s, asN_int, extrK_0, extrK_1, extrK_2, Bool.not_true, Bool.not_false, Nat.beq_refl]
    rw [← hm3]
    simp -implicitDefEqProofs only [a1, hst, Option.bind_some, decide_true, decide_false, cond_true, cond_false, seqJ_n, seqJ_r, seqJ_e, headK_c, asB_bool, asI_int, asS_s, asN_int, extrK_0, extrK_1, extrK_2, Bool.not_true, Bool.not_false, Nat.beq_refl]
    by_cases hk : k ≤ 64
    · rw [if_pos hk, le_t (by omega)]
      simp -implicitDefEqProofs only [Option.bind_some, decide_true, decide_false, cond_true, cond_false, seqJ_n, seqJ_r, seqJ_e, headK_c, asB_bool, asI_int, asS_s, asN_int, extrK_0, extrK_1, extrK_2, Bool.not_true, Bool.not_false, Nat.beq_refl]
    · have hL := hX5.len
      have ei : IntKind.wrap .i64 ((((rs ++ [y]).length : Nat) : Int) - 1) = (rs.length : Int) := by rw [hlenr, wr (by omega)]; omega
      have hyl : lenS (.s y) = some (onesW k).length := o3.row.len
      rw [ones_len] at hyl
      rw [if_neg hk, le_f (by omega)]
      simp -implicitDefEqProofs only [c5, hL, ei, Option.bind_some, decide_true, decide_false, cond_true, cond_false, seqJ_n, seqJ_r, seqJ_e, headK_c, asB_bool, asI_int, asS_s, asN_int, extrK_0, extrK_1, extrK_2, Bool.not_true, Bool.not_false, Nat.beq_refl]
      rcases hX5 with ⟨_, e⟩ | ⟨id, ver, o, rfl, b1, b2, b3, b4, b5, b6, b7⟩
      · simp at e
      · have bc := b7 rs.length y (by rw [List.getElem?_append, if_neg (by omega), Nat.sub_self]; rfl)
        simp only [indS]
        rw [if_pos (by rw [hlenr]; omega)]
        simp -implicitDefEqProofs only [loadAt, AMem.cell, b2, b4, nat_toNat, Nat.mul_one, Nat.zero_add, if_true, bc, hyl, Option.bind_some, decide_true, decide_false, cond_true, cond_false, seqJ_n, seqJ_r, seqJ_e, headK_c, asB_bool, asI_int, asS_s, asN_int, extrK_0, extrK_1, extrK_2, Bool.not_true, Bool.not_false, Nat.beq_refl]
theorem mapNew_is {μ : AMem} (hw : WF μ) {n : Nat} (h1 : 1 ≤ n) (h2 : n ≤ 4096) : ∃ x rs wss μ', bitmap_New [.s (.int .i64 n)] μ = some (.tuple [.s x, .s (.int .i64 0)], μ') ∧ Same μ μ' ∧ Mp μ.next μ' x n rs wss ∧ wss = (if n ≤ 64 then [onesW n] else [onesW n, onesW ((n + 63) / 64)]) := by
  obtain ⟨m0, hm0⟩ : ∃ m0, m0 = ((μ.bump 4).set (μ.next + 2) (rowObj [.int .i64 n, .nilSlice] 2 50 (some 1))) := ⟨_, rfl⟩
  have hs0 : Same μ m0 := by rw [hm0]; exact newS (Keep.refl hw) (by omega) _
  have hq0 : Mq μ.next m0 (μ.next + 2) n .nilSlice [] [] := ⟨by omega, ⟨rowObj [.int .i64 n, .nilSlice] 2 50 (some 1), by rw [hm0]; simp, rfl, rfl, rfl⟩, .inl ⟨rfl, rfl⟩, fun h => h, rfl, fun k r ws hk => by simp at hk, fun i j r r' _ hi => by simp at hi⟩
  obtain ⟨X1, y1, m1, q1, k1, b1⟩ := new_body hs0.wf hs0.next hq0 h1 (by omega) (by simp)
  have hs1 := keepSame hw hs0 k1 fun j hj => hj
  have c1 := lt_f (a := (n : Int)) (b := 1) (by omega)
  have c2 := gt_f (a := (n : Int)) (b := 4096) (by omega)
  by_cases hn : n ≤ 64
  · rw [if_pos hn] at b1
    rw [if_pos hn]
    refine ⟨_, _, _, m1, ?_, hs1, q1.mp (by simp), rfl⟩
    rw [bitmap_New_eq]
    simp -implicitDefEqProofs only [c1, c2, ← hm0, Option.bind_some, decide_true, decide_false, cond_true, cond_false, seqJ_n, seqJ_r, seqJ_e, headK_c, asB_bool, asI_int, asS_s, asN_int, extrK_0, extrK_1, extrK_2, Bool.not_true, Bool.not_false, Nat.beq_refl]
    rw [bitmap_New_L1_eq, b1]
    simp -implicitDefEqProofs only [Option.bind_some, decide_true, decide_false, cond_true, cond_false, seqJ_n, seqJ_r, seqJ_e, headK_c, asB_bool, asI_int, asS_s, asN_int, extrK_0, extrK_1, extrK_2, Bool.not_true, Bool.not_false, Nat.beq_refl]
  · rw [if_neg hn] at b1
    rw [if_neg hn]
    obtain ⟨X2, y2, m2, q2, k2, b2⟩ := new_body (k := (n + 63) / 64) hs1.wf hs1.next q1 (by omega) (by omega) (by simp)
    have hs2 := keepSame hw hs1 k2 fun j hj => hj
    rw [if_pos (by omega)] at b2
    refine ⟨_, _, _, m2, ?_, hs2, q2.mp (by simp), rfl⟩
    rw [bitmap_New_eq]
    simp -implicitDefEqProofs only [c1, c2, ← hm0, Option.bind_some, decide_true, decide_false, cond_true, cond_false, seqJ_n, seqJ_r, seqJ_e, headK_c, asB_bool, asI_int, asS_s, asN_int, extrK_0, extrK_1, extrK_2, Bool.not_true, Bool.not_false, Nat.beq_refl]
    rw [bitmap_New_L1_eq, b1]
    simp -implicitDefEqProofs only [Option.bind_some, decide_true, decide_false, cond_true, cond_false, seqJ_n, seqJ_r, seqJ_e, headK_c, asB_bool, asI_int, asS_s, asN_int, extrK_0, extrK_1, extrK_2, Bool.not_true, Bool.not_false, Nat.beq_refl]
    rw [bitmap_New_L1_eq, b2]
    simp -implicitDefEqProofs only [Option.bind_some, decide_true, decide_false, cond_true, cond_false, seqJ_n, seqJ_r, seqJ_e, headK_c, asB_bool, asI_int, asS_s, asN_int, extrK_0, extrK_1, extrK_2, Bool.not_true, Bool.not_false, Nat.beq_refl]
/-- A new map: all are free, and behind them none is. -/
theorem mapNew_t {μ : AMem} (hw : WF μ) {n : Nat} (h1 : 1 ≤ n) (h2 : n ≤ 4096) : ∃ x rs ws μ', bitmap_New [.s (.int .i64 n)] μ = some (.tuple [.s x, .s (.int .i64 0)], μ') ∧ Same μ μ' ∧ Mw μ.next μ' x n rs ws ∧ (∀ j, j < n → U ws j = false) ∧ ∀ j, n ≤ j → j < 64 * ws.length → U ws j = true := by
  obtain ⟨x, rs, wss, m, e, hs, hm, hwss⟩ := mapNew_is hw h1 h2
  have h0 : wss[0]? = some (onesW n) := by rw [hwss]; split <;> rfl
  refine ⟨x, rs, onesW n, m, e, hs, ⟨wss, hm, ⟨?_, ?_, fun ws h => ?_, fun k ws vs h3 h4 => ?_⟩, h0⟩, fun j hj => by rw [U_ones (by omega), decide_eq_false (by omega)], fun j hj hj2 => by
    rw [ones_len] at hj2
    rw [U_ones hj2, decide_eq_true hj]⟩
  · rw [hwss]; split
    · exact .inl ⟨rfl, by omega⟩
    · exact .inr ⟨rfl, by omega⟩
  · rw [hwss]; split <;> simp
  · rw [h0] at h
    cases h
    rw [ones_len]
    omega
  · rw [hwss] at h3 h4
    split at h3
    · rename_i hn
      rw [if_pos hn] at h4
      rcases k with _ | k <;> cases h4
    · rename_i hn
      rw [if_neg hn] at h4
      rcases k with _ | k
      · simp at h3 h4
        subst h3 h4
        refine ⟨by rw [ones_len, ones_len], fun j hj => ?_, fun j hj hj2 => by
          rw [ones_len] at hj hj2
          rw [U_ones hj2, decide_eq_true hj]⟩
        rw [ones_len] at hj
        rw [U_ones (by omega), decide_eq_false (by omega)]
        refine (eq_f fun e => ?_).symm
        have h5 := U_ones (k := n) (j := 64 * j) (by omega)
        unfold U at h5
        rw [show 64 * j / 64 = j by omega, e, show 64 * j % 64 = 0 by omega, full_bit ⟨0, by omega⟩, decide_eq_false (by omega)] at h5
        cases h5
      · simp at h4
/-- A new map: all are free. -/
theorem mapNew_w {μ : AMem} (hw : WF μ) {n : Nat} (h1 : 1 ≤ n) (h2 : n ≤ 4096) : ∃ x rs ws μ', bitmap_New [.s (.int .i64 n)] μ = some (.tuple [.s x, .s (.int .i64 0)], μ') ∧ Same μ μ' ∧ Mw μ.next μ' x n rs ws ∧ ∀ j, j < n → U ws j = false := by
  obtain ⟨x, rs, ws, m, e, hs, hm, hf, _⟩ := mapNew_t hw h1 h2
  exact ⟨x, rs, ws, m, e, hs, hm, hf⟩
end Go.Proofs.Ytepdjffnjfdklaa
/- Maps in use: what each call leaves. -/
namespace Go.Proofs.Ytepdjffnjfdklaa
open Go Go.Proofs.Ytepdjffnjfdklaa.E
set_option linter.unusedVariables false
set_option linter.unusedSimpArgs false
theorem Mw.len {N : Nat} {μ : AMem} {x : SV} {n : Nat} {rs : List SV} {ws : List Int} (h : Mw N μ x n rs ws) : n ≤ 64 * ws.length := by
  obtain ⟨wss, _, ⟨_, _, h3, _⟩, h0⟩ := h.ex
  exact (h3 ws h0).1
theorem Mw.nn {N : Nat} {μ : AMem} {x : SV} {n : Nat} {rs : List SV} {ws : List Int} (h : Mw N μ x n rs ws) : isNil (.s x) = some false := by
  obtain ⟨wss, hm, _⟩ := h.ex
  exact hm.nn
theorem Mw.isPtr {N : Nat} {μ : AMem} {x : SV} {n : Nat} {rs : List SV} {ws : List Int} (h : Mw N μ x n rs ws) : ∃ sid, x = .ptr sid 0 0 := by
  obtain ⟨wss, ⟨sid, so, lid, lo, ver, rfl, _⟩, _⟩ := h.ex
  exact ⟨sid, rfl⟩
theorem Mw.ids {N : Nat} {μ : AMem} {x : SV} {n : Nat} {rs : List SV} {ws : List Int} (h : Mw N μ x n rs ws) {j : Nat} (hj : feet rs j) : N ≤ j := by
  obtain ⟨wss, hm, _⟩ := h.ex
  exact (hm.ids hj).1
theorem Mw.same {N : Nat} {μ μ' : AMem} {x : SV} {n : Nat} {rs : List SV} {ws : List Int} (h : Mw N μ x n rs ws) (hs : Same μ μ') : Mw N μ' x n rs ws := by
  obtain ⟨wss, hm, hl, h0⟩ := h.ex
  exact ⟨wss, hm.keep (S := fun _ => False) hs, hl, h0⟩
theorem U_setW {N : Nat} {μ : AMem} {x : SV} {n : Nat} {rs : List SV} {ws : List Int} (h : Mw N μ x n rs ws) {i : Nat} (hi : i < n) (b : Bool) (j : Nat) : U (setWd ws i b) j = if j = i then b else U ws j := by
  have := h.len
  exact U_set (by omega) b j
/-- Set, whatever it answers. -/
theorem mapSet_any {N : Nat} {μ : AMem} (hw : WF μ) {x : SV} {n : Nat} {rs : List SV} {ws : List Int} (h : Mw N μ x n rs ws) (hn : n ≤ 5000) (i : Int) (b : Bool) :
    ∃ a ws' μ', bitmap_Map_Set [.s x, .s (.int .i64 i), .s (.bool b)] μ = some (.s (.bool a), μ') ∧ Keep (feet rs) μ μ' ∧ Mw N μ' x n rs ws' := by
  obtain ⟨h1, h2⟩ := mapSet_is hw h hn i b
  by_cases hb : 0 ≤ i ∧ i < n
  · by_cases hu : usedZ n ws i = b
    · exact ⟨_, ws, μ, h1 (.inr hu), Keep.refl hw, h⟩
    · obtain ⟨m, e, k, g⟩ := h2 hb hu
      exact ⟨_, _, m, e, k, g⟩
  · exact ⟨_, ws, μ, h1 (.inl hb), Keep.refl hw, h⟩
theorem cnt_all {V : Nat → Bool} : ∀ n : Nat, (∀ j, j < n → V j = true) → cntF V n = n
  | 0, _ => rfl
  | n + 1, h => by rw [cntF, cnt_all n fun j hj => h j (by omega), h n (by omega), if_pos rfl]; rfl
end Go.Proofs.Ytepdjffnjfdklaa
/- Runs of a map. -/
namespace Go.Proofs.Ytepdjffnjfdklaa
open Go Go.Proofs.Ytepdjffnjfdklaa.E
set_option linter.unusedVariables false
set_option linter.unusedSimpArgs false
def runF (V : Nat → Bool) (k : Int) : Nat → Nat → Int → Int
  | 0, _, _ => -1
  | m + 1, i, h => if (if V i then 0 else h + 1) = k then (i : Int) - k + 1 else runF V k m (i + 1) (if V i then 0 else h + 1)
theorem run_loop2 {N : Nat} {μ : AMem} {x : SV} {n : Nat} {rs : List SV} {ws : List Int} {k : Int} (h : Mw N μ x n rs ws) (hn : n ≤ 5000) (hk : 1 ≤ k ∧ k ≤ 5000) :
    ∀ (m i : Nat) (c : Int), i + m = n → 0 ≤ c ∧ c ≤ i → (∃ v, bitmap_Map_Run_L1 [.s x, .s (.int .i64 k), .s (.int .i64 n)] [.s (.int .i64 c), .s (.int .i64 i)] μ = some (.ret, [.s (.int .i64 v)], μ) ∧ runF (U ws) k m i c = v) ∨
      (bitmap_Map_Run_L1 [.s x, .s (.int .i64 k), .s (.int .i64 n)] [.s (.int .i64 c), .s (.int .i64 i)] μ = some (.exit 0, [], μ) ∧ runF (U ws) k m i c = -1)
  | 0, i, c, h1, h2 => by
    have hx : ∃ sid, x = .ptr sid 0 0 := by obtain ⟨wss, ⟨sid, so, lid, lo, ver, rfl, _⟩, _⟩ := h.ex; exact ⟨sid, rfl⟩
    obtain ⟨sid, rfl⟩ := hx
    refine .inr ⟨?_, rfl⟩
    rw [bitmap_Map_Run_L1_eq, bitmap_Map_Run_L1_B_eq]
    simp -implicitDefEqProofs (disch := omega) only [lt_t, lt_f, gt_t, gt_f, le_t, le_f, ge_t, ge_f, ne_t, ne_f, eq_t, eq_f, w64, chk_true, Option.bind_some, decide_true, decide_false, cond_true, cond_false, seqJ_n, seqJ_r, seqJ_e, headK_c, asB_bool, asI_int, asS_s, asN_int, extrK_0, extrK_1, extrK_2, Bool.not_true, Bool.not_false, Nat.beq_refl]
  | m + 1, i, c, h1, h2 => by
    have hus := used_is h (i : Int)
    rw [usedZ_in (n := n) (ws := ws) (i := i) (by omega)] at hus
    have hx : ∃ sid, x = .ptr sid 0 0 := by obtain ⟨wss, ⟨sid, so, lid, lo, ver, rfl, _⟩, _⟩ := h.ex; exact ⟨sid, rfl⟩
    obtain ⟨sid, rfl⟩ := hx
    have ec : IntKind.wrap .i64 (c + 1) = c + 1 := wr (by omega)
    have ei : IntKind.wrap .i64 ((i : Int) + 1) = (i : Int) + 1 := wr (by omega)
    have er : IntKind.wrap .i64 (IntKind.wrap .i64 ((i : Int) - k) + 1) = (i : Int) - k + 1 := by rw [wr (n := (i : Int) - k) (by omega), wr (by omega)]
    have ci := lt_t (a := (i : Int)) (b := (n : Int)) (by omega)
    rw [bitmap_Map_Run_L1_eq, bitmap_Map_Run_L1_B_eq, runF]
    cases hU : U ws i
    · rw [hU] at hus
      simp only [Bool.false_eq_true, if_false]
      by_cases hc : c + 1 = k
      · rw [if_pos hc]
        refine .inl ⟨_, ?_, rfl⟩
        simp -implicitDefEqProofs only [ci, hus, ec, eq_t hc, er, Option.bind_some, decide_true, decide_false, cond_true, cond_false, seqJ_n, seqJ_r, seqJ_e, headK_c, asB_bool, asI_int, asS_s, asN_int, extrK_0, extrK_1, extrK_2, Bool.not_true, Bool.not_false, Nat.beq_refl]
      · rw [if_neg hc]
        have ih := run_loop2 h hn hk m (i + 1) (c + 1) (by omega) (by omega)
        rw [nsu] at ih
        simp -implicitDefEqProofs only [ci, hus, ec, eq_f hc, ei, Option.bind_some, decide_true, decide_false, cond_true, cond_false, seqJ_n, seqJ_r, seqJ_e, headK_c, asB_bool, asI_int, asS_s, asN_int, extrK_0, extrK_1, extrK_2, Bool.not_true, Bool.not_false, Nat.beq_refl]
        exact ih
    · rw [hU] at hus
      simp only [if_true]
      have hc : ¬ (0 : Int) = k := by omega
      rw [if_neg hc]
      have ih := run_loop2 h hn hk m (i + 1) 0 (by omega) (by omega)
      rw [nsu] at ih
      simp -implicitDefEqProofs only [ci, hus, eq_f hc, ei, Option.bind_some, decide_true, decide_false, cond_true, cond_false, seqJ_n, seqJ_r, seqJ_e, headK_c, asB_bool, asI_int, asS_s, asN_int, extrK_0, extrK_1, extrK_2, Bool.not_true, Bool.not_false, Nat.beq_refl]
      exact ih
theorem mapRun_is {N : Nat} {μ : AMem} {x : SV} {n : Nat} {rs : List SV} {ws : List Int} {k : Int} (h : Mw N μ x n rs ws) (hn : n ≤ 5000) (hk : 1 ≤ k ∧ k ≤ 5000) : bitmap_Map_Run [.s x, .s (.int .i64 k)] μ = some (.s (.int .i64 (runF (U ws) k n 0 0)), μ) := by
  have hl := run_loop2 h hn hk n 0 0 (by omega) (by omega)
  rw [n0] at hl
  obtain ⟨wss, hm, _, h0⟩ := h.ex
  obtain ⟨sid, r, L, p, rfl, _, hc0, _⟩ := hm.level h0
  have c1 := lt_f (a := k) (b := 1) (by omega)
  rw [bitmap_Map_Run_eq]
  rcases hl with ⟨v, e, hv⟩ | ⟨e, hv⟩
  · rw [hv]; simp -implicitDefEqProofs only [c1, hc0, e, Option.bind_some, decide_true, decide_false, cond_true, cond_false, seqJ_n, seqJ_r, seqJ_e, headK_c, asB_bool, asI_int, asS_s, asN_int, extrK_0, extrK_1, extrK_2, Bool.not_true, Bool.not_false, Nat.beq_refl]
  · rw [hv]; simp -implicitDefEqProofs only [c1, hc0, e, Option.bind_some, decide_true, decide_false, cond_true, cond_false, seqJ_n, seqJ_r, seqJ_e, headK_c, asB_bool, asI_int, asS_s, asN_int, extrK_0, extrK_1, extrK_2, Bool.not_true, Bool.not_false, Nat.beq_refl]
theorem run1_fst {V : Nat → Bool} {n : Nat} : ∀ (m i : Nat), i + m = n → Fst V n i (runF V 1 m i 0)
  | 0, i, h => .inl ⟨rfl, fun j h1 h2 => by omega⟩
  | m + 1, i, h => by
    rw [runF]
    cases hV : V i
    · simp only [Bool.false_eq_true, if_false]
      rw [if_pos (by omega)]
      exact .inr ⟨i, by omega, Nat.le_refl _, by omega, hV, fun j h1 h2 => by omega⟩
    · simp only [if_true]
      rw [if_neg (by omega)]
      rcases run1_fst (V := V) (n := n) m (i + 1) (by omega) with ⟨h1, h2⟩ | ⟨g, h1, h2, h3, h4, h5⟩
      · exact .inl ⟨h1, fun j h3 h4 => by
          by_cases h5 : j = i
          · rw [h5]; exact hV
          · exact h2 j (by omega) h4⟩
      · exact .inr ⟨g, h1, by omega, h3, h4, fun j h6 h7 => by
          by_cases h8 : j = i
          · rw [h8]; exact hV
          · exact h5 j (by omega) h7⟩
/-- The first free one is the run of one. -/
theorem first_run {N : Nat} {μ : AMem} {x : SV} {n : Nat} {rs : List SV} {ws : List Int} (h : Mw N μ x n rs ws) (hn : n ≤ 5000) : ∃ f, bitmap_Map_First [.s x, .s (.int .i64 0)] μ = some (.s (.int .i64 f), μ) ∧ bitmap_Map_Run [.s x, .s (.int .i64 1)] μ = some (.s (.int .i64 f), μ) ∧ Fst (U ws) n 0 f := by
  obtain ⟨f, e1, h1⟩ := mapFirst_is h hn
  have h2 := run1_fst (V := U ws) (n := n) n 0 (by omega)
  have e2 := mapRun_is (k := 1) h hn (by omega)
  rw [h2.unique h1] at e2
  exact ⟨f, e1, e2, h1⟩
end Go.Proofs.Ytepdjffnjfdklaa
/- Binary digits of bytes and of numbers. -/
namespace Go.Proofs.Ytepdjffnjfdklaa
open Go Go.Proofs.Ytepdjffnjfdklaa.E
set_option linter.unusedVariables false
set_option linter.unusedSimpArgs false
/-- A byte's digit, the greatest first. -/
def digV (v : Int) (k : Nat) : Int := v / 2 ^ (7 - k) % 2
/-- A digit of bytes. -/
def digB (bs : List Int) (j : Nat) : Int := digV (bs.getD (j / 8) 0) (j % 8)
/-- Bytes hold just these digits, and noughts behind. -/
def holds (bs ds : List Int) : Prop := bs.length = (ds.length + 7) / 8 ∧ (∀ v ∈ bs, 0 ≤ v ∧ v < 256) ∧ ∀ j, digB bs j = ds.getD j 0
def orB (v : Int) (r : Nat) : Int := IntKind.wrap .u8 (BitVec.toNat ((BitVec.ofInt (IntKind.bits .u8) v) ||| (BitVec.ofInt (IntKind.bits .u8) (Int.fdiv 128 (2 ^ r)))))
theorem orB_fin : ∀ v : Fin 256, ∀ r : Fin 8, (0 ≤ orB (v.val : Int) r.val ∧ orB (v.val : Int) r.val < 256) ∧ ∀ k : Fin 8, digV (orB (v.val : Int) r.val) k.val = if k = r then 1 else digV (v.val : Int) k.val := by decide +kernel
theorem orB_dig {v : Int} (h : 0 ≤ v ∧ v < 256) {r : Nat} (hr : r < 8) : (0 ≤ orB v r ∧ orB v r < 256) ∧ ∀ k, k < 8 → digV (orB v r) k = if k = r then 1 else digV v k := by
  have := orB_fin ⟨v.toNat, by omega⟩ ⟨r, hr⟩
  have e : ((v.toNat : Nat) : Int) = v := by omega
  simp only [e] at this
  refine ⟨this.1, fun k hk => ?_⟩
  have h2 := this.2 ⟨k, hk⟩
  simp only [Fin.mk.injEq] at h2
  exact h2
theorem digV_zero (k : Nat) : digV 0 k = 0 := by unfold digV; simp
theorem digV_le (v : Int) (k : Nat) : 0 ≤ digV v k ∧ digV v k ≤ 1 := by unfold digV; omega
theorem byte_ext {v w : Int} (hv : 0 ≤ v ∧ v < 256) (hw : 0 ≤ w ∧ w < 256) (h : ∀ k, k < 8 → digV v k = digV w k) : v = w := by
  have h0 := h 0 (by omega)
  have h1 := h 1 (by omega)
  have h2 := h 2 (by omega)
  have h3 := h 3 (by omega)
  have h4 := h 4 (by omega)
  have h5 := h 5 (by omega)
  have h6 := h 6 (by omega)
  have h7 := h 7 (by omega)
  simp only [digV, Nat.reduceSub, Int.reducePow] at h0 h1 h2 h3 h4 h5 h6 h7
  omega
theorem holds_ext {bs cs ds : List Int} (h1 : holds bs ds) (h2 : holds cs ds) : bs = cs := by
  apply List.ext_getElem
  · rw [h1.1, h2.1]
  · intro i hb hc
    apply byte_ext (h1.2.1 _ (List.getElem_mem hb)) (h2.2.1 _ (List.getElem_mem hc))
    intro k hk
    have a := h1.2.2 (8 * i + k)
    have b := h2.2.2 (8 * i + k)
    unfold digB at a b
    rw [show (8 * i + k) / 8 = i by omega, show (8 * i + k) % 8 = k by omega] at a b
    rw [getD_lt hb] at a
    rw [getD_lt hc] at b
    rw [a, b]
theorem holds_nil : holds [] [] := by
  refine ⟨rfl, fun v h => (List.not_mem_nil h).elim, fun j => ?_⟩
  unfold digB; simp [digV_zero]
theorem getD_out {l : List Int} {i : Nat} (h : l.length ≤ i) : l.getD i 0 = 0 := by rw [List.getD_eq_getElem?_getD, List.getElem?_eq_none h]; rfl
theorem getD_app {l m : List Int} {i : Nat} : (l ++ m).getD i 0 = if i < l.length then l.getD i 0 else m.getD (i - l.length) 0 := by
  rw [List.getD_eq_getElem?_getD, List.getElem?_append]
  split <;> rw [List.getD_eq_getElem?_getD]
theorem getD_snoc {l : List Int} {d : Int} {i : Nat} : (l ++ [d]).getD i 0 = if i = l.length then d else l.getD i 0 := by
  rw [getD_app]
  by_cases h : i < l.length
  · rw [if_pos h, if_neg (by omega)]
  · rw [if_neg h]
    by_cases h2 : i = l.length
    · rw [if_pos h2, h2, Nat.sub_self]; rfl
    · rw [if_neg h2, getD_out (by simp; omega), getD_out (by omega)]
theorem getD_setB {l : List Int} {i j : Nat} {v : Int} (h : i < l.length) : (l.set i v).getD j 0 = if j = i then v else l.getD j 0 := by
  rw [List.getD_eq_getElem?_getD, List.getElem?_set]
  by_cases hj : i = j
  · rw [if_pos hj, if_pos hj.symm, if_pos h]; rfl
  · rw [if_neg hj, if_neg (fun e => hj e.symm), List.getD_eq_getElem?_getD]
/-- A new byte of noughts where one is begun. -/
def begun (bs : List Int) (n : Nat) : List Int := if n % 8 = 0 then bs ++ [0] else bs
theorem begun_spec {bs ds : List Int} (h : holds bs ds) : ds.length / 8 < (begun bs ds.length).length ∧ (begun bs ds.length).length = (ds.length + 8) / 8 ∧ (∀ v ∈ begun bs ds.length, 0 ≤ v ∧ v < 256) ∧ ∀ j, digB (begun bs ds.length) j = ds.getD j 0 := by
  obtain ⟨h1, h2, h3⟩ := h
  unfold begun
  by_cases c : ds.length % 8 = 0
  · rw [if_pos c]
    refine ⟨by simp; omega, by simp; omega, fun v hv => ?_, fun j => ?_⟩
    · rcases List.mem_append.mp hv with h | h
      · exact h2 v h
      · rw [List.mem_singleton.mp h]; omega
    · rw [← h3 j]
      unfold digB
      rw [getD_snoc]
      split
      · rename_i e
        rw [e, getD_out (Nat.le_refl _)]
      · rfl
  · rw [if_neg c]
    exact ⟨by omega, by omega, h2, h3⟩
/-- One more digit: a one is written, a nought is there. -/
theorem holds_one {bs ds : List Int} (h : holds bs ds) : holds ((begun bs ds.length).set (ds.length / 8) (orB ((begun bs ds.length).getD (ds.length / 8) 0) (ds.length % 8))) (ds ++ [1]) := by
  obtain ⟨h1, h2, h3, h4⟩ := begun_spec h
  have hv := h3 _ (getD_mem h1)
  obtain ⟨o1, o2⟩ := orB_dig hv (r := ds.length % 8) (by omega)
  refine ⟨by simp; omega, fun v hv' => ?_, fun j => ?_⟩
  · rcases List.mem_or_eq_of_mem_set hv' with h | h
    · exact h3 v h
    · rw [h]; exact o1
  · rw [getD_snoc]
    unfold digB
    rw [getD_setB h1]
    by_cases c : j / 8 = ds.length / 8
    · rw [if_pos c, o2 _ (by omega)]
      by_cases c2 : j % 8 = ds.length % 8
      · rw [if_pos c2, if_pos (by omega)]
      · rw [if_neg c2, if_neg (by omega), ← h4 j]; unfold digB; rw [c]
    · rw [if_neg c, if_neg (by omega), ← h4 j]; rfl
theorem holds_nought {bs ds : List Int} (h : holds bs ds) : holds (begun bs ds.length) (ds ++ [0]) := by
  obtain ⟨h1, h2, h3, h4⟩ := begun_spec h
  refine ⟨by simp; omega, h3, fun j => ?_⟩
  rw [getD_snoc, h4]
  split
  · rename_i e; rw [e, getD_out (Nat.le_refl _)]
  · rfl
/-- A digit of a number. -/
theorem and_one (a : Int) : IntKind.wrap .i64 (BitVec.toNat ((BitVec.ofInt (IntKind.bits .i64) a) &&& (BitVec.ofInt (IntKind.bits .i64) 1))) = a % 2 := by
  have e : (BitVec.toNat ((BitVec.ofInt (IntKind.bits .i64) a) &&& (BitVec.ofInt (IntKind.bits .i64) 1)) : Int) = a % 2 := by
    show ((BitVec.toNat ((BitVec.ofInt 64 a) &&& (BitVec.ofInt 64 1)) : Nat) : Int) = a % 2
    rw [BitVec.toNat_and, BitVec.toNat_ofInt, BitVec.toNat_ofInt]
    have : (1 : Int) % ((2 ^ 64 : Nat) : Int) = 1 := by decide
    rw [this, show (1 : Int).toNat = 1 from rfl, Nat.and_one_is_mod]
    omega
  rw [e, wr (by omega)]
theorem or_one {v d : Int} (hv : 0 ≤ v ∧ v < 2305843009213693952) (hd : d = 0 ∨ d = 1) : IntKind.wrap .i64 (BitVec.toNat ((BitVec.ofInt (IntKind.bits .i64) (IntKind.wrap .i64 (v * 2 ^ (1 : Nat)))) ||| (BitVec.ofInt (IntKind.bits .i64) d))) = 2 * v + d := by
  have hw : IntKind.wrap .i64 (v * 2 ^ (1 : Nat)) = 2 * v := by rw [show (2 : Int) ^ (1 : Nat) = 2 from rfl, wr (by omega)]; omega
  rw [hw]
  have e : (BitVec.toNat ((BitVec.ofInt (IntKind.bits .i64) (2 * v)) ||| (BitVec.ofInt (IntKind.bits .i64) d)) : Int) = 2 * v + d := by
    show ((BitVec.toNat ((BitVec.ofInt 64 (2 * v)) ||| (BitVec.ofInt 64 d)) : Nat) : Int) = 2 * v + d
    rw [BitVec.toNat_or, BitVec.toNat_ofInt, BitVec.toNat_ofInt]
    have h1 : ((2 * v) % ((2 ^ 64 : Nat) : Int)).toNat = v.toNat <<< 1 := by rw [Nat.shiftLeft_eq]; omega
    have h2 : (d % ((2 ^ 64 : Nat) : Int)).toNat = d.toNat := by omega
    rw [h1, h2, ← Nat.shiftLeft_add_eq_or_of_lt (by omega), Nat.shiftLeft_eq]
    omega
  rw [e, wr (by omega)]
/-- n digits of a number, the greatest first. -/
def putD (v : Int) : Nat → List Int
  | 0 => []
  | k + 1 => (v / 2 ^ k % 2) :: putD v k
theorem putD_len (v : Int) : ∀ n, (putD v n).length = n
  | 0 => rfl
  | n + 1 => by rw [putD, List.length_cons, putD_len v n]
/-- The number of the digits from one on. -/
def numB (bs : List Int) (at_ : Nat) : Nat → Int
  | 0 => 0
  | n + 1 => 2 * numB bs at_ n + digB bs (at_ + n)
theorem digB_le (bs : List Int) (j : Nat) : 0 ≤ digB bs j ∧ digB bs j ≤ 1 := digV_le _ _
theorem numB_le (bs : List Int) (at_ : Nat) : ∀ n : Nat, 0 ≤ numB bs at_ n ∧ numB bs at_ n < 2 ^ n
  | 0 => by simp [numB]
  | n + 1 => by
    have h1 := numB_le bs at_ n
    have h2 := digB_le bs (at_ + n)
    rw [numB, Int.pow_succ]; omega
theorem pow_le62 {n : Nat} (h : n ≤ 61) : (2 : Int) ^ n ≤ 2305843009213693952 := by
  have h1 : (2 : Nat) ^ n ≤ 2 ^ 61 := Nat.pow_le_pow_right (by omega) h
  have e : ((2 : Int) ^ n) = ((2 ^ n : Nat) : Int) := by simp
  rw [e]
  have h3 : (2 : Nat) ^ 61 = 2305843009213693952 := by decide
  omega
end Go.Proofs.Ytepdjffnjfdklaa
/- The document's map of sectors: a row of Bools: the first free one, runs, counts, bytes. -/
namespace Go.Proofs.Ytepdjffnjfdklaa
open Go Go.Proofs.Ytepdjffnjfdklaa.E
set_option linter.unusedVariables false
set_option linter.unusedSimpArgs false
/-- Is it used? -/
def Vb (bs : List Bool) (j : Nat) : Bool := bs.getD j false
theorem refNewMap_is {μ : AMem} (hw : WF μ) (q : Int) :
    ((q < 1 ∨ q > 4096) → overdubref10_NewMap [.s (.int .i64 q)] μ = some (.tuple [.s .nilSlice, .s (.bool false)], μ)) ∧
    (∀ n : Nat, q = n → 1 ≤ n → n ≤ 4096 → ∃ c μ', overdubref10_NewMap [.s (.int .i64 q)] μ = some (.tuple [.s c, .s (.bool true)], μ') ∧ Same μ μ' ∧ OwnB μ.next μ' c (List.replicate n false)) := by
  refine ⟨fun h => ?_, fun n hn h1 h2 => ?_⟩
  · rw [overdubref10_NewMap_eq]
    by_cases h1 : q < 1
    · simp -implicitDefEqProofs only [lt_t h1, Option.bind_some, decide_true, decide_false, cond_true, cond_false, seqJ_n, seqJ_r, seqJ_e, headK_c, asB_bool, asI_int, asS_s, asN_int, extrK_0, extrK_1, extrK_2, Bool.not_true, Bool.not_false, Nat.beq_refl]
    · simp -implicitDefEqProofs only [lt_f (show 1 ≤ q by omega), gt_t (show 4096 < q by omega), Option.bind_some, decide_true, decide_false, cond_true, cond_false, seqJ_n, seqJ_r, seqJ_e, headK_c, asB_bool, asI_int, asS_s, asN_int, extrK_0, extrK_1, extrK_2, Bool.not_true, Bool.not_false, Nat.beq_refl]
  · subst hn
    refine ⟨.slice (μ.next + 1) 0 0 n, (μ.bump 4).set (μ.next + 1) (rowObj (zerosA [.bool false] n) 1 4 (some n)), ?_, Same.bumpSet hw (by omega) _, .inr ⟨μ.next + 1, 0, rowObj (zerosA [.bool false] n) 1 4 (some n), by simp, by omega, by simp, rfl, rfl, rfl, rfl, fun i b hi => ?_⟩⟩
    · rw [overdubref10_NewMap_eq]
      simp -implicitDefEqProofs only [lt_f (show (1 : Int) ≤ (n : Int) by omega), gt_f (show (n : Int) ≤ 4096 by omega), Option.bind_some, decide_true, decide_false, cond_true, cond_false, seqJ_n, seqJ_r, seqJ_e, headK_c, asB_bool, asI_int, asS_s, asN_int, extrK_0, extrK_1, extrK_2, Bool.not_true, Bool.not_false, Nat.beq_refl]
      rw [if_pos (by omega)]
      rfl
    · show (zerosA [.bool false] n)[i]? = _
      rw [zerosA_rep, List.getElem?_replicate]
      rw [List.getElem?_replicate] at hi
      split at hi
      · rw [if_pos (by assumption)]; cases hi; rfl
      · cases hi
theorem refCount_loop {N : Nat} {μ : AMem} {c : SV} {bs : List Bool} (h : OwnB N μ c bs) (hn : bs.length ≤ 5000) :
    ∀ k i : Nat, i + k = bs.length → overdubref10_Map_Count_L1 [.s c, .s (.int .i64 (bs.length : Int))] [.s (.int .i64 (cntF (Vb bs) i)), .s (.int .i64 (i : Int))] μ = some (.exit 0, [.s (.int .i64 (cntF (Vb bs) bs.length))], μ)
  | 0, i, hi => by
    obtain rfl : i = bs.length := by omega
    rw [overdubref10_Map_Count_L1_eq, overdubref10_Map_Count_L1_B_eq]
    simp -implicitDefEqProofs only [lt_f (Int.le_refl (bs.length : Int)), Option.bind_some, decide_true, decide_false, cond_true, cond_false, seqJ_n, seqJ_r, seqJ_e, headK_c, asB_bool, asI_int, asS_s, asN_int, extrK_0, extrK_1, extrK_2, Bool.not_true, Bool.not_false, Nat.beq_refl]
  | k + 1, i, hi => by
    have ih := refCount_loop h hn k (i + 1) (by omega)
    have hc := cntF_le (Vb bs) i
    have ei : IntKind.wrap .i64 ((i : Int) + 1) = ((i + 1 : Nat) : Int) := by rw [wr (by omega)]; rfl
    have g1 := fun {R : Type} (K : AV → Option R) => h.ind (i := (i : Int)) (by omega) (by omega) K
    have l1 := fun {R : Type} (K : AV → Option R) => h.load (i := i) (by omega) K
    have ec : IntKind.wrap .i64 (cntF (Vb bs) i + 1) = cntF (Vb bs) i + 1 := wr (by omega)
    rw [overdubref10_Map_Count_L1_eq, overdubref10_Map_Count_L1_B_eq]
    have hv : bs.getD i false = Vb bs i := rfl
    cases hb : Vb bs i
    · rw [cntF, hb] at ih
      simp only [Bool.false_eq_true, if_false, Int.add_zero] at ih
      simp -implicitDefEqProofs only [lt_t (show (i : Int) < (bs.length : Int) by omega), g1, l1, hv, hb, ei, Option.bind_some, decide_true, decide_false, cond_true, cond_false, seqJ_n, seqJ_r, seqJ_e, headK_c, asB_bool, asI_int, asS_s, asN_int, extrK_0, extrK_1, extrK_2, Bool.not_true, Bool.not_false, Nat.beq_refl]
      exact ih
    · rw [cntF, hb] at ih
      simp only [if_true] at ih
      simp -implicitDefEqProofs only [lt_t (show (i : Int) < (bs.length : Int) by omega), g1, l1, hv, hb, ec, ei, Option.bind_some, decide_true, decide_false, cond_true, cond_false, seqJ_n, seqJ_r, seqJ_e, headK_c, asB_bool, asI_int, asS_s, asN_int, extrK_0, extrK_1, extrK_2, Bool.not_true, Bool.not_false, Nat.beq_refl]
      exact ih
theorem refCount_is {N : Nat} {μ : AMem} {c : SV} {bs : List Bool} (h : OwnB N μ c bs) (hn : bs.length ≤ 5000) : overdubref10_Map_Count [.s c] μ = some (.s (.int .i64 (cntF (Vb bs) bs.length)), μ) := by
  have e := refCount_loop h hn bs.length 0 (Nat.zero_add _)
  rw [n0, show cntF (Vb bs) 0 = 0 from rfl] at e
  rw [overdubref10_Map_Count_eq, h.len]
  simp -implicitDefEqProofs only [e, Option.bind_some, decide_true, decide_false, cond_true, cond_false, seqJ_n, seqJ_r, seqJ_e, headK_c, asB_bool, asI_int, asS_s, asN_int, extrK_0, extrK_1, extrK_2, Bool.not_true, Bool.not_false, Nat.beq_refl]
theorem refFirst_loop {N : Nat} {μ : AMem} {c : SV} {bs : List Bool} (h : OwnB N μ c bs) (hn : bs.length ≤ 5000) :
    ∀ k i : Nat, bs.length ≤ i + k → (∃ v, overdubref10_Map_First_L1 [.s c] [.s (.int .i64 (i : Int))] μ = some (.ret, [.s (.int .i64 v)], μ) ∧ Fst (Vb bs) bs.length i v) ∨ (overdubref10_Map_First_L1 [.s c] [.s (.int .i64 (i : Int))] μ = some (.exit 0, [], μ) ∧ Fst (Vb bs) bs.length i (-1))
  | 0, i, hi => by
    refine .inr ⟨?_, .inl ⟨rfl, fun j h1 h2 => by omega⟩⟩
    rw [overdubref10_Map_First_L1_eq, overdubref10_Map_First_L1_B_eq, h.len]
    simp -implicitDefEqProofs only [lt_f (show (bs.length : Int) ≤ (i : Int) by omega), Option.bind_some, decide_true, decide_false, cond_true, cond_false, seqJ_n, seqJ_r, seqJ_e, headK_c, asB_bool, asI_int, asS_s, asN_int, extrK_0, extrK_1, extrK_2, Bool.not_true, Bool.not_false, Nat.beq_refl]
  | k + 1, i, hi => by
    by_cases hin : i < bs.length
    · have ih := refFirst_loop h hn k (i + 1) (by omega)
      have ei : IntKind.wrap .i64 ((i : Int) + 1) = ((i + 1 : Nat) : Int) := by rw [wr (by omega)]; rfl
      have g1 := fun {R : Type} (K : AV → Option R) => h.ind (i := (i : Int)) (by omega) (by omega) K
      have l1 := fun {R : Type} (K : AV → Option R) => h.load (i := i) (by omega) K
      have hv : bs.getD i false = Vb bs i := rfl
      rw [overdubref10_Map_First_L1_eq, overdubref10_Map_First_L1_B_eq, h.len]
      cases hb : Vb bs i
      · refine .inl ⟨(i : Int), ?_, .inr ⟨i, rfl, Nat.le_refl _, hin, hb, fun j h1 h2 => by omega⟩⟩
        simp -implicitDefEqProofs only [lt_t (show (i : Int) < (bs.length : Int) by omega), g1, l1, hv, hb, Option.bind_some, decide_true, decide_false, cond_true, cond_false, seqJ_n, seqJ_r, seqJ_e, headK_c, asB_bool, asI_int, asS_s, asN_int, extrK_0, extrK_1, extrK_2, Bool.not_true, Bool.not_false, Nat.beq_refl]
      · simp -implicitDefEqProofs only [lt_t (show (i : Int) < (bs.length : Int) by omega), g1, l1, hv, hb, ei, Option.bind_some, decide_true, decide_false, cond_true, cond_false, seqJ_n, seqJ_r, seqJ_e, headK_c, asB_bool, asI_int, asS_s, asN_int, extrK_0, extrK_1, extrK_2, Bool.not_true, Bool.not_false, Nat.beq_refl]
        rcases ih with ⟨v, f1, f2⟩ | ⟨f1, f2⟩
        · refine .inl ⟨v, f1, ?_⟩
          rcases f2 with ⟨rfl, g2⟩ | ⟨g, rfl, g2, g3, g4, g5⟩
          · exact .inl ⟨rfl, fun j h3 h4 => by
              by_cases h5 : j = i
              · rw [h5]; exact hb
              · exact g2 j (by omega) h4⟩
          · exact .inr ⟨g, rfl, by omega, g3, g4, fun j h3 h4 => by
              by_cases h5 : j = i
              · rw [h5]; exact hb
              · exact g5 j (by omega) h4⟩
        · refine .inr ⟨f1, ?_⟩
          rcases f2 with ⟨_, g2⟩ | ⟨g, hg, _⟩
          · exact .inl ⟨rfl, fun j h3 h4 => by
              by_cases h5 : j = i
              · rw [h5]; exact hb
              · exact g2 j (by omega) h4⟩
          · omega
    · refine .inr ⟨?_, .inl ⟨rfl, fun j h1 h2 => by omega⟩⟩
      rw [overdubref10_Map_First_L1_eq, overdubref10_Map_First_L1_B_eq, h.len]
      simp -implicitDefEqProofs only [lt_f (show (bs.length : Int) ≤ (i : Int) by omega), Option.bind_some, decide_true, decide_false, cond_true, cond_false, seqJ_n, seqJ_r, seqJ_e, headK_c, asB_bool, asI_int, asS_s, asN_int, extrK_0, extrK_1, extrK_2, Bool.not_true, Bool.not_false, Nat.beq_refl]
theorem refFirst_is {N : Nat} {μ : AMem} {c : SV} {bs : List Bool} (h : OwnB N μ c bs) (hn : bs.length ≤ 5000) (p : Int) : ∃ f, overdubref10_Map_First [.s c, .s (.int .i64 p)] μ = some (.s (.int .i64 f), μ) ∧ Fst (Vb bs) bs.length p.toNat f := by
  have hl := refFirst_loop h hn bs.length p.toNat (by omega)
  have e0 : (if 0 > p then 0 else p) = ((p.toNat : Nat) : Int) := by split <;> omega
  rcases hl with ⟨v, e, hv⟩ | ⟨e, hv⟩
  · refine ⟨v, ?_, hv⟩
    rw [overdubref10_Map_First_eq, e0, e]
    simp -implicitDefEqProofs only [Option.bind_some, decide_true, decide_false, cond_true, cond_false, seqJ_n, seqJ_r, seqJ_e, headK_c, asB_bool, asI_int, asS_s, asN_int, extrK_0, extrK_1, extrK_2, Bool.not_true, Bool.not_false, Nat.beq_refl]
  · refine ⟨-1, ?_, hv⟩
    rw [overdubref10_Map_First_eq, e0, e]
    simp -implicitDefEqProofs only [Option.bind_some, decide_true, decide_false, cond_true, cond_false, seqJ_n, seqJ_r, seqJ_e, headK_c, asB_bool, asI_int, asS_s, asN_int, extrK_0, extrK_1, extrK_2, Bool.not_true, Bool.not_false, Nat.beq_refl]
/-- The program's first free one, from anywhere. -/
theorem mapFirst_any {N : Nat} {μ : AMem} {x : SV} {n : Nat} {rs : List SV} {ws : List Int} (h : Mw N μ x n rs ws) (hn : n ≤ 5000) (p : Int) : ∃ f, bitmap_Map_First [.s x, .s (.int .i64 p)] μ = some (.s (.int .i64 f), μ) ∧ Fst (U ws) n p.toNat f := by
  have hx := h.isPtr
  obtain ⟨sid, rfl⟩ := hx
  have e0 : (if p > 0 then p else 0) = ((p.toNat : Nat) : Int) := by split <;> omega
  by_cases hp : p.toNat ≤ 6000
  · have hl := first_loop h hn n p.toNat (by omega) hp
    rcases hl with ⟨v, e, hv⟩ | ⟨e, hv⟩
    · refine ⟨v, ?_, hv⟩
      rw [bitmap_Map_First_eq, e0, e]
      simp -implicitDefEqProofs only [Option.bind_some, decide_true, decide_false, cond_true, cond_false, seqJ_n, seqJ_r, seqJ_e, headK_c, asB_bool, asI_int, asS_s, asN_int, extrK_0, extrK_1, extrK_2, Bool.not_true, Bool.not_false, Nat.beq_refl]
    · refine ⟨-1, ?_, hv⟩
      rw [bitmap_Map_First_eq, e0, e]
      simp -implicitDefEqProofs only [Option.bind_some, decide_true, decide_false, cond_true, cond_false, seqJ_n, seqJ_r, seqJ_e, headK_c, asB_bool, asI_int, asS_s, asN_int, extrK_0, extrK_1, extrK_2, Bool.not_true, Bool.not_false, Nat.beq_refl]
  · obtain ⟨wss, hm, _, h0⟩ := h.ex
    obtain ⟨sid', r, L, q, hx, _, hc0, _⟩ := hm.level h0
    cases hx
    refine ⟨-1, ?_, .inl ⟨rfl, fun j h1 h2 => by omega⟩⟩
    rw [bitmap_Map_First_eq, e0, bitmap_Map_First_L1_eq, bitmap_Map_First_L1_B_eq]
    simp -implicitDefEqProofs only [hc0, lt_f (show (n : Int) ≤ ((p.toNat : Nat) : Int) by omega), Option.bind_some, decide_true, decide_false, cond_true, cond_false, seqJ_n, seqJ_r, seqJ_e, headK_c, asB_bool, asI_int, asS_s, asN_int, extrK_0, extrK_1, extrK_2, Bool.not_true, Bool.not_false, Nat.beq_refl]
/-- A run of k free ones at s. -/
def Fit (V : Nat → Bool) (n k s : Nat) : Prop := s + k ≤ n ∧ ∀ j, s ≤ j → j < s + k → V j = false
/-- The first run from a on. -/
def Rn (V : Nat → Bool) (n k a : Nat) (f : Int) : Prop := (f = -1 ∧ ∀ s, a ≤ s → ¬ Fit V n k s) ∨ ∃ s : Nat, f = (s : Int) ∧ a ≤ s ∧ Fit V n k s ∧ ∀ t, a ≤ t → t < s → ¬ Fit V n k t
theorem Rn.unique {V : Nat → Bool} {n k a : Nat} {f g : Int} (h1 : Rn V n k a f) (h2 : Rn V n k a g) : f = g := by
  rcases h1 with ⟨rfl, a1⟩ | ⟨u, rfl, a1, a2, a3⟩
  · rcases h2 with ⟨rfl, b1⟩ | ⟨v, rfl, b1, b2, b3⟩
    · rfl
    · exact absurd b2 (a1 v b1)
  · rcases h2 with ⟨rfl, b1⟩ | ⟨v, rfl, b1, b2, b3⟩
    · exact absurd a2 (b1 u a1)
    · rcases Nat.lt_trichotomy u v with h | h | h
      · exact absurd a2 (b3 u a1 h)
      · rw [h]
      · exact absurd b2 (a3 v b1 h)
theorem runF_is {V : Nat → Bool} {n k : Nat} (hk : 1 ≤ k) : ∀ (m i c : Nat), i + m = n → c < k → c ≤ i → (∀ j, i - c ≤ j → j < i → V j = false) → Rn V n k (i - c) (runF V (k : Int) m i (c : Int))
  | 0, i, c, h, hc, hci, hf => .inl ⟨rfl, fun s hs hfit => by have := hfit.1; omega⟩
  | m + 1, i, c, h, hc, hci, hf => by
    rw [runF]
    cases hV : V i
    · simp only [Bool.false_eq_true, if_false]
      by_cases hck : c + 1 = k
      · rw [if_pos (by omega)]
        refine .inr ⟨i - c, by omega, Nat.le_refl _, ⟨by omega, fun j h1 h2 => ?_⟩, fun t h1 h2 => by omega⟩
        by_cases hj : j = i
        · rw [hj]; exact hV
        · exact hf j h1 (by omega)
      · rw [if_neg (by omega)]
        have ih := runF_is (V := V) (n := n) hk m (i + 1) (c + 1) (by omega) (by omega) (by omega) fun j h1 h2 => by
          by_cases hj : j = i
          · rw [hj]; exact hV
          · exact hf j (by omega) (by omega)
        rw [show i + 1 - (c + 1) = i - c by omega, nsu] at ih
        exact ih
    · simp only [if_true]
      rw [if_neg (by omega)]
      have ih := runF_is (V := V) (n := n) hk m (i + 1) 0 (by omega) (by omega) (by omega) fun j h1 h2 => by omega
      rw [Nat.sub_zero, n0] at ih
      have hno : ∀ s, i - c ≤ s → s ≤ i → ¬ Fit V n k s := fun s h1 h2 hfit => by
        have := hfit.2 i h2 (by omega)
        rw [hV] at this; cases this
      rcases ih with ⟨e, h1⟩ | ⟨s, e, h1, h2, h3⟩
      · exact .inl ⟨e, fun s hs => by
          by_cases hsi : s ≤ i
          · exact hno s hs hsi
          · exact h1 s (by omega)⟩
      · exact .inr ⟨s, e, by omega, h2, fun t ht hts => by
          by_cases hti : t ≤ i
          · exact hno t ht hti
          · exact h3 t (by omega) hts⟩
/-- The program's run. -/
theorem mapRun_any {N : Nat} {μ : AMem} {x : SV} {n : Nat} {rs : List SV} {ws : List Int} (h : Mw N μ x n rs ws) (hn : n ≤ 5000) {k : Nat} (hk : k ≤ 5000) : ∃ f, bitmap_Map_Run [.s x, .s (.int .i64 (k : Int))] μ = some (.s (.int .i64 f), μ) ∧ (k = 0 → f = -1) ∧ (1 ≤ k → Rn (U ws) n k 0 f) := by
  by_cases h0 : k = 0
  · subst h0
    obtain ⟨sid, rfl⟩ := h.isPtr
    refine ⟨-1, ?_, fun _ => rfl, fun h => by omega⟩
    rw [bitmap_Map_Run_eq]
    simp -implicitDefEqProofs only [n0, lt_t (show (0 : Int) < 1 by omega), Option.bind_some, decide_true, decide_false, cond_true, cond_false, seqJ_n, seqJ_r, seqJ_e, headK_c, asB_bool, asI_int, asS_s, asN_int, extrK_0, extrK_1, extrK_2, Bool.not_true, Bool.not_false, Nat.beq_refl]
  · refine ⟨_, mapRun_is h hn (k := (k : Int)) (by omega), fun h => absurd h h0, fun _ => ?_⟩
    have := runF_is (V := U ws) (n := n) (k := k) (by omega) n 0 0 (by omega) (by omega) (Nat.le_refl _) fun j h1 h2 => by omega
    exact this
theorem refRun2_loop {N : Nat} {μ : AMem} {c : SV} {bs : List Bool} (h : OwnB N μ c bs) (hn : bs.length ≤ 5000) {k s : Nat} (hfit : s + k ≤ bs.length) :
    ∀ (m i : Nat) (b : Bool), i + m = s + k → s ≤ i → (b = true ↔ ∀ j, s ≤ j → j < i → Vb bs j = false) → ∃ b', overdubref10_Map_Run_L2 [.s c, .s (.int .i64 (k : Int)), .s (.int .i64 (s : Int))] [.s (.bool b), .s (.int .i64 (i : Int))] μ = some (.exit 2, [.s c, .s (.int .i64 (k : Int)), .s (.int .i64 (s : Int)), .s (.bool b')], μ) ∧ (b' = true ↔ Fit (Vb bs) bs.length k s)
  | 0, i, b, hi, hsi, hb => by
    obtain rfl : i = s + k := by omega
    refine ⟨b, ?_, ⟨fun h => ⟨hfit, hb.mp h⟩, fun h => hb.mpr h.2⟩⟩
    have ew : IntKind.wrap .i64 ((s : Int) + (k : Int)) = ((s + k : Nat) : Int) := by rw [wr (by omega)]; rfl
    rw [overdubref10_Map_Run_L2_eq, overdubref10_Map_Run_L2_B_eq]
    simp -implicitDefEqProofs only [ew, lt_f (Int.le_refl ((s + k : Nat) : Int)), Option.bind_some, decide_true, decide_false, cond_true, cond_false, seqJ_n, seqJ_r, seqJ_e, headK_c, asB_bool, asI_int, asS_s, asN_int, extrK_0, extrK_1, extrK_2, Bool.not_true, Bool.not_false, Nat.beq_refl]
  | m + 1, i, b, hi, hsi, hb => by
    have ew : IntKind.wrap .i64 ((s : Int) + (k : Int)) = ((s + k : Nat) : Int) := by rw [wr (by omega)]; rfl
    have ei : IntKind.wrap .i64 ((i : Int) + 1) = ((i + 1 : Nat) : Int) := by rw [wr (by omega)]; rfl
    have c1 := lt_t (show (i : Int) < ((s + k : Nat) : Int) by omega)
    have g1 := fun {R : Type} (K : AV → Option R) => h.ind (i := (i : Int)) (by omega) (by omega) K
    have l1 := fun {R : Type} (K : AV → Option R) => h.load (i := i) (by omega) K
    have hv : bs.getD i false = Vb bs i := rfl
    have step : (b && !(Vb bs i)) = true ↔ ∀ j, s ≤ j → j < i + 1 → Vb bs j = false := by
      rw [Bool.and_eq_true, hb]
      constructor
      · intro ⟨h1, h2⟩ j h3 h4
        by_cases hj : j = i
        · rw [hj]; simpa using h2
        · exact h1 j h3 (by omega)
      · intro h1
        exact ⟨fun j h3 h4 => h1 j h3 (by omega), by rw [h1 i hsi (by omega)]; rfl⟩
    obtain ⟨b', q1, q2⟩ := refRun2_loop h hn hfit m (i + 1) (b && !(Vb bs i)) (by omega) (by omega) step
    refine ⟨b', ?_, q2⟩
    rw [overdubref10_Map_Run_L2_eq, overdubref10_Map_Run_L2_B_eq]
    cases b
    · rw [Bool.false_and] at q1
      simp -implicitDefEqProofs only [ew, c1, ei, Option.bind_some, decide_true, decide_false, cond_true, cond_false, seqJ_n, seqJ_r, seqJ_e, headK_c, asB_bool, asI_int, asS_s, asN_int, extrK_0, extrK_1, extrK_2, Bool.not_true, Bool.not_false, Nat.beq_refl]
      exact q1
    · rw [Bool.true_and] at q1
      simp -implicitDefEqProofs only [ew, c1, g1, l1, hv, ei, Option.bind_some, decide_true, decide_false, cond_true, cond_false, seqJ_n, seqJ_r, seqJ_e, headK_c, asB_bool, asI_int, asS_s, asN_int, extrK_0, extrK_1, extrK_2, Bool.not_true, Bool.not_false, Nat.beq_refl]
      exact q1
theorem refRun_loop {N : Nat} {μ : AMem} {c : SV} {bs : List Bool} (h : OwnB N μ c bs) (hn : bs.length ≤ 5000) {k : Nat} (hk : 1 ≤ k) (hk2 : k ≤ 5000) :
    ∀ m s : Nat, bs.length ≤ s + m → s ≤ bs.length → (∃ v, overdubref10_Map_Run_L1 [.s c, .s (.int .i64 (k : Int))] [.s (.int .i64 (s : Int))] μ = some (.ret, [.s (.int .i64 v)], μ) ∧ Rn (Vb bs) bs.length k s v) ∨ (overdubref10_Map_Run_L1 [.s c, .s (.int .i64 (k : Int))] [.s (.int .i64 (s : Int))] μ = some (.exit 0, [], μ) ∧ Rn (Vb bs) bs.length k s (-1))
  | m, s, hm, hs => by
    have ew : IntKind.wrap .i64 ((s : Int) + (k : Int)) = ((s + k : Nat) : Int) := by rw [wr (by omega)]; rfl
    have c1 := ge_t (show (1 : Int) ≤ (k : Int) by omega)
    by_cases hfit : s + k ≤ bs.length
    · have c2 := le_t (show ((s + k : Nat) : Int) ≤ (bs.length : Int) by omega)
      have c3 := le_t (show (k : Int) ≤ (bs.length : Int) by omega)
      obtain ⟨b', q1, q2⟩ := refRun2_loop h hn hfit k s true rfl (Nat.le_refl _) ⟨fun _ j h1 h2 => by omega, fun _ => rfl⟩
      cases hb : b'
      · rw [hb] at q1 q2
        have hno : ¬ Fit (Vb bs) bs.length k s := fun hf => by have := q2.mpr hf; cases this
        match m, hm with
        | 0, hm => omega
        | m + 1, hm =>
          have ih := refRun_loop h hn hk hk2 m (s + 1) (by omega) (by omega)
          have ei : IntKind.wrap .i64 ((s : Int) + 1) = ((s + 1 : Nat) : Int) := by rw [wr (by omega)]; rfl
          rw [overdubref10_Map_Run_L1_eq, overdubref10_Map_Run_L1_B_eq, h.len]
          simp -implicitDefEqProofs only [c1, ew, c2, c3, q1, ei, Option.bind_some, decide_true, decide_false, cond_true, cond_false, seqJ_n, seqJ_r, seqJ_e, headK_c, asB_bool, asI_int, asS_s, asN_int, extrK_0, extrK_1, extrK_2, Bool.not_true, Bool.not_false, Nat.beq_refl]
          rcases ih with ⟨v, f1, f2⟩ | ⟨f1, f2⟩
          · refine .inl ⟨v, f1, ?_⟩
            rcases f2 with ⟨e, g1⟩ | ⟨t, e, g1, g2, g3⟩
            · exact .inl ⟨e, fun u hu => by
                by_cases h5 : u = s
                · rw [h5]; exact hno
                · exact g1 u (by omega)⟩
            · exact .inr ⟨t, e, by omega, g2, fun u hu hut => by
                by_cases h5 : u = s
                · rw [h5]; exact hno
                · exact g3 u (by omega) hut⟩
          · refine .inr ⟨f1, ?_⟩
            rcases f2 with ⟨e, g1⟩ | ⟨t, e, g1, g2, g3⟩
            · exact .inl ⟨e, fun u hu => by
                by_cases h5 : u = s
                · rw [h5]; exact hno
                · exact g1 u (by omega)⟩
            · omega
      · rw [hb] at q1 q2
        refine .inl ⟨(s : Int), ?_, .inr ⟨s, rfl, Nat.le_refl _, q2.mp rfl, fun t h1 h2 => by omega⟩⟩
        rw [overdubref10_Map_Run_L1_eq, overdubref10_Map_Run_L1_B_eq, h.len]
        simp -implicitDefEqProofs only [c1, ew, c2, c3, q1, Option.bind_some, decide_true, decide_false, cond_true, cond_false, seqJ_n, seqJ_r, seqJ_e, headK_c, asB_bool, asI_int, asS_s, asN_int, extrK_0, extrK_1, extrK_2, Bool.not_true, Bool.not_false, Nat.beq_refl]
    · refine .inr ⟨?_, .inl ⟨rfl, fun t h1 h2 => by have := h2.1; omega⟩⟩
      rw [overdubref10_Map_Run_L1_eq, overdubref10_Map_Run_L1_B_eq, h.len]
      simp -implicitDefEqProofs only [c1, ew, le_f (show (bs.length : Int) < ((s + k : Nat) : Int) by omega), Option.bind_some, decide_true, decide_false, cond_true, cond_false, seqJ_n, seqJ_r, seqJ_e, headK_c, asB_bool, asI_int, asS_s, asN_int, extrK_0, extrK_1, extrK_2, Bool.not_true, Bool.not_false, Nat.beq_refl]
theorem refRun_is {N : Nat} {μ : AMem} {c : SV} {bs : List Bool} (h : OwnB N μ c bs) (hn : bs.length ≤ 5000) {k : Nat} (hk2 : k ≤ 5000) : ∃ f, overdubref10_Map_Run [.s c, .s (.int .i64 (k : Int))] μ = some (.s (.int .i64 f), μ) ∧ (k = 0 → f = -1) ∧ (1 ≤ k → Rn (Vb bs) bs.length k 0 f) := by
  by_cases h0 : k = 0
  · subst h0
    refine ⟨-1, ?_, fun _ => rfl, fun h => by omega⟩
    rw [overdubref10_Map_Run_eq, overdubref10_Map_Run_L1_eq, overdubref10_Map_Run_L1_B_eq]
    simp -implicitDefEqProofs only [n0, ge_f (show (0 : Int) < 1 by omega), Option.bind_some, decide_true, decide_false, cond_true, cond_false, seqJ_n, seqJ_r, seqJ_e, headK_c, asB_bool, asI_int, asS_s, asN_int, extrK_0, extrK_1, extrK_2, Bool.not_true, Bool.not_false, Nat.beq_refl]
  · rcases refRun_loop h hn (k := k) (by omega) hk2 bs.length 0 (by omega) (Nat.zero_le _) with ⟨v, e, hv⟩ | ⟨e, hv⟩
    · refine ⟨v, ?_, fun h => absurd h h0, fun _ => hv⟩
      rw [n0] at e
      rw [overdubref10_Map_Run_eq]
      simp -implicitDefEqProofs only [e, Option.bind_some, decide_true, decide_false, cond_true, cond_false, seqJ_n, seqJ_r, seqJ_e, headK_c, asB_bool, asI_int, asS_s, asN_int, extrK_0, extrK_1, extrK_2, Bool.not_true, Bool.not_false, Nat.beq_refl]
    · refine ⟨-1, ?_, fun h => absurd h h0, fun _ => hv⟩
      rw [n0] at e
      rw [overdubref10_Map_Run_eq]
      simp -implicitDefEqProofs only [e, Option.bind_some, decide_true, decide_false, cond_true, cond_false, seqJ_n, seqJ_r, seqJ_e, headK_c, asB_bool, asI_int, asS_s, asN_int, extrK_0, extrK_1, extrK_2, Bool.not_true, Bool.not_false, Nat.beq_refl]
theorem Fst.congr {V W : Nat → Bool} {n a : Nat} {f : Int} (h : Fst V n a f) (hvw : ∀ j, j < n → V j = W j) : Fst W n a f := by
  rcases h with ⟨e, h1⟩ | ⟨g, e, h1, h2, h3, h4⟩
  · exact .inl ⟨e, fun j hj hj2 => by rw [← hvw j hj2]; exact h1 j hj hj2⟩
  · exact .inr ⟨g, e, h1, h2, by rw [← hvw g h2]; exact h3, fun j hj hj2 => by rw [← hvw j (by omega)]; exact h4 j hj hj2⟩
theorem Fit.congr {V W : Nat → Bool} {n k s : Nat} (h : Fit V n k s) (hvw : ∀ j, j < n → V j = W j) : Fit W n k s := ⟨h.1, fun j h1 h2 => by rw [← hvw j (by have := h.1; omega)]; exact h.2 j h1 h2⟩
theorem Rn.congr {V W : Nat → Bool} {n k a : Nat} {f : Int} (h : Rn V n k a f) (hvw : ∀ j, j < n → V j = W j) : Rn W n k a f := by
  have hwv : ∀ j, j < n → W j = V j := fun j hj => (hvw j hj).symm
  rcases h with ⟨e, h1⟩ | ⟨g, e, h1, h2, h3⟩
  · exact .inl ⟨e, fun s hs hf => h1 s hs (hf.congr hwv)⟩
  · exact .inr ⟨g, e, h1, h2.congr hvw, fun t ht hts hf => h3 t ht hts (hf.congr hwv)⟩
theorem cntF_congr {V W : Nat → Bool} : ∀ n : Nat, (∀ j, j < n → V j = W j) → cntF V n = cntF W n
  | 0, _ => rfl
  | n + 1, h => by rw [cntF, cntF, cntF_congr n fun j hj => h j (by omega), h n (by omega)]
end Go.Proofs.Ytepdjffnjfdklaa
/- Levels of a map. -/
namespace Go.Proofs.Ytepdjffnjfdklaa
open Go Go.Proofs.Ytepdjffnjfdklaa.E
set_option linter.unusedVariables false
set_option linter.unusedSimpArgs false
theorem mapLevel_is {N : Nat} {μ : AMem} (hw : WF μ) {x : SV} {n : Nat} {rs : List SV} {wss : List (List Int)} (h : Mp N μ x n rs wss) {k : Nat} {ws : List Int} (hk : wss[k]? = some ws) (hl : ws.length ≤ 10000) (hk2 : k ≤ 100) :
    ∃ y μ', bitmap_Map_Level [.s x, .s (.int .i64 k)] μ = some (.s y, μ') ∧ Same μ μ' ∧ OwnRow μ.next μ' .u64 31 y ws := by
  obtain ⟨sid, r, L, p, rfl, hr, hc0, hc1, hL, hi, hld, ⟨e, ho⟩, hok⟩ := h.level hk
  obtain ⟨y, m, g1, g2, g3⟩ := copyS (e := 31) (B := 8) (b := 7) (n := 9) hw (Keep.refl hw) ho.row (by omega) (by omega) (by omega)
  have hkl := (List.getElem?_eq_some_iff.mp hk).1
  have hld9 : ∀ {R : Type} (K : AV → Option R), loadAt (μ.bump 9) p K = K (.s r) := fun K => hld K
  refine ⟨y, m, ?_, g2, g3⟩
  rw [bitmap_Map_Level_eq]
  simp -implicitDefEqProofs only [lt_f (show (0 : Int) ≤ (k : Int) by omega), hc1, hL, ge_f (show (k : Int) < (wss.length : Int) by omega), bump_cell, hi, hld9, g1, Option.bind_some, decide_true, decide_false, cond_true, cond_false, seqJ_n, seqJ_r, seqJ_e, headK_c, asB_bool, asI_int, asS_s, asN_int, extrK_0, extrK_1, extrK_2, Bool.not_true, Bool.not_false, Nat.beq_refl]
end Go.Proofs.Ytepdjffnjfdklaa
/- Maps: bytes; levels of words. -/
namespace Go.Proofs.Ytepdjffnjfdklaa
open Go Go.Proofs.Ytepdjffnjfdklaa.E
set_option linter.unusedVariables false
set_option linter.unusedSimpArgs false
def bf (V : Nat → Bool) (z : List Int) : Nat → List Int
  | 0 => z
  | i + 1 => if V i then (bf V z i).set (i / 8) (orB ((bf V z i).getD (i / 8) 0) (i % 8)) else bf V z i
theorem bf_len (V : Nat → Bool) (z : List Int) : ∀ i, (bf V z i).length = z.length
  | 0 => rfl
  | i + 1 => by
    rw [bf]
    split
    · rw [List.length_set]; exact bf_len V z i
    · exact bf_len V z i
theorem bf_congr {V W : Nat → Bool} (z : List Int) : ∀ n : Nat, (∀ j, j < n → V j = W j) → bf V z n = bf W z n
  | 0, _ => rfl
  | n + 1, h => by rw [bf, bf, bf_congr z n fun j hj => h j (by omega), h n (by omega)]
theorem div8 {i : Nat} (h : i ≤ 5000) : IntKind.wrap .i64 (Int.tdiv (i : Int) 8) = ((i / 8 : Nat) : Int) := by rw [Int.tdiv_eq_ediv_of_nonneg (by omega), wr (by omega)]; omega
theorem mod8 (i : Nat) : Int.tmod (i : Int) 8 = ((i % 8 : Nat) : Int) := by rw [Int.tmod_eq_emod_of_nonneg (by omega)]; omega
theorem min8 (i : Nat) : min (Int.toNat ((i % 8 : Nat) : Int)) (IntKind.bits .u8) = i % 8 := by show min _ 8 = _; omega
theorem min8' (i : Nat) : min (i % 8) (IntKind.bits .u8) = i % 8 := by show min _ 8 = _; omega
theorem len8 {n : Nat} (h : n ≤ 5000) : IntKind.wrap .i64 (Int.tdiv (IntKind.wrap .i64 ((n : Int) + 7)) 8) = (((n + 7) / 8 : Nat) : Int) := by
  rw [wr (n := (n : Int) + 7) (by omega), Int.tdiv_eq_ediv_of_nonneg (by omega), wr (by omega)]; omega
theorem refBytes_loop {μ0 : AMem} (h0 : WF μ0) {N : Nat} {c y : SV} {bs : List Bool} (h : OwnB N μ0 c bs) (hn : bs.length ≤ 5000) {z : List Int} (hz : z.length = (bs.length + 7) / 8) :
    ∀ (k i : Nat) (m : AMem), i + k = bs.length → Same μ0 m → OwnRow μ0.next m .u8 5 y (bf (Vb bs) z i) →
      ∃ m', overdubref10_Map_Bytes_L1 [.s c, .s y, .s (.int .i64 (bs.length : Int))] [.s (.int .i64 (i : Int))] m = some (.exit 0, [.s y], m') ∧ Same μ0 m' ∧ OwnRow μ0.next m' .u8 5 y (bf (Vb bs) z bs.length)
  | 0, i, m, hi, hs, hy => by
    obtain rfl : i = bs.length := by omega
    refine ⟨m, ?_, hs, hy⟩
    rw [overdubref10_Map_Bytes_L1_eq, overdubref10_Map_Bytes_L1_B_eq]
    simp -implicitDefEqProofs only [lt_f (Int.le_refl (bs.length : Int)), Option.bind_some, decide_true, decide_false, cond_true, cond_false, seqJ_n, seqJ_r, seqJ_e, headK_c, asB_bool, asI_int, asS_s, asN_int, extrK_0, extrK_1, extrK_2, Bool.not_true, Bool.not_false, Nat.beq_refl]
  | k + 1, i, m, hi, hs, hy => by
    have hh := h.same hs
    have ei : IntKind.wrap .i64 ((i : Int) + 1) = ((i + 1 : Nat) : Int) := by rw [wr (by omega)]; rfl
    have c1 := lt_t (show (i : Int) < (bs.length : Int) by omega)
    have g1 := fun {R : Type} (K : AV → Option R) => hh.ind (i := (i : Int)) (by omega) (by omega) K
    have l1 := fun {R : Type} (K : AV → Option R) => hh.load (i := i) (by omega) K
    have hv : bs.getD i false = Vb bs i := rfl
    have hl := bf_len (Vb bs) z i
    cases hb : Vb bs i
    · obtain ⟨m', q1, q2⟩ := refBytes_loop h0 h hn hz k (i + 1) m (by omega) hs (by rw [bf, hb]; exact hy)
      refine ⟨m', ?_, q2⟩
      rw [overdubref10_Map_Bytes_L1_eq, overdubref10_Map_Bytes_L1_B_eq]
      simp -implicitDefEqProofs only [c1, g1, l1, hv, hb, ei, Option.bind_some, decide_true, decide_false, cond_true, cond_false, seqJ_n, seqJ_r, seqJ_e, headK_c, asB_bool, asI_int, asS_s, asN_int, extrK_0, extrK_1, extrK_2, Bool.not_true, Bool.not_false, Nat.beq_refl]
      exact q1
    · have g2 := fun {R : Type} (K : AV → Option R) => hy.row.ind (i := ((i / 8 : Nat) : Int)) (by omega) (by omega) K
      have l2 := fun {R : Type} (K : AV → Option R) => hy.row.load (i := ((i / 8 : Nat) : Int)) (by omega) (by omega) K
      obtain ⟨m1, s1, s2, s3, _⟩ := storeS h0 hs hy (i := i / 8) (by omega) (orB ((bf (Vb bs) z i).getD (i / 8) 0) (i % 8))
      obtain ⟨m', q1, q2⟩ := refBytes_loop h0 h hn hz k (i + 1) m1 (by omega) s2 (by rw [bf, hb, if_pos rfl]; exact s3)
      refine ⟨m', ?_, q2⟩
      have hw8 : IntKind.wrap .u64 ((i % 8 : Nat) : Int) = ((i % 8 : Nat) : Int) := wu64 ⟨by omega, by omega⟩
      have hor : IntKind.wrap .u8 (BitVec.toNat ((BitVec.ofInt (IntKind.bits .u8) ((bf (Vb bs) z i).getD (i / 8) 0)) ||| (BitVec.ofInt (IntKind.bits .u8) (Int.fdiv 128 (2 ^ (i % 8)))))) = orB ((bf (Vb bs) z i).getD (i / 8) 0) (i % 8) := rfl
      rw [overdubref10_Map_Bytes_L1_eq, overdubref10_Map_Bytes_L1_B_eq]
      simp -implicitDefEqProofs only [c1, g1, l1, hv, hb, div8 (show i ≤ 5000 by omega), g2, l2, nat_toNat, mod8, hw8, if_neg (show ¬ ((i % 8 : Nat) : Int) < 0 by omega), min8, min8', hor, s1, ei, Option.bind_some, decide_true, decide_false, cond_true, cond_false, seqJ_n, seqJ_r, seqJ_e, headK_c, asB_bool, asI_int, asS_s, asN_int, extrK_0, extrK_1, extrK_2, Bool.not_true, Bool.not_false, Nat.beq_refl]
      exact q1
theorem refMapBytes_is {N : Nat} {μ : AMem} (hw : WF μ) {c : SV} {bs : List Bool} (h : OwnB N μ c bs) (hn : bs.length ≤ 5000) :
    ∃ y μ', overdubref10_Map_Bytes [.s c] μ = some (.s y, μ') ∧ Same μ μ' ∧ OwnRow μ.next μ' .u8 5 y (bf (Vb bs) (List.replicate ((bs.length + 7) / 8) 0) bs.length) := by
  have k1 : Same μ ((μ.bump 6).set (μ.next + 4) (rowObj (zerosA [.int .u8 0] ((bs.length + 7) / 8)) 1 5 (some ((bs.length + 7) / 8)))) := Same.bumpSet hw (by omega) _
  have hy : OwnRow μ.next ((μ.bump 6).set (μ.next + 4) (rowObj (zerosA [.int .u8 0] ((bs.length + 7) / 8)) 1 5 (some ((bs.length + 7) / 8)))) .u8 5 (.slice (μ.next + 4) 0 0 ((bs.length + 7) / 8)) (List.replicate ((bs.length + 7) / 8) 0) :=
    OwnRow.new (o := rowObj (zerosA [.int .u8 0] ((bs.length + 7) / 8)) 1 5 (some ((bs.length + 7) / 8))) (by simp) (by omega) (by simp) rfl rfl rfl rfl (by show zerosA _ _ = _; rw [zerosA_rep]; simp)
  obtain ⟨m', q1, q2, q3⟩ := refBytes_loop hw h hn (z := List.replicate ((bs.length + 7) / 8) 0) (by simp) bs.length 0 _ (Nat.zero_add _) k1 hy
  rw [n0] at q1
  refine ⟨_, m', ?_, q2, q3⟩
  rw [overdubref10_Map_Bytes_eq, h.len]
  simp -implicitDefEqProofs only [len8 hn, nat_toNat, Option.bind_some, decide_true, decide_false, cond_true, cond_false, seqJ_n, seqJ_r, seqJ_e, headK_c, asB_bool, asI_int, asS_s, asN_int, extrK_0, extrK_1, extrK_2, Bool.not_true, Bool.not_false, Nat.beq_refl]
  rw [if_pos (by omega)]
  simp -implicitDefEqProofs only [q1, Option.bind_some, decide_true, decide_false, cond_true, cond_false, seqJ_n, seqJ_r, seqJ_e, headK_c, asB_bool, asI_int, asS_s, asN_int, extrK_0, extrK_1, extrK_2, Bool.not_true, Bool.not_false, Nat.beq_refl]
theorem mapBytes_loop {μ0 : AMem} (h0 : WF μ0) {N n : Nat} {x y : SV} {rs : List SV} {ws : List Int} (h : Mw N μ0 x n rs ws) (hn : n ≤ 5000) {z : List Int} (hz : z.length = (n + 7) / 8) :
    ∀ (k i : Nat) (m : AMem), i + k = n → Same μ0 m → OwnRow μ0.next m .u8 5 y (bf (U ws) z i) →
      ∃ m', bitmap_Map_Bytes_L1 [.s x, .s y, .s (.int .i64 (n : Int))] [.s (.int .i64 (i : Int))] m = some (.exit 0, [.s y], m') ∧ Same μ0 m' ∧ OwnRow μ0.next m' .u8 5 y (bf (U ws) z n)
  | 0, i, m, hi, hs, hy => by
    obtain ⟨sid, rfl⟩ := h.isPtr
    obtain rfl : i = n := by omega
    refine ⟨m, ?_, hs, hy⟩
    rw [bitmap_Map_Bytes_L1_eq, bitmap_Map_Bytes_L1_B_eq]
    simp -implicitDefEqProofs only [lt_f (Int.le_refl (i : Int)), Option.bind_some, decide_true, decide_false, cond_true, cond_false, seqJ_n, seqJ_r, seqJ_e, headK_c, asB_bool, asI_int, asS_s, asN_int, extrK_0, extrK_1, extrK_2, Bool.not_true, Bool.not_false, Nat.beq_refl]
  | k + 1, i, m, hi, hs, hy => by
    have hus := used_is (h.same hs) (i : Int)
    rw [usedZ_in (n := n) (ws := ws) (i := i) (by omega)] at hus
    obtain ⟨sid, hx⟩ := h.isPtr
    have ei : IntKind.wrap .i64 ((i : Int) + 1) = ((i + 1 : Nat) : Int) := by rw [wr (by omega)]; rfl
    have c1 := lt_t (show (i : Int) < (n : Int) by omega)
    have hl := bf_len (U ws) z i
    cases hb : U ws i
    · rw [hb] at hus
      obtain ⟨m', q1, q2⟩ := mapBytes_loop h0 h hn hz k (i + 1) m (by omega) hs (by rw [bf, hb]; exact hy)
      subst hx
      refine ⟨m', ?_, q2⟩
      rw [bitmap_Map_Bytes_L1_eq, bitmap_Map_Bytes_L1_B_eq]
      simp -implicitDefEqProofs only [c1, hus, ei, Option.bind_some, decide_true, decide_false, cond_true, cond_false, seqJ_n, seqJ_r, seqJ_e, headK_c, asB_bool, asI_int, asS_s, asN_int, extrK_0, extrK_1, extrK_2, Bool.not_true, Bool.not_false, Nat.beq_refl]
      exact q1
    · rw [hb] at hus
      have g2 := fun {R : Type} (K : AV → Option R) => hy.row.ind (i := ((i / 8 : Nat) : Int)) (by omega) (by omega) K
      have l2 := fun {R : Type} (K : AV → Option R) => hy.row.load (i := ((i / 8 : Nat) : Int)) (by omega) (by omega) K
      obtain ⟨m1, s1, s2, s3, _⟩ := storeS h0 hs hy (i := i / 8) (by omega) (orB ((bf (U ws) z i).getD (i / 8) 0) (i % 8))
      obtain ⟨m', q1, q2⟩ := mapBytes_loop h0 h hn hz k (i + 1) m1 (by omega) s2 (by rw [bf, hb, if_pos rfl]; exact s3)
      subst hx
      refine ⟨m', ?_, q2⟩
      have hor : IntKind.wrap .u8 (BitVec.toNat ((BitVec.ofInt (IntKind.bits .u8) ((bf (U ws) z i).getD (i / 8) 0)) ||| (BitVec.ofInt (IntKind.bits .u8) (Int.fdiv 128 (2 ^ (i % 8)))))) = orB ((bf (U ws) z i).getD (i / 8) 0) (i % 8) := rfl
      rw [bitmap_Map_Bytes_L1_eq, bitmap_Map_Bytes_L1_B_eq]
      simp -implicitDefEqProofs only [c1, hus, div8 (show i ≤ 5000 by omega), g2, l2, nat_toNat, mod8, if_neg (show ¬ ((i % 8 : Nat) : Int) < 0 by omega), min8, min8', hor, s1, ei, Option.bind_some, decide_true, decide_false, cond_true, cond_false, seqJ_n, seqJ_r, seqJ_e, headK_c, asB_bool, asI_int, asS_s, asN_int, extrK_0, extrK_1, extrK_2, Bool.not_true, Bool.not_false, Nat.beq_refl]
      exact q1
theorem mapBytes_is {N n : Nat} {μ : AMem} (hw : WF μ) {x : SV} {rs : List SV} {ws : List Int} (h : Mw N μ x n rs ws) (hn : n ≤ 5000) :
    ∃ y μ', bitmap_Map_Bytes [.s x] μ = some (.s y, μ') ∧ Same μ μ' ∧ OwnRow μ.next μ' .u8 5 y (bf (U ws) (List.replicate ((n + 7) / 8) 0) n) := by
  have k1 : Same μ ((μ.bump 8).set (μ.next + 6) (rowObj (zerosA [.int .u8 0] ((n + 7) / 8)) 1 5 (some ((n + 7) / 8)))) := Same.bumpSet hw (by omega) _
  have hy : OwnRow μ.next ((μ.bump 8).set (μ.next + 6) (rowObj (zerosA [.int .u8 0] ((n + 7) / 8)) 1 5 (some ((n + 7) / 8)))) .u8 5 (.slice (μ.next + 6) 0 0 ((n + 7) / 8)) (List.replicate ((n + 7) / 8) 0) :=
    OwnRow.new (o := rowObj (zerosA [.int .u8 0] ((n + 7) / 8)) 1 5 (some ((n + 7) / 8))) (by simp) (by omega) (by simp) rfl rfl rfl rfl (by show zerosA _ _ = _; rw [zerosA_rep]; simp)
  obtain ⟨m', q1, q2, q3⟩ := mapBytes_loop hw h hn (z := List.replicate ((n + 7) / 8) 0) (by simp) n 0 _ (Nat.zero_add _) k1 hy
  rw [n0] at q1
  have cellOf : ∀ m, Mw N m x n rs ws → ∃ sid, x = .ptr sid 0 0 ∧ m.cell sid 0 (0 + 0) = some (.int .i64 n) := fun m hm => by
    obtain ⟨wss, hp, _, hz0⟩ := hm.ex
    obtain ⟨sid, r, L, p, hx, _, hc0, _⟩ := hp.level hz0
    exact ⟨sid, hx, hc0⟩
  obtain ⟨sid, hx, hc0⟩ := cellOf μ h
  obtain ⟨sid', hx', hc1⟩ := cellOf _ (h.same k1)
  subst hx
  cases hx'
  refine ⟨_, m', ?_, q2, q3⟩
  rw [bitmap_Map_Bytes_eq]
  simp -implicitDefEqProofs only [bump_cell, hc0, len8 hn, nat_toNat, Option.bind_some, decide_true, decide_false, cond_true, cond_false, seqJ_n, seqJ_r, seqJ_e, headK_c, asB_bool, asI_int, asS_s, asN_int, extrK_0, extrK_1, extrK_2, Bool.not_true, Bool.not_false, Nat.beq_refl]
  rw [if_pos (by omega)]
  simp -implicitDefEqProofs only [hc1, q1, Option.bind_some, decide_true, decide_false, cond_true, cond_false, seqJ_n, seqJ_r, seqJ_e, headK_c, asB_bool, asI_int, asS_s, asN_int, extrK_0, extrK_1, extrK_2, Bool.not_true, Bool.not_false, Nat.beq_refl]
theorem mapLen_is {N n : Nat} {μ : AMem} {x : SV} {rs : List SV} {ws : List Int} (h : Mw N μ x n rs ws) : bitmap_Map_Len [.s x] μ = some (.s (.int .i64 (n : Int)), μ) := by
  obtain ⟨wss, hp, _, hz0⟩ := h.ex
  obtain ⟨sid, r, L, p, rfl, _, hc0, _⟩ := hp.level hz0
  rw [bitmap_Map_Len_eq]
  simp -implicitDefEqProofs only [hc0, Option.bind_some, decide_true, decide_false, cond_true, cond_false, seqJ_n, seqJ_r, seqJ_e, headK_c, asB_bool, asI_int, asS_s, asN_int, extrK_0, extrK_1, extrK_2, Bool.not_true, Bool.not_false, Nat.beq_refl]
/-! Levels. -/
/-- Words that hold just these, and ones behind. -/
def Wds (bs : List Bool) (zs : List Int) : Prop := (∀ w ∈ zs, w64ok w) ∧ ∀ j, j < 64 * zs.length → U zs j = if j < bs.length then Vb bs j else true
theorem word_ext {w v : Int} (hw : w64ok w) (hv : w64ok v) (h : ∀ j, j < 64 → bitV w j = bitV v j) : w = v := by
  have e : BitVec.ofInt 64 w = BitVec.ofInt 64 v := by
    apply BitVec.eq_of_getLsbD_eq
    intro i hi
    exact h i hi
  have e2 := congrArg BitVec.toNat e
  unfold w64ok at hw hv
  simp only [BitVec.toNat_ofInt] at e2
  omega
theorem words_ext {zs vs : List Int} (hz : ∀ w ∈ zs, w64ok w) (hv : ∀ w ∈ vs, w64ok w) (hl : zs.length = vs.length) (h : ∀ j, j < 64 * zs.length → U zs j = U vs j) : zs = vs := by
  apply List.ext_getElem hl
  intro i h1 h2
  refine word_ext (hz _ (List.getElem_mem h1)) (hv _ (List.getElem_mem h2)) fun j hj => ?_
  have := h (64 * i + j) (by omega)
  unfold U at this
  rw [show (64 * i + j) / 64 = i by omega, show (64 * i + j) % 64 = j by omega, getD_lt h1, getD_lt h2] at this
  exact this
theorem word_loop {N : Nat} {μ : AMem} {c y : SV} {bs : List Bool} {s1 s6 : Int} (h : OwnB N μ c bs) (hn : bs.length ≤ 5000) {i : Nat} (hi : i ≤ 5000) :
    ∀ (k j : Nat) (w : Int), j + k = min 64 (bs.length - i) → w64ok w → (∀ b, b < 64 → bitV w b = if b < j ∧ i + b < bs.length then Vb bs (i + b) else true) →
      ∃ w', overdubref10_Map_Level_L4 [.s (.int .i64 s1), .s c, .s (.int .i64 s6), .s y, .s (.int .i64 (i : Int))] [.s (.int .u64 w), .s (.int .i64 (j : Int))] μ = some (.exit 4, [.s (.int .i64 s1), .s c, .s (.int .i64 s6), .s y, .s (.int .i64 (i : Int)), .s (.int .u64 w')], μ) ∧ w64ok w' ∧ ∀ b, b < 64 → bitV w' b = if i + b < bs.length then Vb bs (i + b) else true
  | 0, j, w, hj, hw, hb => by
    refine ⟨w, ?_, hw, fun b hb2 => ?_⟩
    · have ew : IntKind.wrap .i64 ((i : Int) + (j : Int)) = ((i + j : Nat) : Int) := by rw [wr (by omega)]; rfl
      rw [overdubref10_Map_Level_L4_eq, overdubref10_Map_Level_L4_B_eq]
      by_cases h64 : j < 64
      · simp -implicitDefEqProofs only [lt_t (show (j : Int) < 64 by omega), h.len, ew, lt_f (show (bs.length : Int) ≤ ((i + j : Nat) : Int) by omega), Option.bind_some, decide_true, decide_false, cond_true, cond_false, seqJ_n, seqJ_r, seqJ_e, headK_c, asB_bool, asI_int, asS_s, asN_int, extrK_0, extrK_1, extrK_2, Bool.not_true, Bool.not_false, Nat.beq_refl]
      · simp -implicitDefEqProofs only [lt_f (show (64 : Int) ≤ (j : Int) by omega), Option.bind_some, decide_true, decide_false, cond_true, cond_false, seqJ_n, seqJ_r, seqJ_e, headK_c, asB_bool, asI_int, asS_s, asN_int, extrK_0, extrK_1, extrK_2, Bool.not_true, Bool.not_false, Nat.beq_refl]
    · rw [hb b hb2]
      by_cases h1 : i + b < bs.length
      · rw [if_pos ⟨by omega, h1⟩, if_pos h1]
      · rw [if_neg (fun h => h1 h.2), if_neg h1]
  | k + 1, j, w, hj, hw, hb => by
    have hj64 : j < 64 := by omega
    have hin : i + j < bs.length := by omega
    have ew : IntKind.wrap .i64 ((i : Int) + (j : Int)) = ((i + j : Nat) : Int) := by rw [wr (by omega)]; rfl
    have ej : IntKind.wrap .i64 ((j : Int) + 1) = ((j + 1 : Nat) : Int) := by rw [wr (by omega)]; rfl
    have c1 := lt_t (show (j : Int) < 64 by omega)
    have c2 := lt_t (show ((i + j : Nat) : Int) < (bs.length : Int) by omega)
    have g1 := fun {R : Type} (K : AV → Option R) => h.ind (i := ((i + j : Nat) : Int)) (by omega) (by omega) K
    have l1 := fun {R : Type} (K : AV → Option R) => h.load (i := i + j) (by omega) K
    have hv : bs.getD (i + j) false = Vb bs (i + j) := rfl
    cases hV : Vb bs (i + j)
    · have hwj : IntKind.wrap .u64 (j : Int) = (j : Int) := wu64 ⟨by omega, by omega⟩
      have hmin : min j (IntKind.bits .u64) = j := by show min _ 64 = _; omega
      have hclr : IntKind.wrap .u64 (BitVec.toNat ((BitVec.ofInt (IntKind.bits .u64) w) &&& ~~~ (BitVec.ofInt (IntKind.bits .u64) (IntKind.wrap .u64 (1 * 2 ^ j))))) = clrW w j := rfl
      obtain ⟨w', q1, q2, q3⟩ := word_loop (y := y) (s1 := s1) (s6 := s6) h hn hi k (j + 1) (clrW w j) (by omega) (clrW_ok _ _) fun b hb2 => by
        rw [clrW_bit w hj64 hb2, hb b hb2]
        by_cases hbj : b = j
        · subst hbj; rw [if_pos rfl, if_pos ⟨by omega, hin⟩, hV]
        · rw [if_neg hbj]
          by_cases h1 : b < j ∧ i + b < bs.length
          · rw [if_pos h1, if_pos ⟨by omega, h1.2⟩]
          · rw [if_neg h1, if_neg (fun h => h1 ⟨by omega, h.2⟩)]
      refine ⟨w', ?_, q2, q3⟩
      rw [overdubref10_Map_Level_L4_eq, overdubref10_Map_Level_L4_B_eq]
      simp -implicitDefEqProofs only [c1, h.len, ew, c2, g1, l1, hv, hV, hwj, if_neg (show ¬ (j : Int) < 0 by omega), nat_toNat, hmin, hclr, ej, Option.bind_some, decide_true, decide_false, cond_true, cond_false, seqJ_n, seqJ_r, seqJ_e, headK_c, asB_bool, asI_int, asS_s, asN_int, extrK_0, extrK_1, extrK_2, Bool.not_true, Bool.not_false, Nat.beq_refl]
      exact q1
    · obtain ⟨w', q1, q2, q3⟩ := word_loop (y := y) (s1 := s1) (s6 := s6) h hn hi k (j + 1) w (by omega) hw fun b hb2 => by
        rw [hb b hb2]
        by_cases hbj : b = j
        · subst hbj; rw [if_neg (by omega), if_pos ⟨by omega, hin⟩, hV]
        · by_cases h1 : b < j ∧ i + b < bs.length
          · rw [if_pos h1, if_pos ⟨by omega, h1.2⟩]
          · rw [if_neg h1, if_neg (fun h => h1 ⟨by omega, h.2⟩)]
      refine ⟨w', ?_, q2, q3⟩
      rw [overdubref10_Map_Level_L4_eq, overdubref10_Map_Level_L4_B_eq]
      simp -implicitDefEqProofs only [c1, h.len, ew, c2, g1, l1, hv, hV, ej, Option.bind_some, decide_true, decide_false, cond_true, cond_false, seqJ_n, seqJ_r, seqJ_e, headK_c, asB_bool, asI_int, asS_s, asN_int, extrK_0, extrK_1, extrK_2, Bool.not_true, Bool.not_false, Nat.beq_refl]
      exact q1
theorem words_loop {m0 : AMem} (h0 : WF m0) {N : Nat} {c : SV} {bs : List Bool} {s1 s6 : Int} (h : OwnB N m0 c bs) (hn : bs.length ≤ 5000) :
    ∀ (k : Nat) (m : AMem) (y : SV) (zs : List Int), bs.length ≤ 64 * zs.length + 64 * k → zs.length ≤ (bs.length + 63) / 64 → Same m0 m → OwnRow m0.next m .u64 31 y zs → Wds bs zs →
      ∃ y' m' zs', overdubref10_Map_Level_L2 [.s (.int .i64 s1), .s c, .s (.int .i64 s6)] [.s y, .s (.int .i64 ((64 * zs.length : Nat) : Int))] m = some (.exit 2, [.s (.int .i64 s1), .s (.int .i64 s6), .s y'], m') ∧ Same m0 m' ∧ OwnRow m0.next m' .u64 31 y' zs' ∧ Wds bs zs' ∧ zs'.length = (bs.length + 63) / 64
  | k, m, y, zs, hk, hzl, hs, hy, hW => by
    have hh := h.same hs
    by_cases hin : 64 * zs.length < bs.length
    · match k, hk with
      | 0, hk => omega
      | k + 1, hk =>
        obtain ⟨w, q1, q2, q3⟩ := word_loop (y := y) (s1 := s1) (s6 := s6) hh hn (i := 64 * zs.length) (by omega) (min 64 (bs.length - 64 * zs.length)) 0 18446744073709551615 (Nat.zero_add _) ⟨by omega, by omega⟩ fun b hb => by
          rw [if_neg (by omega)]; exact full_bit ⟨b, hb⟩
        rw [n0] at q1
        obtain ⟨y1, m1, p1, p2, p3⟩ := pushS (B := 8) (a := 2) (b := 3) (n := 5) (q := some 1) h0 hs hy w (by omega) (by omega) (by omega) (by omega) (by omega)
        have hW1 : Wds bs (zs ++ [w]) := by
          refine ⟨fun v hv => ?_, fun j hj => ?_⟩
          · rcases List.mem_append.mp hv with h | h
            · exact hW.1 v h
            · simp only [List.mem_cons, List.not_mem_nil, or_false] at h; subst h; exact q2
          · rw [List.length_append, List.length_singleton] at hj
            by_cases hlt : j < 64 * zs.length
            · rw [← hW.2 j hlt]
              unfold U
              rw [List.getD_eq_getElem?_getD, List.getElem?_append_left (by omega), ← List.getD_eq_getElem?_getD]
            · have hb := q3 (j - 64 * zs.length) (by omega)
              rw [show 64 * zs.length + (j - 64 * zs.length) = j by omega] at hb
              rw [← hb]
              unfold U
              rw [List.getD_eq_getElem?_getD, List.getElem?_append_right (by omega), show j / 64 - zs.length = 0 by omega, show j % 64 = j - 64 * zs.length by omega]
              rfl
        obtain ⟨y2, m2, zs2, r1, r2⟩ := words_loop (s1 := s1) (s6 := s6) h0 h hn k m1 y1 (zs ++ [w]) (by simp; omega) (by simp; omega) p2 p3 hW1
        refine ⟨y2, m2, zs2, ?_, r2⟩
        have ei : IntKind.wrap .i64 (((64 * zs.length : Nat) : Int) + 64) = ((64 * (zs ++ [w]).length : Nat) : Int) := by rw [wr (by omega)]; simp; omega
        rw [overdubref10_Map_Level_L2_eq, overdubref10_Map_Level_L2_B_eq, hh.len]
        simp -implicitDefEqProofs only [lt_t (show ((64 * zs.length : Nat) : Int) < (bs.length : Int) by omega), q1, p1, ei, Option.bind_some, decide_true, decide_false, cond_true, cond_false, seqJ_n, seqJ_r, seqJ_e, headK_c, asB_bool, asI_int, asS_s, asN_int, extrK_0, extrK_1, extrK_2, Bool.not_true, Bool.not_false, Nat.beq_refl]
        exact r1
    · refine ⟨y, m, zs, ?_, hs, hy, hW, by omega⟩
      rw [overdubref10_Map_Level_L2_eq, overdubref10_Map_Level_L2_B_eq, hh.len]
      simp -implicitDefEqProofs only [lt_f (show (bs.length : Int) ≤ ((64 * zs.length : Nat) : Int) by omega), Option.bind_some, decide_true, decide_false, cond_true, cond_false, seqJ_n, seqJ_r, seqJ_e, headK_c, asB_bool, asI_int, asS_s, asN_int, extrK_0, extrK_1, extrK_2, Bool.not_true, Bool.not_false, Nat.beq_refl]
/-- Which words are full. -/
def fullB (zs : List Int) : List Bool := zs.map fun w => w == 18446744073709551615
theorem full_loop {m0 : AMem} (h0 : WF m0) {y : SV} {zs : List Int} {s1 s6 : Int} (hy : IsRow m0 .u64 y zs) (hn : zs.length ≤ 5000) :
    ∀ (k i : Nat) (m : AMem) (x : SV), i + k = zs.length → Same m0 m → OwnB m0.next m x ((fullB zs).take i) →
      ∃ x' m', overdubref10_Map_Level_L3 [.s (.int .i64 s1), .s (.int .i64 s6), .s y, .s (.int .i64 (zs.length : Int))] [.s x, .s (.int .i64 (i : Int))] m = some (.exit 6, [.s (.int .i64 s1), .s x', .s (.int .i64 s6)], m') ∧ Same m0 m' ∧ OwnB m0.next m' x' (fullB zs)
  | 0, i, m, x, hi, hs, hx => by
    obtain rfl : i = zs.length := by omega
    refine ⟨x, m, ?_, hs, by rw [List.take_of_length_le (by simp [fullB])] at hx; exact hx⟩
    rw [overdubref10_Map_Level_L3_eq, overdubref10_Map_Level_L3_B_eq]
    simp -implicitDefEqProofs only [lt_f (Int.le_refl (zs.length : Int)), Option.bind_some, decide_true, decide_false, cond_true, cond_false, seqJ_n, seqJ_r, seqJ_e, headK_c, asB_bool, asI_int, asS_s, asN_int, extrK_0, extrK_1, extrK_2, Bool.not_true, Bool.not_false, Nat.beq_refl]
  | k + 1, i, m, x, hi, hs, hx => by
    have hy9 := hy.same (bumpS hs 9)
    have ei : IntKind.wrap .i64 ((i : Int) + 1) = ((i + 1 : Nat) : Int) := by rw [wr (by omega)]; rfl
    have g1 := fun {R : Type} (K : AV → Option R) => hy9.ind (i := (i : Int)) (by omega) (by omega) K
    have l1 := fun {R : Type} (K : AV → Option R) => hy9.load (i := (i : Int)) (by omega) (by omega) K
    have hfl : (fullB zs).length = zs.length := by simp [fullB]
    obtain ⟨x1, m1, p1, p2, p3⟩ := OwnB.push (a := 6) (b := 7) (n := 9) h0 hs hx (zs.getD i 0 == 18446744073709551615) (by simp; omega) (by omega) (by omega) (by omega)
    have ht : (fullB zs).take i ++ [zs.getD i 0 == 18446744073709551615] = (fullB zs).take (i + 1) := by
      rw [List.take_add_one]
      congr 1
      unfold fullB
      rw [List.getElem?_map, List.getElem?_eq_getElem (by omega), getD_lt (by omega)]; rfl
    rw [ht] at p3
    obtain ⟨x2, m2, q1, q2⟩ := full_loop (s1 := s1) (s6 := s6) h0 hy hn k (i + 1) m1 x1 (by omega) p2 p3
    refine ⟨x2, m2, ?_, q2⟩
    rw [overdubref10_Map_Level_L3_eq, overdubref10_Map_Level_L3_B_eq]
    simp -implicitDefEqProofs only [lt_t (show (i : Int) < (zs.length : Int) by omega), g1, l1, nat_toNat, p1, ei, Option.bind_some, decide_true, decide_false, cond_true, cond_false, seqJ_n, seqJ_r, seqJ_e, headK_c, asB_bool, asI_int, asS_s, asN_int, extrK_0, extrK_1, extrK_2, Bool.not_true, Bool.not_false, Nat.beq_refl]
    exact q1
end Go.Proofs.Ytepdjffnjfdklaa
/- What Same of bytes comes to. -/
namespace Go.Proofs.Ytepdjffnjfdklaa
open Go Go.Proofs.Ytepdjffnjfdklaa.E
set_option linter.unusedVariables false
set_option linter.unusedSimpArgs false
theorem sameU_loop {μ : AMem} {x y : SV} {zs ws : List Int} (hx : IsRow μ .u64 x zs) (hy : IsRow μ .u64 y ws) (hl : zs.length = ws.length) (hb : zs.length ≤ 4611686018427387904) :
    ∀ k i : Nat, i + k = zs.length → overdubkeep_Same_uint64_L1 [.s x, .s y] [.s (.int .i64 i)] μ = if zs.drop i = ws.drop i then some (.exit 0, [], μ) else some (.ret, [.s (.bool false)], μ)
  | 0, i, h => by
    have h1 : ¬ (i : Int) < (zs.length : Int) := by omega
    rw [overdubkeep_Same_uint64_L1_eq, overdubkeep_Same_uint64_L1_B_eq, hx.len]
    rw [List.drop_eq_nil_of_le (by omega), List.drop_eq_nil_of_le (by omega), if_pos rfl]
    simp only [h1, Option.bind_some, decide_true, decide_false, cond_true, cond_false, seqJ_n, seqJ_r, seqJ_e, headK_c, asB_bool, asI_int, asS_s, asN_int, Bool.not_true, Bool.not_false, Nat.beq_refl]
  | k + 1, i, h => by
    have ih := sameU_loop hx hy hl hb k (i + 1) (by omega)
    have h1 : (i : Int) < (zs.length : Int) := by omega
    have e1 : IntKind.wrap .i64 ((i : Int) + 1) = ((i + 1 : Nat) : Int) := by rw [wr (by omega)]; omega
    have e3 : (((i : Nat) : Int)).toNat = i := by omega
    have hi : i < zs.length := by omega
    have hi2 : i < ws.length := by omega
    rw [overdubkeep_Same_uint64_L1_eq, overdubkeep_Same_uint64_L1_B_eq, hx.len]
    simp only [h1, Option.bind_some, decide_true, decide_false, cond_true, cond_false, seqJ_n, seqJ_r, seqJ_e, headK_c, asB_bool, asI_int, asS_s, asN_int, Bool.not_true, Bool.not_false, Nat.beq_refl]
    rw [hx.ind (by omega) h1, hx.load (by omega) h1, asI_int, hy.ind (by omega) (by omega), hy.load (by omega) (by omega), asI_int, e3]
    rw [List.drop_eq_getElem_cons hi, List.drop_eq_getElem_cons hi2]
    have g1 : zs.getD i 0 = zs[i] := by rw [List.getD_eq_getElem?_getD, List.getElem?_eq_getElem hi]; rfl
    have g2 : ws.getD i 0 = ws[i] := by rw [List.getD_eq_getElem?_getD, List.getElem?_eq_getElem hi2]; rfl
    rw [g1, g2]
    by_cases he : zs[i] = ws[i]
    · have hb1 : (zs[i] != ws[i]) = false := by simp [he]
      have hb2 : (ws[i] != ws[i]) = false := by simp
      simp only [hb2, e1, he, List.cons.injEq, true_and, Option.bind_some, decide_true, decide_false, cond_true, cond_false, seqJ_n, seqJ_r, seqJ_e, headK_c, asB_bool, asI_int, asS_s, asN_int, Bool.not_true, Bool.not_false, Nat.beq_refl]
      exact ih
    · have hb1 : (zs[i] != ws[i]) = true := by simp [he]
      simp only [hb1, he, List.cons.injEq, false_and, if_false, Option.bind_some, decide_true, decide_false, cond_true, cond_false, seqJ_n, seqJ_r, seqJ_e, headK_c, asB_bool, asI_int, asS_s, asN_int, Bool.not_true, Bool.not_false, Nat.beq_refl]
theorem sameU_is {μ : AMem} {x y : SV} {zs ws : List Int} (hx : IsRow μ .u64 x zs) (hy : IsRow μ .u64 y ws) (hb : zs.length ≤ 4611686018427387904) :
    overdubkeep_Same_uint64 [.s x, .s y] μ = some (.s (.bool (decide (zs = ws))), μ) := by
  rw [overdubkeep_Same_uint64_eq, hx.len, hy.len]
  by_cases hl : zs.length = ws.length
  · have h1 : ((zs.length : Int) != (ws.length : Int)) = false := by simp [hl]
    have := sameU_loop hx hy hl hb _ 0 (Nat.zero_add _)
    simp only [h1, Option.bind_some, decide_true, decide_false, cond_true, cond_false, seqJ_n, seqJ_r, seqJ_e, headK_c, asB_bool, asI_int, asS_s, asN_int, Bool.not_true, Bool.not_false, Nat.beq_refl]
    rw [show overdubkeep_Same_uint64_L1 [.s x, .s y] [.s (.int .i64 0)] μ = _ from this]
    simp only [List.drop_zero]
    by_cases he : zs = ws
    · simp only [he, if_true, Option.bind_some, decide_true, decide_false, cond_true, cond_false, seqJ_n, seqJ_r, seqJ_e, headK_c, asB_bool, asI_int, asS_s, asN_int, Bool.not_true, Bool.not_false, Nat.beq_refl]
    · simp only [he, if_false, Option.bind_some, decide_true, decide_false, cond_true, cond_false, seqJ_n, seqJ_r, seqJ_e, headK_c, asB_bool, asI_int, asS_s, asN_int, Bool.not_true, Bool.not_false, Nat.beq_refl]
  · have h1 : ((zs.length : Int) != (ws.length : Int)) = true := by simp; omega
    have he : ¬ zs = ws := fun h => hl (by rw [h])
    simp only [h1, he, Option.bind_some, decide_true, decide_false, cond_true, cond_false, seqJ_n, seqJ_r, seqJ_e, headK_c, asB_bool, asI_int, asS_s, asN_int, Bool.not_true, Bool.not_false, Nat.beq_refl]
end Go.Proofs.Ytepdjffnjfdklaa
/- Maps: the levels are alike. -/
namespace Go.Proofs.Ytepdjffnjfdklaa
open Go Go.Proofs.Ytepdjffnjfdklaa.E
set_option linter.unusedVariables false
set_option linter.unusedSimpArgs false
theorem level_one {m0 : AMem} (h0 : WF m0) {N : Nat} {c : SV} {bs : List Bool} {s1 s6 : Int} (h : OwnB N m0 c bs) (hn : bs.length ≤ 5000) :
    ∃ y m zs, Wds bs zs ∧ zs.length = (bs.length + 63) / 64 ∧ Same m0 m ∧ OwnRow m0.next m .u64 31 y zs ∧
      (s6 = s1 → overdubref10_Map_Level_L1 [.s (.int .i64 s1)] [.s c, .s (.int .i64 s6)] m0 = some (.ret, [.s y], m)) ∧
      (s6 ≠ s1 → zs.length = 1 ∨ s1 < 0 → overdubref10_Map_Level_L1 [.s (.int .i64 s1)] [.s c, .s (.int .i64 s6)] m0 = some (.ret, [.s .nilSlice], m)) ∧
      (s6 ≠ s1 → ¬ zs.length = 1 → 0 ≤ s1 → ∃ x' m', Same m0 m' ∧ OwnB m0.next m' x' (fullB zs) ∧ overdubref10_Map_Level_L1 [.s (.int .i64 s1)] [.s c, .s (.int .i64 s6)] m0 = overdubref10_Map_Level_L1 [.s (.int .i64 s1)] [.s x', .s (.int .i64 (IntKind.wrap .i64 (s6 + 1)))] m') := by
  obtain ⟨y, m, zs, q1, q2, q3, q4, q5⟩ := words_loop (s1 := s1) (s6 := s6) h0 h hn ((bs.length + 63) / 64) m0 .nilSlice [] (by simp; omega) (Nat.zero_le _) (Keep.refl h0) (OwnRow.nil _ _ _ _) ⟨fun w hw => (by cases hw), fun j hj => by simp at hj⟩
  rw [show ((64 * ([] : List Int).length : Nat) : Int) = 0 from rfl] at q1
  refine ⟨y, m, zs, q4, q5, q2, q3, fun he => ?_, fun hne hc => ?_, fun hne h1 h2 => ?_⟩
  · rw [overdubref10_Map_Level_L1_eq, overdubref10_Map_Level_L1_B_eq]
    simp -implicitDefEqProofs only [q1, eq_t he, Option.bind_some, decide_true, decide_false, cond_true, cond_false, seqJ_n, seqJ_r, seqJ_e, headK_c, asB_bool, asI_int, asS_s, asN_int, extrK_0, extrK_1, extrK_2, Bool.not_true, Bool.not_false, Nat.beq_refl]
  · rw [overdubref10_Map_Level_L1_eq, overdubref10_Map_Level_L1_B_eq]
    by_cases hl : zs.length = 1
    · simp -implicitDefEqProofs only [q1, eq_f hne, q3.row.len, eq_t (show ((zs.length : Nat) : Int) = 1 by omega), Option.bind_some, decide_true, decide_false, cond_true, cond_false, seqJ_n, seqJ_r, seqJ_e, headK_c, asB_bool, asI_int, asS_s, asN_int, extrK_0, extrK_1, extrK_2, Bool.not_true, Bool.not_false, Nat.beq_refl]
    · simp -implicitDefEqProofs only [q1, eq_f hne, q3.row.len, eq_f (show ¬ ((zs.length : Nat) : Int) = 1 by omega), lt_t (show s1 < 0 by omega), Option.bind_some, decide_true, decide_false, cond_true, cond_false, seqJ_n, seqJ_r, seqJ_e, headK_c, asB_bool, asI_int, asS_s, asN_int, extrK_0, extrK_1, extrK_2, Bool.not_true, Bool.not_false, Nat.beq_refl]
  · obtain ⟨x', m', r1, r2, r3⟩ := full_loop (s1 := s1) (s6 := s6) q2.wf q3.row (by omega) zs.length 0 m .nilSlice (Nat.zero_add _) (Keep.refl q2.wf) (by rw [List.take_zero]; exact OwnB.nil _ _)
    rw [n0] at r1
    refine ⟨x', m', q2.trans r2, r3.less q2.next, ?_⟩
    rw [overdubref10_Map_Level_L1_eq, overdubref10_Map_Level_L1_B_eq]
    simp -implicitDefEqProofs only [q1, eq_f hne, q3.row.len, eq_f (show ¬ ((zs.length : Nat) : Int) = 1 by omega), lt_f h2, r1, Option.bind_some, decide_true, decide_false, cond_true, cond_false, seqJ_n, seqJ_r, seqJ_e, headK_c, asB_bool, asI_int, asS_s, asN_int, extrK_0, extrK_1, extrK_2, Bool.not_true, Bool.not_false, Nat.beq_refl]
theorem full_len (zs : List Int) : (fullB zs).length = zs.length := by simp [fullB]
theorem refLevel_is {N : Nat} {μ : AMem} (hw : WF μ) {c : SV} {bs : List Bool} (h : OwnB N μ c bs) (hn : 1 ≤ bs.length ∧ bs.length ≤ 4096) (k : Int) :
    ∃ y μ' l, overdubref10_Map_Level [.s c, .s (.int .i64 k)] μ = some (.s y, μ') ∧ Same μ μ' ∧ IsRow μ' .u64 y l ∧ l.length ≤ 5000 ∧ (k = 0 → Wds bs l ∧ l.length = (bs.length + 63) / 64) ∧
      (k = 1 → 64 < bs.length → ∃ zs, Wds bs zs ∧ zs.length = (bs.length + 63) / 64 ∧ Wds (fullB zs) l ∧ l.length = (zs.length + 63) / 64) ∧ (k ≠ 0 → (k = 1 → ¬ 64 < bs.length) → l = []) := by
  obtain ⟨x, m1, e1, k1, o1, _⟩ := h.copy hw (b := 1) (n := 3) (by omega) (by omega)
  obtain ⟨y, m2, zs, hW, hl, k2, o2, A, B, C⟩ := level_one (s1 := k) (s6 := 0) k1.wf o1 (by omega)
  by_cases h0 : k = 0
  · refine ⟨y, m2, zs, ?_, k1.trans k2, o2.row, by omega, fun _ => ⟨hW, hl⟩, fun h1 => by omega, fun h1 => absurd h0 h1⟩
    rw [overdubref10_Map_Level_eq]
    simp -implicitDefEqProofs only [e1, A h0.symm, Option.bind_some, decide_true, decide_false, cond_true, cond_false, seqJ_n, seqJ_r, seqJ_e, headK_c, asB_bool, asI_int, asS_s, asN_int, extrK_0, extrK_1, extrK_2, Bool.not_true, Bool.not_false, Nat.beq_refl]
  · by_cases h1 : zs.length = 1 ∨ k < 0
    · refine ⟨.nilSlice, m2, [], ?_, k1.trans k2, .inl ⟨rfl, rfl⟩, by simp, fun h => absurd h h0, fun h2 h3 => by omega, fun _ _ => rfl⟩
      rw [overdubref10_Map_Level_eq]
      simp -implicitDefEqProofs only [e1, B (fun h => h0 h.symm) h1, Option.bind_some, decide_true, decide_false, cond_true, cond_false, seqJ_n, seqJ_r, seqJ_e, headK_c, asB_bool, asI_int, asS_s, asN_int, extrK_0, extrK_1, extrK_2, Bool.not_true, Bool.not_false, Nat.beq_refl]
    · obtain ⟨x', m3, k3, o3, e3⟩ := C (fun h => h0 h.symm) (fun h => h1 (.inl h)) (by omega)
      obtain ⟨y2, m4, zs2, hW2, hl2, k4, o4, A2, B2, _⟩ := level_one (s1 := k) (s6 := 1) k3.wf o3 (by rw [full_len]; omega)
      rw [full_len] at hl2
      have e01 : IntKind.wrap .i64 ((0 : Int) + 1) = 1 := by rw [wr (by omega)]; rfl
      rw [e01] at e3
      by_cases h2 : k = 1
      · refine ⟨y2, m4, zs2, ?_, k1.trans (k3.trans k4), o4.row, by omega, fun h => absurd h h0, fun _ _ => ⟨zs, hW, hl, hW2, hl2⟩, fun _ h => by have := h h2; omega⟩
        rw [overdubref10_Map_Level_eq]
        simp -implicitDefEqProofs only [e1, e3, A2 h2.symm, Option.bind_some, decide_true, decide_false, cond_true, cond_false, seqJ_n, seqJ_r, seqJ_e, headK_c, asB_bool, asI_int, asS_s, asN_int, extrK_0, extrK_1, extrK_2, Bool.not_true, Bool.not_false, Nat.beq_refl]
      · refine ⟨.nilSlice, m4, [], ?_, k1.trans (k3.trans k4), .inl ⟨rfl, rfl⟩, by simp, fun h => absurd h h0, fun h => absurd h h2, fun _ _ => rfl⟩
        rw [overdubref10_Map_Level_eq]
        simp -implicitDefEqProofs only [e1, e3, B2 (fun h => h2 h.symm) (.inl (by omega)), Option.bind_some, decide_true, decide_false, cond_true, cond_false, seqJ_n, seqJ_r, seqJ_e, headK_c, asB_bool, asI_int, asS_s, asN_int, extrK_0, extrK_1, extrK_2, Bool.not_true, Bool.not_false, Nat.beq_refl]
theorem Mw.words {N : Nat} {μ : AMem} {x : SV} {n : Nat} {rs : List SV} {ws : List Int} (h : Mw N μ x n rs ws) : ws.length = (n + 63) / 64 ∧ ∀ w ∈ ws, w64ok w := by
  obtain ⟨wss, hm, ⟨_, _, hl2, _⟩, h0⟩ := h.ex
  obtain ⟨sid, r, L, p, hx, hr, hc0, hc1, hL, hi, hld, ⟨e, ho⟩, hok⟩ := hm.level h0
  exact ⟨(hl2 ws h0).2.2, hok⟩
theorem mapLevel_any {N : Nat} {μ : AMem} (hw : WF μ) {x : SV} {n : Nat} {rs : List SV} {ws : List Int} (h : Mw N μ x n rs ws) (hn : 1 ≤ n ∧ n ≤ 4096) (k : Int) :
    ∃ y μ' l, bitmap_Map_Level [.s x, .s (.int .i64 k)] μ = some (.s y, μ') ∧ Same μ μ' ∧ IsRow μ' .u64 y l ∧ l.length ≤ 5000 ∧ (k = 0 → l = ws) ∧
      (k = 1 → 64 < n → Sm ws l ∧ (∀ w ∈ l, w64ok w) ∧ l.length = (ws.length + 63) / 64) ∧ (k ≠ 0 → (k = 1 → ¬ 64 < n) → l = []) := by
  have hwl := h.words.1
  obtain ⟨wss, hm, ⟨hl1, hl100, hl2, hl3⟩, h0⟩ := h.ex
  have out : (k < 0 ∨ (wss.length : Int) ≤ k) → bitmap_Map_Level [.s x, .s (.int .i64 k)] μ = some (.s .nilSlice, μ) := fun ho => by
    obtain ⟨sid, r, L, p, rfl, hr, hc0, hc1, hL, _⟩ := hm.level h0
    rw [bitmap_Map_Level_eq]
    by_cases hk : k < 0
    · simp -implicitDefEqProofs only [lt_t hk, Option.bind_some, decide_true, decide_false, cond_true, cond_false, seqJ_n, seqJ_r, seqJ_e, headK_c, asB_bool, asI_int, asS_s, asN_int, extrK_0, extrK_1, extrK_2, Bool.not_true, Bool.not_false, Nat.beq_refl]
    · simp -implicitDefEqProofs only [lt_f (show (0 : Int) ≤ k by omega), hc1, hL, ge_t (show (wss.length : Int) ≤ k by omega), Option.bind_some, decide_true, decide_false, cond_true, cond_false, seqJ_n, seqJ_r, seqJ_e, headK_c, asB_bool, asI_int, asS_s, asN_int, extrK_0, extrK_1, extrK_2, Bool.not_true, Bool.not_false, Nat.beq_refl]
  by_cases k0 : k = 0
  · subst k0
    obtain ⟨y, m, e, ks, o⟩ := mapLevel_is hw hm (k := 0) h0 (by omega) (by omega)
    exact ⟨y, m, ws, e, ks, o.row, by omega, fun _ => rfl, fun h => by omega, fun h => absurd rfl h⟩
  · by_cases k1 : k = 1 ∧ 64 < n
    · obtain ⟨rfl, hn64⟩ := k1
      obtain ⟨vs, hvs⟩ : ∃ vs, wss[1]? = some vs := ⟨_, List.getElem?_eq_getElem (by omega)⟩
      obtain ⟨hvl, hSm⟩ := hl3 0 ws vs h0 hvs
      obtain ⟨y, m, e, ks, o⟩ := mapLevel_is hw hm (k := 1) hvs (by omega) (by omega)
      obtain ⟨sid, r, L, p, hx, hr, hc0, hc1, hL, hi, hld, ⟨e', ho⟩, hok⟩ := hm.level hvs
      exact ⟨y, m, vs, e, ks, o.row, by omega, fun h => absurd h (by omega), fun _ _ => ⟨hSm, hok, hvl⟩, fun _ h => absurd hn64 (h rfl)⟩
    · refine ⟨.nilSlice, μ, [], out (by omega), Keep.refl hw, .inl ⟨rfl, rfl⟩, by simp, fun h => absurd h k0, fun h1 h2 => absurd ⟨h1, h2⟩ k1, fun _ _ => rfl⟩
/-- The program's map and the document's say the same. -/
structure Al (N : Nat) (μ : AMem) (p : Nat) (c : SV) (n : Nat) (rs : List SV) (ws : List Int) (bs : List Bool) : Prop where
  m : Mw N μ (.ptr p 0 0) n rs ws
  b : OwnB N μ c bs
  len : bs.length = n
  one : 1 ≤ n ∧ n ≤ 4096
  all : ∀ j, j < n → U ws j = Vb bs j
  tail : ∀ j, n ≤ j → j < 64 * ws.length → U ws j = true
theorem Al.same {N : Nat} {μ μ' : AMem} {p : Nat} {c : SV} {n : Nat} {rs : List SV} {ws : List Int} {bs : List Bool} (h : Al N μ p c n rs ws bs) (hs : Same μ μ') : Al N μ' p c n rs ws bs :=
  ⟨h.m.same hs, h.b.same hs, h.len, h.one, h.all, h.tail⟩
theorem level_same {N : Nat} {μ : AMem} (hw : WF μ) {p : Nat} {c : SV} {n : Nat} {rs : List SV} {ws : List Int} {bs : List Bool} (h : Al N μ p c n rs ws bs) (k : Int) :
    ∃ y z m1 m2, bitmap_Map_Level [.s (.ptr p 0 0), .s (.int .i64 k)] μ = some (.s y, m1) ∧ overdubref10_Map_Level [.s c, .s (.int .i64 k)] m1 = some (.s z, m2) ∧ overdubkeep_Same_uint64 [.s y, .s z] m2 = some (.s (.bool true), m2) ∧ Same μ m2 := by
  have hone := h.one
  have hlen := h.len
  obtain ⟨hwl, hwo⟩ := h.m.words
  obtain ⟨y, m1, l, e1, k1, r1, hl1, A1, B1, C1⟩ := mapLevel_any hw h.m h.one k
  obtain ⟨z, m2, l2, e2, k2, r2, hl2, A2, B2, C2⟩ := refLevel_is k1.wf (h.b.same k1) (by omega) k
  have eqw : ∀ zs, Wds bs zs → zs.length = (bs.length + 63) / 64 → ws = zs := fun zs hW hl => words_ext hwo hW.1 (by omega) fun j hj => by
    rw [hW.2 j (by omega)]
    by_cases hjn : j < n
    · rw [if_pos (by omega)]; exact h.all j hjn
    · rw [if_neg (by omega)]; exact h.tail j (by omega) hj
  have hll : l = l2 := by
    by_cases k0 : k = 0
    · obtain ⟨hW, hl⟩ := A2 k0
      rw [A1 k0]; exact eqw l2 hW hl
    · by_cases k1' : k = 1 ∧ 64 < n
      · obtain ⟨hSm, hok, hvl⟩ := B1 k1'.1 k1'.2
        obtain ⟨zs, hW, hzl, hW2, hl⟩ := B2 k1'.1 (by omega)
        obtain rfl := eqw zs hW hzl
        refine words_ext hok hW2.1 (by omega) fun j hj => ?_
        rw [hW2.2 j (by omega), full_len]
        by_cases hjw : j < ws.length
        · rw [if_pos hjw, hSm.1 j hjw]
          have e : (fullB ws).getD j false = (ws.getD j 0 == 18446744073709551615) := by
            unfold fullB
            rw [getD_lt hjw]
            simp [List.getD_eq_getElem?_getD, hjw]
          exact e.symm
        · rw [if_neg hjw, hSm.2 j (by omega) hj]
      · rw [C1 k0 (fun h1 h2 => k1' ⟨h1, h2⟩), C2 k0 (fun h1 h2 => k1' ⟨h1, by omega⟩)]
  have e3 := sameU_is (r1.same k2) r2 (by omega)
  rw [decide_eq_true hll] at e3
  exact ⟨y, z, m1, m2, e1, e2, e3, k1.trans k2⟩
end Go.Proofs.Ytepdjffnjfdklaa
/- What Same of bytes comes to. -/
namespace Go.Proofs.Ytepdjffnjfdklaa
open Go Go.Proofs.Ytepdjffnjfdklaa.E
set_option linter.unusedVariables false
set_option linter.unusedSimpArgs false
theorem sameB_loop {μ : AMem} {x y : SV} {zs ws : List Int} (hx : IsRow μ .u8 x zs) (hy : IsRow μ .u8 y ws) (hl : zs.length = ws.length) (hb : zs.length ≤ 4611686018427387904) :
    ∀ k i : Nat, i + k = zs.length → overdubkeep_Same_byte_L1 [.s x, .s y] [.s (.int .i64 i)] μ = if zs.drop i = ws.drop i then some (.exit 0, [], μ) else some (.ret, [.s (.bool false)], μ)
  | 0, i, h => by
    have h1 : ¬ (i : Int) < (zs.length : Int) := by omega
    rw [overdubkeep_Same_byte_L1_eq, overdubkeep_Same_byte_L1_B_eq, hx.len]
    rw [List.drop_eq_nil_of_le (by omega), List.drop_eq_nil_of_le (by omega), if_pos rfl]
    simp only [h1, Option.bind_some, decide_true, decide_false, cond_true, cond_false, seqJ_n, seqJ_r, seqJ_e, headK_c, asB_bool, asI_int, asS_s, asN_int, Bool.not_true, Bool.not_false, Nat.beq_refl]
  | k + 1, i, h => by
    have ih := sameB_loop hx hy hl hb k (i + 1) (by omega)
    have h1 : (i : Int) < (zs.length : Int) := by omega
    have e1 : IntKind.wrap .i64 ((i : Int) + 1) = ((i + 1 : Nat) : Int) := by rw [wr (by omega)]; omega
    have e3 : (((i : Nat) : Int)).toNat = i := by omega
    have hi : i < zs.length := by omega
    have hi2 : i < ws.length := by omega
    rw [overdubkeep_Same_byte_L1_eq, overdubkeep_Same_byte_L1_B_eq, hx.len]
    simp only [h1, Option.bind_some, decide_true, decide_false, cond_true, cond_false, seqJ_n, seqJ_r, seqJ_e, headK_c, asB_bool, asI_int, asS_s, asN_int, Bool.not_true, Bool.not_false, Nat.beq_refl]
    rw [hx.ind (by omega) h1, hx.load (by omega) h1, asI_int, hy.ind (by omega) (by omega), hy.load (by omega) (by omega), asI_int, e3]
    rw [List.drop_eq_getElem_cons hi, List.drop_eq_getElem_cons hi2]
    have g1 : zs.getD i 0 = zs[i] := by rw [List.getD_eq_getElem?_getD, List.getElem?_eq_getElem hi]; rfl
    have g2 : ws.getD i 0 = ws[i] := by rw [List.getD_eq_getElem?_getD, List.getElem?_eq_getElem hi2]; rfl
    rw [g1, g2]
    by_cases he : zs[i] = ws[i]
    · have hb1 : (zs[i] != ws[i]) = false := by simp [he]
      have hb2 : (ws[i] != ws[i]) = false := by simp
      simp only [hb2, e1, he, List.cons.injEq, true_and, Option.bind_some, decide_true, decide_false, cond_true, cond_false, seqJ_n, seqJ_r, seqJ_e, headK_c, asB_bool, asI_int, asS_s, asN_int, Bool.not_true, Bool.not_false, Nat.beq_refl]
      exact ih
    · have hb1 : (zs[i] != ws[i]) = true := by simp [he]
      simp only [hb1, he, List.cons.injEq, false_and, if_false, Option.bind_some, decide_true, decide_false, cond_true, cond_false, seqJ_n, seqJ_r, seqJ_e, headK_c, asB_bool, asI_int, asS_s, asN_int, Bool.not_true, Bool.not_false, Nat.beq_refl]
theorem sameB_is {μ : AMem} {x y : SV} {zs ws : List Int} (hx : IsRow μ .u8 x zs) (hy : IsRow μ .u8 y ws) (hb : zs.length ≤ 4611686018427387904) :
    overdubkeep_Same_byte [.s x, .s y] μ = some (.s (.bool (decide (zs = ws))), μ) := by
  rw [overdubkeep_Same_byte_eq, hx.len, hy.len]
  by_cases hl : zs.length = ws.length
  · have h1 : ((zs.length : Int) != (ws.length : Int)) = false := by simp [hl]
    have := sameB_loop hx hy hl hb _ 0 (Nat.zero_add _)
    simp only [h1, Option.bind_some, decide_true, decide_false, cond_true, cond_false, seqJ_n, seqJ_r, seqJ_e, headK_c, asB_bool, asI_int, asS_s, asN_int, Bool.not_true, Bool.not_false, Nat.beq_refl]
    rw [show overdubkeep_Same_byte_L1 [.s x, .s y] [.s (.int .i64 0)] μ = _ from this]
    simp only [List.drop_zero]
    by_cases he : zs = ws
    · simp only [he, if_true, Option.bind_some, decide_true, decide_false, cond_true, cond_false, seqJ_n, seqJ_r, seqJ_e, headK_c, asB_bool, asI_int, asS_s, asN_int, Bool.not_true, Bool.not_false, Nat.beq_refl]
    · simp only [he, if_false, Option.bind_some, decide_true, decide_false, cond_true, cond_false, seqJ_n, seqJ_r, seqJ_e, headK_c, asB_bool, asI_int, asS_s, asN_int, Bool.not_true, Bool.not_false, Nat.beq_refl]
  · have h1 : ((zs.length : Int) != (ws.length : Int)) = true := by simp; omega
    have he : ¬ zs = ws := fun h => hl (by rw [h])
    simp only [h1, he, Option.bind_some, decide_true, decide_false, cond_true, cond_false, seqJ_n, seqJ_r, seqJ_e, headK_c, asB_bool, asI_int, asS_s, asN_int, Bool.not_true, Bool.not_false, Nat.beq_refl]
end Go.Proofs.Ytepdjffnjfdklaa
/- Two maps, the program's and the document's, answer alike. -/
namespace Go.Proofs.Ytepdjffnjfdklaa
open Go Go.Proofs.Ytepdjffnjfdklaa.E
set_option linter.unusedVariables false
set_option linter.unusedSimpArgs false
theorem same_levels {N p n : Nat} {c : SV} {rs : List SV} {ws : List Int} {bs : List Bool} {s2 s3 : Int} :
    ∀ (k : Nat) (i : Int) (μ : AMem), i + k = 4 → -1 ≤ i → WF μ → Al N μ p c n rs ws bs → ∃ μ', overdublaw11_same_L1 [.s (.ptr p 0 0), .s c, .s (.int .i64 s2), .s (.int .i64 s3)] [.s (.int .i64 i)] μ = some (.exit 0, [.s (.ptr p 0 0), .s c, .s (.int .i64 s2), .s (.int .i64 s3)], μ') ∧ Same μ μ'
  | 0, i, μ, hk, hi, hw, h => by
    refine ⟨μ, ?_, Keep.refl hw⟩
    rw [overdublaw11_same_L1_eq, overdublaw11_same_L1_B_eq]
    simp -implicitDefEqProofs only [lt_f (show (4 : Int) ≤ i by omega), Option.bind_some, decide_true, decide_false, cond_true, cond_false, seqJ_n, seqJ_r, seqJ_e, headK_c, asB_bool, asI_int, asS_s, asN_int, extrK_0, extrK_1, extrK_2, Bool.not_true, Bool.not_false, Nat.beq_refl]
  | k + 1, i, μ, hk, hi, hw, h => by
    obtain ⟨y, z, m1, m2, e1, e2, e3, k2⟩ := level_same hw h i
    obtain ⟨m3, q1, q2⟩ := same_levels (s2 := s2) (s3 := s3) k (i + 1) m2 (by omega) (by omega) k2.wf (h.same k2)
    have ei : IntKind.wrap .i64 (i + 1) = i + 1 := wr (by omega)
    refine ⟨m3, ?_, k2.trans q2⟩
    rw [overdublaw11_same_L1_eq, overdublaw11_same_L1_B_eq]
    simp -implicitDefEqProofs only [lt_t (show i < 4 by omega), e1, e2, e3, ei, Option.bind_some, decide_true, decide_false, cond_true, cond_false, seqJ_n, seqJ_r, seqJ_e, headK_c, asB_bool, asI_int, asS_s, asN_int, extrK_0, extrK_1, extrK_2, Bool.not_true, Bool.not_false, Nat.beq_refl]
    exact q1
theorem same_used {N p n : Nat} {c : SV} {rs : List SV} {ws : List Int} {bs : List Bool} {s2 s3 : Int} {μ : AMem} (h : Al N μ p c n rs ws bs) :
    ∀ (k : Nat) (i : Int), i + k = n + 1 → -1 ≤ i → overdublaw11_same_L2 [.s (.ptr p 0 0), .s c, .s (.int .i64 s2), .s (.int .i64 s3)] [.s (.int .i64 i)] μ = some (.exit 2, [.s (.ptr p 0 0), .s c, .s (.int .i64 s2), .s (.int .i64 s3)], μ)
  | 0, i, hk, hi => by
    have hlen := h.len
    rw [overdublaw11_same_L2_eq, overdublaw11_same_L2_B_eq, h.b.len]
    simp -implicitDefEqProofs only [le_f (show (bs.length : Int) < i by omega), Option.bind_some, decide_true, decide_false, cond_true, cond_false, seqJ_n, seqJ_r, seqJ_e, headK_c, asB_bool, asI_int, asS_s, asN_int, extrK_0, extrK_1, extrK_2, Bool.not_true, Bool.not_false, Nat.beq_refl]
  | k + 1, i, hk, hi => by
    have hlen := h.len
    have hone := h.one
    have ih := same_used (s2 := s2) (s3 := s3) h k (i + 1) (by omega) (by omega)
    have ei : IntKind.wrap .i64 (i + 1) = i + 1 := wr (by omega)
    have hus := used_is h.m i
    rw [overdublaw11_same_L2_eq, overdublaw11_same_L2_B_eq, h.b.len]
    by_cases h0 : i < 0
    · have hu : usedZ n ws i = true := by unfold usedZ; rw [decide_eq_false (p := 0 ≤ i) (by omega)]; rfl
      rw [hu] at hus
      simp -implicitDefEqProofs only [le_t (show i ≤ (bs.length : Int) by omega), hus, lt_t h0, BEq.rfl, ei, Option.bind_some, decide_true, decide_false, cond_true, cond_false, seqJ_n, seqJ_r, seqJ_e, headK_c, asB_bool, asI_int, asS_s, asN_int, extrK_0, extrK_1, extrK_2, Bool.not_true, Bool.not_false, Nat.beq_refl]
      exact ih
    · by_cases h1 : i < n
      · obtain ⟨j, rfl⟩ : ∃ j : Nat, i = j := ⟨i.toNat, by omega⟩
        have hu : usedZ n ws (j : Int) = bs.getD j false := by
          rw [usedZ_in (by omega), h.all j (by omega)]; rfl
        rw [hu] at hus
        have g1 := fun {R : Type} (K : AV → Option R) => h.b.ind (i := (j : Int)) (by omega) (by omega) K
        have l1 := fun {R : Type} (K : AV → Option R) => h.b.load (i := j) (by omega) K
        have hbb : (bs.getD j false == bs.getD j false) = true := by simp
        simp -implicitDefEqProofs only [le_t (show (j : Int) ≤ (bs.length : Int) by omega), hus, lt_f (show (0 : Int) ≤ (j : Int) by omega), ge_f (show (j : Int) < (bs.length : Int) by omega), g1, l1, hbb, ei, Option.bind_some, decide_true, decide_false, cond_true, cond_false, seqJ_n, seqJ_r, seqJ_e, headK_c, asB_bool, asI_int, asS_s, asN_int, extrK_0, extrK_1, extrK_2, Bool.not_true, Bool.not_false, Nat.beq_refl]
        exact ih
      · have hu : usedZ n ws i = true := by unfold usedZ; rw [decide_eq_false (p := i < (n : Int)) (by omega), Bool.and_false]; rfl
        rw [hu] at hus
        simp -implicitDefEqProofs only [le_t (show i ≤ (bs.length : Int) by omega), hus, lt_f (show (0 : Int) ≤ i by omega), ge_t (show (bs.length : Int) ≤ i by omega), BEq.rfl, ei, Option.bind_some, decide_true, decide_false, cond_true, cond_false, seqJ_n, seqJ_r, seqJ_e, headK_c, asB_bool, asI_int, asS_s, asN_int, extrK_0, extrK_1, extrK_2, Bool.not_true, Bool.not_false, Nat.beq_refl]
        exact ih
theorem same_map {N p n : Nat} {c : SV} {rs : List SV} {ws : List Int} {bs : List Bool} {μ : AMem} (hw : WF μ) (h : Al N μ p c n rs ws bs) (s2 : Int) {s3 : Nat} (h3 : s3 ≤ 5000) :
    ∃ μ', overdublaw11_same [.s (.ptr p 0 0), .s c, .s (.int .i64 s2), .s (.int .i64 (s3 : Int))] μ = some (.s (.bool true), μ') ∧ Same μ μ' := by
  have hone := h.one
  have hlen := h.len
  obtain ⟨m1, e1, k1⟩ := same_levels (s2 := s2) (s3 := (s3 : Int)) 5 (-1) μ (by omega) (by omega) hw h
  have h1 := h.same k1
  have e2 := same_used (s2 := s2) (s3 := (s3 : Int)) h1 (n + 2) (-1) (by omega) (by omega)
  have e4 := mapLen_is h1.m
  have e5 := mapCount_is h1.m (by omega)
  have e6 := refCount_is h1.b (by omega)
  rw [hlen, ← cntF_congr (V := U ws) (W := Vb bs) n h.all] at e6
  obtain ⟨f1, e7, F1⟩ := mapFirst_any h1.m (by omega) s2
  obtain ⟨f2, e8, F2⟩ := refFirst_is h1.b (by omega) s2
  rw [hlen] at F2
  obtain rfl := (F1.congr h.all).unique F2
  obtain ⟨r1, e9, R0, R1⟩ := mapRun_any h1.m (by omega) h3
  obtain ⟨r2, e10, S0, S1⟩ := refRun_is h1.b (by omega) h3
  have hr : r1 = r2 := by
    by_cases h0 : s3 = 0
    · rw [R0 h0, S0 h0]
    · have hS := S1 (by omega)
      rw [hlen] at hS
      exact ((R1 (by omega)).congr h.all).unique hS
  subst hr
  obtain ⟨y, m2, e11, k2, o2⟩ := mapBytes_is k1.wf h1.m (by omega)
  obtain ⟨z, m3, e12, k3, o3⟩ := refMapBytes_is k2.wf (h1.b.same k2) (by omega)
  rw [hlen, ← bf_congr (V := U ws) (W := Vb bs) _ n h.all] at o3
  have hbl := bf_len (U ws) (List.replicate ((n + 7) / 8) 0) n
  rw [List.length_replicate] at hbl
  have e13 := sameB_is (o2.row.same k3) o3.row (by omega)
  rw [decide_eq_true rfl] at e13
  refine ⟨m3, ?_, k1.trans (k2.trans k3)⟩
  have hbl' : lenS (.s c) = some n := by rw [h1.b.len, hlen]
  rw [overdublaw11_same_eq]
  simp -implicitDefEqProofs only [e1, e2, e4, hbl', BEq.rfl, e5, e6, e7, e8, e9, e10, e11, e12, e13, Option.bind_some, decide_true, decide_false, cond_true, cond_false, seqJ_n, seqJ_r, seqJ_e, headK_c, asB_bool, asI_int, asS_s, asN_int, extrK_0, extrK_1, extrK_2, Bool.not_true, Bool.not_false, Nat.beq_refl]
end Go.Proofs.Ytepdjffnjfdklaa
/- Rows of records of numbers. -/
namespace Go.Proofs.Ytepdjffnjfdklaa
open Go Go.Proofs.Ytepdjffnjfdklaa.E
set_option linter.unusedVariables false
set_option linter.unusedSimpArgs false
/-- x is a row of len records of m numbers, all of them zs. -/
def IsRecs (μ : AMem) (k : IntKind) (m : Nat) (x : SV) (zs : List Int) (len : Nat) : Prop :=
  zs.length = len * m ∧ ((x = .nilSlice ∧ len = 0) ∨ ∃ id ver off o, x = .slice id ver off len ∧ μ.obj id = some o ∧ o.ver = ver ∧ ∀ (i : Nat) n, zs[i]? = some n → o.cells[off + i]? = some (.int k n))
def plcR (m : Nat) (x : SV) (i : Int) : AV :=
  match x with
  | .slice id ver off _ => .s (.ptr id ver (off + i.toNat * m))
  | _ => .unk
def plcF (m : Nat) (x : SV) (i : Int) (f : Nat) : AV :=
  match x with
  | .slice id ver off _ => .s (.ptr id ver (off + i.toNat * m + f))
  | _ => .unk
theorem IsRecs.lenS {μ : AMem} {k : IntKind} {m : Nat} {x : SV} {zs : List Int} {len : Nat} (h : IsRecs μ k m x zs len) : lenS (.s x) = some len := by
  rcases h with ⟨_, ⟨rfl, rfl⟩ | ⟨id, ver, off, o, rfl, _⟩⟩ <;> rfl
theorem IsRecs.ind {μ : AMem} {k : IntKind} {m : Nat} {x : SV} {zs : List Int} {len : Nat} (h : IsRecs μ k m x zs len) {i : Int} (h0 : 0 ≤ i) (h1 : i < len) {R : Type} (K : AV → Option R) : indS m (.s x) i K = K (plcR m x i) := by
  rcases h with ⟨_, ⟨rfl, rfl⟩ | ⟨id, ver, off, o, rfl, _⟩⟩
  · omega
  · simp [indS, plcR, h0, h1]
theorem IsRecs.add {μ : AMem} {k : IntKind} {m : Nat} {x : SV} {zs : List Int} {len : Nat} (h : IsRecs μ k m x zs len) {i : Int} (h0 : 0 ≤ i) (h1 : i < len) (f : Nat) {R : Type} (K : AV → Option R) : ptrAdd f (plcR m x i) K = K (plcF m x i f) := by
  rcases h with ⟨_, ⟨rfl, rfl⟩ | ⟨id, ver, off, o, rfl, _⟩⟩
  · omega
  · rfl
theorem IsRecs.load {μ : AMem} {k : IntKind} {m : Nat} {x : SV} {zs : List Int} {len : Nat} (h : IsRecs μ k m x zs len) {i : Nat} (h1 : i < len) {f : Nat} (hf : f < m) {R : Type} (K : AV → Option R) : loadAt μ (plcF m x (i : Int) f) K = K (.s (.int k (zs.getD (i * m + f) 0))) := by
  obtain ⟨hl, ⟨rfl, rfl⟩ | ⟨id, ver, off, o, rfl, ho, hv, hc⟩⟩ := h
  · omega
  · have hlt : i * m + f < zs.length := by
      rw [hl]
      calc i * m + f < i * m + m := by omega
        _ = (i + 1) * m := by rw [Nat.add_mul]; simp
        _ ≤ len * m := Nat.mul_le_mul_right _ (by omega)
    have hg := hc (i * m + f) _ (List.getElem?_eq_getElem hlt)
    have e : off + ((i : Nat) : Int).toNat * m + f = off + (i * m + f) := by rw [nat_toNat, Nat.add_assoc]
    simp only [plcF, loadAt, AMem.cell, ho, Option.bind_some, hv, if_true, e, hg]
    rw [List.getD_eq_getElem?_getD, List.getElem?_eq_getElem hlt]; rfl
theorem IsRecs.same {μ μ' : AMem} {k : IntKind} {m : Nat} {x : SV} {zs : List Int} {len : Nat} (h : IsRecs μ k m x zs len) (hs : Same μ μ') : IsRecs μ' k m x zs len := by
  obtain ⟨hl, h0 | ⟨id, ver, off, o, rfl, ho, r⟩⟩ := h
  · exact ⟨hl, .inl h0⟩
  · exact ⟨hl, .inr ⟨id, ver, off, o, rfl, hs.old id o ho fun h => h, r⟩⟩
theorem IsRecs.wf {μ : AMem} {k : IntKind} {m : Nat} {x : SV} {zs : List Int} {len : Nat} (h : IsRecs μ k m x zs len) (hz : ∀ n ∈ zs, (Lit.int k n).wf = true) {i : Nat} (h1 : i < len) {f : Nat} (hf : f < m) : (Lit.int k (zs.getD (i * m + f) 0)).wf = true := by
  have hlt : i * m + f < zs.length := by
    rw [h.1]
    calc i * m + f < i * m + m := by omega
      _ = (i + 1) * m := by rw [Nat.add_mul]; simp
      _ ≤ len * m := Nat.mul_le_mul_right _ (by omega)
  rw [getD_lt hlt]
  exact hz _ (List.getElem_mem hlt)
theorem IsRecs.arg {k : IntKind} {m : Nat} {zs : List Int} {len : Nat} {l : List Arg} {j : Nat} {a : Arg} (h : Arg.isRecs k zs len a) (hq : zs.length = len * m) (hj : l[j]? = some a) : ∃ x, a.val j = .s x ∧ IsRecs (argMem l) k m x zs len := by
  cases a with
  | nil =>
    obtain ⟨rfl, rfl⟩ := h
    exact ⟨.nilSlice, rfl, hq, .inl ⟨rfl, rfl⟩⟩
  | rs k' zs' len' =>
    obtain ⟨rfl, rfl, rfl⟩ := h
    exact ⟨_, rfl, hq, .inr ⟨j, 0, 0, rowA (zs'.map (.int k')), rfl, by simp [argMem, hj, Arg.obj], rfl, fun i n hi => by rw [Nat.zero_add]; simp [rowA, hi]⟩⟩
  | _ => exact h.elim
end Go.Proofs.Ytepdjffnjfdklaa
/- A record that is copied into a box. -/
namespace Go.Proofs.Ytepdjffnjfdklaa
open Go Go.Proofs.Ytepdjffnjfdklaa.E
set_option linter.unusedVariables false
set_option linter.unusedSimpArgs false
theorem set_set (μ : AMem) (i : Nat) (o o' : AObj) : (μ.set i o).set i o' = μ.set i o' := by
  unfold AMem.set
  congr 1
  funext j
  dsimp only
  split <;> rfl
theorem box3 {R : Type} (M : AMem) (i T : Nat) (q : Option Nat) (z1 z2 z3 a b c : SV) (K : AMem → Option R) :
    storeAt 3 (M.set i (rowObj [z1, z2, z3] 3 T q)) (.s (.ptr i 0 0)) (.agg [a, b, c]) K = K (M.set i (rowObj [a, b, c] 3 T q)) := by
  simp only [storeAt, AV.cells, List.length_cons, List.length_nil, AMem.store, set_self, Option.bind_some, rowObj, if_true, true_and, Nat.zero_add]
  rw [if_pos (Nat.le_refl _), Option.bind_some, set_set]
  rfl
theorem box3_0 (M : AMem) (i T : Nat) (q : Option Nat) (a b c : SV) : (M.set i (rowObj [a, b, c] 3 T q)).cell i 0 (0 + 0) = some a := by
  simp [AMem.cell, rowObj]
theorem box3_1 (M : AMem) (i T : Nat) (q : Option Nat) (a b c : SV) : (M.set i (rowObj [a, b, c] 3 T q)).cell i 0 (0 + 1) = some b := by
  simp [AMem.cell, rowObj]
theorem box3_2 (M : AMem) (i T : Nat) (q : Option Nat) (a b c : SV) : (M.set i (rowObj [a, b, c] 3 T q)).cell i 0 (0 + 2) = some c := by
  simp [AMem.cell, rowObj]
theorem loadN3 {μ : AMem} {id ver off : Nat} {a b c : SV} (h0 : μ.cell id ver off = some a) (h1 : μ.cell id ver (off + 1) = some b) (h2 : μ.cell id ver (off + 2) = some c) : μ.loadN id ver off 3 = some [a, b, c] := by
  simp only [AMem.loadN, h0, h1, h2, Option.bind_some, Option.map_some]
/-- A record of three numbers. -/
theorem rec3 {μ : AMem} {k : IntKind} {x : SV} {zs : List Int} {len : Nat} (h : IsRecs μ k 3 x zs len) {i : Nat} (h1 : i < len) {R : Type} (K : AV → Option R) :
    loadsAt μ 3 (plcR 3 x (i : Int)) K = K (.agg [.int k (zs.getD (i * 3 + 0) 0), .int k (zs.getD (i * 3 + 1) 0), .int k (zs.getD (i * 3 + 2) 0)]) := by
  obtain ⟨hl, ⟨rfl, rfl⟩ | ⟨id, ver, off, o, rfl, ho, hv, hc⟩⟩ := h
  · omega
  · have hg : ∀ f, f < 3 → μ.cell id ver (off + i * 3 + f) = some (.int k (zs.getD (i * 3 + f) 0)) := fun f hf => by
      have hlt : i * 3 + f < zs.length := by omega
      have := hc _ _ (List.getElem?_eq_getElem hlt)
      simp only [AMem.cell, ho, Option.bind_some, hv, if_true, Nat.add_assoc, this, getD_lt hlt]
    have e0 := hg 0 (by omega)
    have e1 := hg 1 (by omega)
    have e2 := hg 2 (by omega)
    rw [Nat.add_zero] at e0
    simp only [loadsAt, plcR, nat_toNat, loadN3 e0 e1 e2, Option.bind_some]
end Go.Proofs.Ytepdjffnjfdklaa
/- What Within comes to. -/
namespace Go.Proofs.Ytepdjffnjfdklaa
open Go Go.Proofs.Ytepdjffnjfdklaa.E
set_option linter.unusedVariables false
set_option linter.unusedSimpArgs false
theorem within_is (p n : Int) (hp : -9223372036854775808 ≤ p ∧ p ≤ 9223372036854775807) (hn : 1 ≤ n) (hn2 : n ≤ 4611686018427387904) (μ : AMem) :
    overdubkeep_Within [.s (.int .i64 p), .s (.int .i64 n)] μ = some (.s (.int .i64 (p % n)), μ) := by
  rw [overdubkeep_Within_eq]
  have h1 : ¬ n < 1 := by omega
  have h2 : ¬ n = 0 := by omega
  have hlt := Int.emod_lt_of_pos p (show 0 < n by omega)
  have hge := Int.emod_nonneg p h2
  have ht : Int.tmod p n = if 0 ≤ p ∨ p % n = 0 then p % n else p % n - n := by
    rw [Int.tmod_eq_emod]
    by_cases h : 0 ≤ p
    · simp [h]
    · by_cases h3 : p % n = 0
      · have : n ∣ p := Int.dvd_of_emod_eq_zero h3
        simp [h3, this]
      · have : ¬ n ∣ p := fun hd => h3 (Int.emod_eq_zero_of_dvd hd)
        simp [h, this, h3]; omega
  rw [ht]
  by_cases h : 0 ≤ p ∨ p % n = 0
  · have : ¬ p % n < 0 := by omega
    simp [h1, h2, h, this]
  · have h4 : p % n - n < 0 := by omega
    simp only [h, if_false, h4, h1, h2, decide_true, decide_false, cond_true, cond_false, seqJ_n, headK_c, asI_int]
    rw [wr (by omega)]
    congr 4; omega
end Go.Proofs.Ytepdjffnjfdklaa
/- A play: the program's map and the document's go alike. -/
namespace Go.Proofs.Ytepdjffnjfdklaa
open Go Go.Proofs.Ytepdjffnjfdklaa.E
set_option linter.unusedVariables false
set_option linter.unusedSimpArgs false
/-- The document's row is apart from all of the program's map. -/
def Ap (m : AMem) (p : Nat) (c : SV) (rs : List SV) : Prop := (∃ L, m.cell p 0 (0 + 1) = some L ∧ Apart L c) ∧ ¬ isId c p ∧ ∀ j, feet rs j → ¬ isId c j
def Ht (rs : List SV) (c : SV) : Nat → Prop := fun j => feet rs j ∨ isId c j
theorem Ap.move {m m' : AMem} {p : Nat} {c : SV} {rs : List SV} (h : Ap m p c rs) (ho : m'.obj p = m.obj p) : Ap m' p c rs := by
  obtain ⟨⟨L, h1, h2⟩, h3, h4⟩ := h
  refine ⟨⟨L, ?_, h2⟩, h3, h4⟩
  simp only [AMem.cell, ho] at h1 ⊢
  exact h1
theorem Mw.box {N : Nat} {m : AMem} {p n : Nat} {rs : List SV} {ws : List Int} (h : Mw N m (.ptr p 0 0) n rs ws) : (∃ o, m.obj p = some o) ∧ ¬ feet rs p := by
  obtain ⟨wss, hm, _, _⟩ := h.ex
  obtain ⟨sid, so, lid, lo, ver, hx, hN, hso, hsv, hsc, hN2, hlo, hlv, hlc, hl, hr, hap⟩ := hm
  cases hx
  refine ⟨⟨so, hso⟩, fun ⟨r, hrm, hi⟩ => ?_⟩
  obtain ⟨k, hk, rfl⟩ := List.mem_iff_getElem.mp hrm
  exact (hr k _ _ (List.getElem?_eq_getElem hk) (List.getElem?_eq_getElem (by omega))).2.2.1 hi
theorem Ap.same {N : Nat} {m m' : AMem} {p n : Nat} {c : SV} {rs : List SV} {ws : List Int} (h : Ap m p c rs) (hm : Mw N m (.ptr p 0 0) n rs ws) (hs : Same m m') : Ap m' p c rs := by
  obtain ⟨o, ho⟩ := hm.box.1
  exact h.move (by rw [ho, hs.old _ _ ho fun h => h])
theorem Mw.offC {N : Nat} {m m' : AMem} {p n : Nat} {c : SV} {rs : List SV} {ws : List Int} (h : Mw N m (.ptr p 0 0) n rs ws) (ha : Ap m p c rs) (hk : Keep (isId c) m m') : Mw N m' (.ptr p 0 0) n rs ws := by
  obtain ⟨wss, hm, hlens, h0⟩ := h.ex
  obtain ⟨sid, so, lid, lo, ver, hx, hN, hso, hsv, hsc, hN2, hlo, hlv, hlc, hl, hr, hap⟩ := hm
  obtain ⟨⟨L, hL, hLc⟩, hpc, hfc⟩ := ha
  cases hx
  have hLe : L = .slice lid ver 0 rs.length := by
    simp only [AMem.cell, hso, Option.bind_some, hsv, if_true, hsc] at hL
    exact (Option.some.inj hL).symm
  have hlc' : ¬ isId c lid := fun h => hLc lid (by rw [hLe]; rfl) h
  refine ⟨wss, ⟨p, so, lid, lo, ver, rfl, hN, hk.old _ _ hso hpc, hsv, hsc, hN2, hk.old _ _ hlo hlc', hlv, hlc, hl, fun j r' ws' hj hws => ?_, hap⟩, hlens, h0⟩
  obtain ⟨⟨e, h1⟩, h2⟩ := hr j r' ws' hj hws
  exact ⟨⟨e, ownKeep h1 hk fun i hi hri => hfc i ⟨r', List.mem_of_getElem? hj, hri⟩ hi⟩, h2⟩
theorem Vb_set {bs : List Bool} {j : Nat} (hj : j < bs.length) (v : Bool) (l : Nat) : Vb (bs.set j v) l = if l = j then v else Vb bs l := by
  unfold Vb
  rw [List.getD_eq_getElem?_getD, List.getElem?_set]
  by_cases h : j = l
  · subst h; rw [if_pos rfl, if_pos hj, if_pos rfl]; rfl
  · rw [if_neg h, if_neg (fun e => h e.symm), List.getD_eq_getElem?_getD]
/-- What is set in the program's map is written in the document's. -/
theorem after_set {N : Nat} {m m1 : AMem} {p n : Nat} {c : SV} {rs : List SV} {ws : List Int} {bs : List Bool} (h : Al N m p c n rs ws bs) (ha : Ap m p c rs) {j : Nat} (hj : j < n) (v : Bool) (k1 : Keep (feet rs) m m1) (h1 : Mw N m1 (.ptr p 0 0) n rs (setWd ws j v)) :
    ∃ m2, (∀ {R : Type} (K : AMem → Option R), storeAt 1 m1 (plc c (j : Int)) (.s (.bool v)) K = K m2) ∧ Keep (Ht rs c) m m2 ∧ Al N m2 p c n rs (setWd ws j v) (bs.set j v) ∧ Ap m2 p c rs := by
  have hlen := h.len
  obtain ⟨⟨o, ho⟩, hpf⟩ := h.m.box
  have ho1 := k1.old _ _ ho hpf
  have ha1 : Ap m1 p c rs := ha.move (by rw [ho, ho1])
  have hb1 : OwnB N m1 c bs := h.b.keep k1 fun j hj hc => ha.2.2 j hj hc
  obtain ⟨m2, s1, s2, s3⟩ := hb1.store k1.wf (i := j) (by omega) v
  have ho2 := s2.old _ _ ho1 ha.2.1
  refine ⟨m2, s1, (k1.weak0 fun _ h => .inl h).trans (s2.weak0 fun _ h => .inr h), ⟨h1.offC ha1 s2, s3, by rw [List.length_set]; exact hlen, h.one, fun l hl => ?_, fun l hl hl2 => ?_⟩, ha1.move (by rw [ho1, ho2])⟩
  · rw [U_setW h.m hj v l, Vb_set (by omega) v l, h.all l hl]
  · rw [setWd_len] at hl2
    rw [U_setW h.m hj v l, if_neg (by omega)]
    exact h.tail l hl hl2
theorem set_one {N : Nat} {m : AMem} (hw : WF m) {p n : Nat} {c : SV} {rs : List SV} {ws : List Int} {bs : List Bool} (h : Al N m p c n rs ws bs) (ha : Ap m p c rs) (i : Int) (v : Bool) :
    ((¬ (0 ≤ i ∧ i < n) ∨ ∃ j : Nat, i = j ∧ j < n ∧ bs.getD j false = v) → bitmap_Map_Set [.s (.ptr p 0 0), .s (.int .i64 i), .s (.bool v)] m = some (.s (.bool false), m)) ∧
    (∀ j : Nat, i = j → j < n → bs.getD j false ≠ v → ∃ m1 m2, bitmap_Map_Set [.s (.ptr p 0 0), .s (.int .i64 i), .s (.bool v)] m = some (.s (.bool true), m1) ∧ (∀ {R : Type} (K : AMem → Option R), storeAt 1 m1 (plc c (j : Int)) (.s (.bool v)) K = K m2) ∧ Keep (Ht rs c) m m2 ∧ Al N m2 p c n rs (setWd ws j v) (bs.set j v) ∧ Ap m2 p c rs) := by
  have hone := h.one
  obtain ⟨S1, S2⟩ := mapSet_is hw h.m (by omega) i v
  refine ⟨fun hc => S1 ?_, fun j hij hj hne => ?_⟩
  · rcases hc with hc | ⟨j, rfl, hj, hv⟩
    · exact .inl hc
    · exact .inr (by rw [usedZ_in hj, h.all j hj]; exact hv)
  · subst hij
    obtain ⟨m1, e1, k1, h1⟩ := S2 ⟨by omega, by omega⟩ (by rw [usedZ_in hj, h.all j hj]; exact hne)
    rw [nat_toNat] at h1
    obtain ⟨m2, s1, s2, s3, s4⟩ := after_set h ha hj v k1 h1
    exact ⟨m1, m2, e1, s1, s2, s3, s4⟩
theorem range_loop {N p n bx : Nat} {c acts : SV} {rs : List SV} {s7 i0 d : Int} {cnt : Nat} (hi0 : -1 ≤ i0 ∧ i0 ≤ 5000) (hcnt : cnt ≤ 100) {v : Bool} (hv : (d == 3) = v) :
    ∀ (k : Nat) (i : Int) (m : AMem) (ws : List Int) (bs : List Bool), i + k = i0 + cnt → -1 ≤ i → WF m → Al N m p c n rs ws bs → Ap m p c rs →
      ∃ m' ws' bs', overdublaw11_play_L2 [.s (.ptr p 0 0), .s c, .s acts, .s (.int .i64 s7), .s (.ptr bx 0 0), .s (.int .i64 i0), .s (.int .i64 (cnt : Int)), .s (.int .i64 d)] [.s (.int .i64 i)] m = some (.exit 3, [.s (.ptr p 0 0), .s c, .s acts, .s (.int .i64 s7), .s (.ptr bx 0 0), .s (.int .i64 (cnt : Int))], m') ∧ Keep (Ht rs c) m m' ∧ Al N m' p c n rs ws' bs' ∧ Ap m' p c rs
  | 0, i, m, ws, bs, hk, hi, hw, h, ha => by
    refine ⟨m, ws, bs, ?_, Keep.refl hw, h, ha⟩
    have ew : IntKind.wrap .i64 (i0 + (cnt : Int)) = i0 + (cnt : Int) := wr (by omega)
    rw [overdublaw11_play_L2_eq, overdublaw11_play_L2_B_eq]
    simp -implicitDefEqProofs only [ew, lt_f (show i0 + (cnt : Int) ≤ i by omega), Option.bind_some, decide_true, decide_false, cond_true, cond_false, seqJ_n, seqJ_r, seqJ_e, headK_c, asB_bool, asI_int, asS_s, asN_int, extrK_0, extrK_1, extrK_2, Bool.not_true, Bool.not_false, Nat.beq_refl]
  | k + 1, i, m, ws, bs, hk, hi, hw, h, ha => by
    have hlen := h.len
    have hone := h.one
    have ew : IntKind.wrap .i64 (i0 + (cnt : Int)) = i0 + (cnt : Int) := wr (by omega)
    have ei : IntKind.wrap .i64 (i + 1) = i + 1 := wr (by omega)
    have c1 := lt_t (show i < i0 + (cnt : Int) by omega)
    obtain ⟨S1, S2⟩ := set_one hw h ha i v
    have ff : (false == false) = true := rfl
    have tt : (true == true) = true := rfl
    by_cases h0 : 0 ≤ i
    · by_cases h1 : i < n
      · obtain ⟨j, rfl⟩ : ∃ j : Nat, i = j := ⟨i.toNat, by omega⟩
        have g1 := fun {R : Type} (K : AV → Option R) => h.b.ind (i := (j : Int)) (by omega) (by omega) K
        have l1 := fun {R : Type} (K : AV → Option R) => h.b.load (i := j) (by omega) K
        by_cases hb : bs.getD j false = v
        · have e1 := S1 (.inr ⟨j, rfl, by omega, hb⟩)
          have hbv : (bs.getD j false == v) = true := by rw [hb]; simp
          obtain ⟨m', ws', bs', q1, q2⟩ := range_loop (acts := acts) (s7 := s7) (bx := bx) hi0 hcnt hv k ((j : Int) + 1) m ws bs (by omega) (by omega) hw h ha
          refine ⟨m', ws', bs', ?_, q2⟩
          rw [overdublaw11_play_L2_eq, overdublaw11_play_L2_B_eq]
          simp -implicitDefEqProofs only [ew, c1, ge_t h0, h.b.len, lt_t (show (j : Int) < (bs.length : Int) by omega), g1, l1, hv, hbv, e1, ff, ei, Option.bind_some, decide_true, decide_false, cond_true, cond_false, seqJ_n, seqJ_r, seqJ_e, headK_c, asB_bool, asI_int, asS_s, asN_int, extrK_0, extrK_1, extrK_2, Bool.not_true, Bool.not_false, Nat.beq_refl]
          exact q1
        · have hbv : (bs.getD j false == v) = false := by simpa using hb
          obtain ⟨m1, m2, e1, s1, s2, s3, s4⟩ := S2 j rfl (by omega) hb
          have g2 := fun {R : Type} (K : AV → Option R) => h.b.ind (i := (j : Int)) (by omega) (by omega) K
          obtain ⟨m', ws', bs', q1, q2, q3⟩ := range_loop (acts := acts) (s7 := s7) (bx := bx) hi0 hcnt hv k ((j : Int) + 1) m2 _ _ (by omega) (by omega) s2.wf s3 s4
          refine ⟨m', ws', bs', ?_, s2.trans q2, q3⟩
          rw [overdublaw11_play_L2_eq, overdublaw11_play_L2_B_eq]
          simp -implicitDefEqProofs only [ew, c1, ge_t h0, h.b.len, lt_t (show (j : Int) < (bs.length : Int) by omega), g1, l1, hv, hbv, e1, tt, s1, ei, Option.bind_some, decide_true, decide_false, cond_true, cond_false, seqJ_n, seqJ_r, seqJ_e, headK_c, asB_bool, asI_int, asS_s, asN_int, extrK_0, extrK_1, extrK_2, Bool.not_true, Bool.not_false, Nat.beq_refl]
          exact q1
      · have e1 := S1 (.inl (by omega))
        obtain ⟨m', ws', bs', q1, q2⟩ := range_loop (acts := acts) (s7 := s7) (bx := bx) hi0 hcnt hv k (i + 1) m ws bs (by omega) (by omega) hw h ha
        refine ⟨m', ws', bs', ?_, q2⟩
        rw [overdublaw11_play_L2_eq, overdublaw11_play_L2_B_eq]
        simp -implicitDefEqProofs only [ew, c1, ge_t h0, h.b.len, lt_f (show (bs.length : Int) ≤ i by omega), hv, e1, ff, ei, Option.bind_some, decide_true, decide_false, cond_true, cond_false, seqJ_n, seqJ_r, seqJ_e, headK_c, asB_bool, asI_int, asS_s, asN_int, extrK_0, extrK_1, extrK_2, Bool.not_true, Bool.not_false, Nat.beq_refl]
        exact q1
    · have e1 := S1 (.inl (by omega))
      obtain ⟨m', ws', bs', q1, q2⟩ := range_loop (acts := acts) (s7 := s7) (bx := bx) hi0 hcnt hv k (i + 1) m ws bs (by omega) (by omega) hw h ha
      refine ⟨m', ws', bs', ?_, q2⟩
      rw [overdublaw11_play_L2_eq, overdublaw11_play_L2_B_eq]
      simp -implicitDefEqProofs only [ew, c1, ge_f (show i < 0 by omega), hv, e1, ff, ei, Option.bind_some, decide_true, decide_false, cond_true, cond_false, seqJ_n, seqJ_r, seqJ_e, headK_c, asB_bool, asI_int, asS_s, asN_int, extrK_0, extrK_1, extrK_2, Bool.not_true, Bool.not_false, Nat.beq_refl]
      exact q1
/-- The first free one is taken. -/
theorem take_one {N : Nat} {m : AMem} (hw : WF m) {p n : Nat} {c : SV} {rs : List SV} {ws : List Int} {bs : List Bool} (h : Al N m p c n rs ws bs) (ha : Ap m p c rs) :
    (overdubref10_Map_First [.s c, .s (.int .i64 0)] m = some (.s (.int .i64 (-1)), m) ∧ bitmap_Map_Take [.s (.ptr p 0 0)] m = some (.s (.int .i64 (-1)), m)) ∨
    (∃ g : Nat, g < n ∧ overdubref10_Map_First [.s c, .s (.int .i64 0)] m = some (.s (.int .i64 (g : Int)), m) ∧ ∃ m1 m2, bitmap_Map_Take [.s (.ptr p 0 0)] m = some (.s (.int .i64 (g : Int)), m1) ∧ (∀ {R : Type} (K : AMem → Option R), storeAt 1 m1 (plc c (g : Int)) (.s (.bool true)) K = K m2) ∧ Keep (Ht rs c) m m2 ∧ Al N m2 p c n rs (setWd ws g true) (bs.set g true) ∧ Ap m2 p c rs) := by
  have hone := h.one
  have hlen := h.len
  obtain ⟨f, e1, hf⟩ := refFirst_is h.b (by omega) 0
  rw [hlen] at hf
  have hf := hf.congr (W := U ws) fun j hj => (h.all j hj).symm
  obtain ⟨T1, T2⟩ := mapTake_is hw h.m (by omega)
  rcases hf with ⟨rfl, hall⟩ | ⟨g, rfl, _, hg, hgf, hgl⟩
  · exact .inl ⟨e1, T1 fun j hj => hall j (Nat.zero_le _) hj⟩
  · obtain ⟨m1, e2, k1, h1⟩ := T2 g hg hgf fun j hj => hgl j (Nat.zero_le _) hj
    obtain ⟨m2, s1, s2, s3, s4⟩ := after_set h ha hg true k1 h1
    exact .inr ⟨g, hg, e1, m1, m2, e2, s1, s2, s3, s4⟩
theorem cell3 {m : AMem} {i T : Nat} {q : Option Nat} {a b c : SV} (h : m.obj i = some (rowObj [a, b, c] 3 T q)) : m.cell i 0 (0 + 0) = some a ∧ m.cell i 0 (0 + 1) = some b ∧ m.cell i 0 (0 + 2) = some c := by
  simp [AMem.cell, h, rowObj]
theorem play_loop {M : AMem} (h0 : WF M) {acts c : SV} {p len n : Nat} {rs : List SV} {zs : List Int} (hx : IsRecs M .i64 3 acts zs len) (hz : ∀ v ∈ zs, (Lit.int .i64 v).wf = true) :
    ∀ (k i : Nat) (μ : AMem) (ws : List Int) (bs : List Bool), i + k = min 20 len → Same M μ → Al M.next μ p c n rs ws bs → Ap μ p c rs →
      ∃ μ' ws' bs', overdublaw11_play_L1 [.s (.ptr p 0 0), .s c, .s acts] [.s (.int .i64 (i : Int))] μ = some (.exit 0, [], μ') ∧ Keep (Ht rs c) μ μ' ∧ Al M.next μ' p c n rs ws' bs' ∧ Ap μ' p c rs
  | 0, i, μ, ws, bs, hk, hs, h, ha => by
    obtain rfl : i = min 20 len := by omega
    refine ⟨μ, ws, bs, ?_, Keep.refl hs.wf, h, ha⟩
    rw [overdublaw11_play_L1_eq, overdublaw11_play_L1_B_eq, (hx.same hs).lenS]
    by_cases h1 : ((min 20 len : Nat) : Int) < (len : Int)
    · simp -implicitDefEqProofs only [lt_t h1, lt_f (show (20 : Int) ≤ ((min 20 len : Nat) : Int) by omega), Option.bind_some, decide_true, decide_false, cond_true, cond_false, seqJ_n, seqJ_r, seqJ_e, headK_c, asB_bool, asI_int, asS_s, asN_int, extrK_0, extrK_1, extrK_2, Bool.not_true, Bool.not_false, Nat.beq_refl]
    · simp -implicitDefEqProofs only [lt_f (show (len : Int) ≤ ((min 20 len : Nat) : Int) by omega), Option.bind_some, decide_true, decide_false, cond_true, cond_false, seqJ_n, seqJ_r, seqJ_e, headK_c, asB_bool, asI_int, asS_s, asN_int, extrK_0, extrK_1, extrK_2, Bool.not_true, Bool.not_false, Nat.beq_refl]
  | k + 1, i, μ, ws, bs, hk, hs, h, ha => by
    have hi : i < len := by omega
    have hlen := h.len
    have hone := h.one
    have hx1 := hx.same hs
    have g0 := fun {R : Type} (K : AV → Option R) => hx1.ind (i := (i : Int)) (by omega) (by omega) K
    have e1 := fun {R : Type} (K : AV → Option R) => rec3 (hx.same (bumpS hs 6)) hi K
    obtain ⟨d, hd⟩ : ∃ d, zs.getD (i * 3 + 0) 0 = d := ⟨_, rfl⟩
    obtain ⟨a, hA⟩ : ∃ a, zs.getD (i * 3 + 1) 0 = a := ⟨_, rfl⟩
    obtain ⟨b, hB⟩ : ∃ b, zs.getD (i * 3 + 2) 0 = b := ⟨_, rfl⟩
    have wd := hx.wf hz hi (f := 0) (by omega)
    have wa := hx.wf hz hi (f := 1) (by omega)
    have wb := hx.wf hz hi (f := 2) (by omega)
    rw [hd] at wd
    rw [hA] at wa
    rw [hB] at wb
    simp only [hd, hA, hB] at e1
    have k2 : Same μ ((μ.bump 6).set (μ.next + 4) (rowObj [.int .i64 d, .int .i64 a, .int .i64 b] 3 56 (some 1))) := Same.bumpSet hs.wf (by omega) _
    have hbox : ((μ.bump 6).set (μ.next + 4) (rowObj [.int .i64 d, .int .i64 a, .int .i64 b] 3 56 (some 1))).obj (μ.next + 4) = some (rowObj [.int .i64 d, .int .i64 a, .int .i64 b] 3 56 (some 1)) := set_self _ _ _
    have e2 := fun {R : Type} (K : AMem → Option R) => box3 (μ.bump 6) (μ.next + 4) 56 (some 1) (.int .i64 0) (.int .i64 0) (.int .i64 0) (.int .i64 d) (.int .i64 a) (.int .i64 b) K
    generalize (μ.bump 6).set (μ.next + 4) (rowObj [.int .i64 d, .int .i64 a, .int .i64 b] 3 56 (some 1)) = M2 at *
    obtain ⟨b0, b1, b2⟩ := cell3 hbox
    have h2 := h.same k2
    have ha2 := ha.same h.m k2
    have hnb : ¬ Ht rs c (μ.next + 4) := fun hh => by
      rcases hh with hh | hh
      · obtain ⟨wss, hm, _⟩ := h.m.ex
        obtain ⟨_, o, ho⟩ := hm.ids hh
        have := hs.wf.lt ho
        omega
      · obtain ⟨_, o, ho⟩ := h.b.lives hh
        have := hs.wf.lt ho
        omega
    have c1 := lt_t (show (i : Int) < (len : Int) by omega)
    have c2 := lt_t (show (i : Int) < 20 by omega)
    have ei : IntKind.wrap .i64 ((i : Int) + 1) = ((i + 1 : Nat) : Int) := by rw [wr (by omega)]; rfl
    have ewl : IntKind.wrap .i64 ((bs.length : Int) + 2) = (bs.length : Int) + 2 := wr (by omega)
    have wi1 := within_is a ((bs.length : Int) + 2) (wf64 wa) (by omega) (by omega) M2
    have hA1 : 0 ≤ a % ((bs.length : Int) + 2) ∧ a % ((bs.length : Int) + 2) < (bs.length : Int) + 2 := ⟨Int.emod_nonneg _ (by omega), Int.emod_lt_of_pos _ (by omega)⟩
    generalize a % ((bs.length : Int) + 2) = a2 at *
    have ewa : IntKind.wrap .i64 (a2 - 1) = a2 - 1 := wr (by omega)
    have wi2 := within_is b 80 (wf64 wb) (by omega) (by omega) M2
    obtain ⟨cnt, hcnt⟩ : ∃ cnt : Nat, b % 80 = cnt := ⟨(b % 80).toNat, by omega⟩
    rw [hcnt] at wi2
    have wi3 := within_is d 6 (wf64 wd) (by omega) (by omega) M2
    have hd6 : 0 ≤ d % 6 ∧ d % 6 < 6 := by omega
    generalize hdd : d % 6 = d6 at *
    -- what comes behind an act
    have rest : ∀ (m : AMem) (ws1 : List Int) (bs1 : List Bool), Keep (Ht rs c) M2 m → Al M.next m p c n rs ws1 bs1 → Ap m p c rs →
        ∃ m3 μ' ws' bs', m.cell (μ.next + 4) 0 (0 + 2) = some (.int .i64 b) ∧ overdublaw11_same [.s (.ptr p 0 0), .s c, .s (.int .i64 b), .s (.int .i64 (cnt : Int))] m = some (.s (.bool true), m3) ∧
          overdublaw11_play_L1 [.s (.ptr p 0 0), .s c, .s acts] [.s (.int .i64 ((i + 1 : Nat) : Int))] m3 = some (.exit 0, [], μ') ∧ Keep (Ht rs c) μ μ' ∧ Al M.next μ' p c n rs ws' bs' ∧ Ap μ' p c rs := by
      intro m ws1 bs1 hk hm1 hm2
      obtain ⟨_, _, x2⟩ := cell3 (hk.old _ _ hbox hnb)
      obtain ⟨m3, e3, k3⟩ := same_map hk.wf hm1 b (s3 := cnt) (by omega)
      have hk3 : Keep (Ht rs c) μ m3 := ((k2.weak0 fun _ h => h.elim).trans hk).trans (k3.weak0 fun _ h => h.elim)
      have hs3 : Same M m3 := keepSame h0 hs hk3 fun j hj => hj.elim (fun h' => h.m.ids h') fun h' => (h.b.lives h').1
      obtain ⟨μ', ws', bs', q1, q2, q3, q4⟩ := play_loop h0 hx hz k (i + 1) m3 ws1 bs1 (by omega) hs3 (hm1.same k3) (hm2.same hm1.m k3)
      exact ⟨m3, μ', ws', bs', x2, e3, q1, hk3.trans q2, q3, q4⟩
    have ff : (false == false) = true := rfl
    have tt : (true == true) = true := rfl
    by_cases r1 : d6 = 3 ∨ d6 = 5
    · obtain ⟨m, ws1, bs1, f1, f2, f3, f4⟩ := range_loop (acts := acts) (s7 := (i : Int)) (bx := μ.next + 4) (i0 := a2 - 1) (d := d6) (cnt := cnt) (by omega) (by omega) rfl cnt (a2 - 1) M2 ws bs (by omega) (by omega) k2.wf h2 ha2
      obtain ⟨m3, μ', ws', bs', x2, e3, q1, q2⟩ := rest m ws1 bs1 f2 f3 f4
      refine ⟨μ', ws', bs', ?_, q2⟩
      rw [overdublaw11_play_L1_eq, overdublaw11_play_L1_B_eq, hx1.lenS]
      rcases r1 with r1 | r1
      · simp -implicitDefEqProofs only [c1, c2, g0, e1, e2, b0, b1, b2, h2.b.len, ewl, wi1, wi2, wi3, eq_t r1, ewa, f1, x2, e3, ei, Option.bind_some, decide_true, decide_false, cond_true, cond_false, seqJ_n, seqJ_r, seqJ_e, headK_c, asB_bool, asI_int, asS_s, asN_int, extrK_0, extrK_1, extrK_2, Bool.not_true, Bool.not_false, Nat.beq_refl]
        exact q1
      · simp -implicitDefEqProofs only [c1, c2, g0, e1, e2, b0, b1, b2, h2.b.len, ewl, wi1, wi2, wi3, eq_f (show ¬ d6 = 3 by omega), eq_t r1, ewa, f1, x2, e3, ei, Option.bind_some, decide_true, decide_false, cond_true, cond_false, seqJ_n, seqJ_r, seqJ_e, headK_c, asB_bool, asI_int, asS_s, asN_int, extrK_0, extrK_1, extrK_2, Bool.not_true, Bool.not_false, Nat.beq_refl]
        exact q1
    · have n3 := eq_f (show ¬ d6 = 3 by omega)
      have n5 := eq_f (show ¬ d6 = 5 by omega)
      by_cases r4 : d6 = 4
      · rcases take_one k2.wf h2 ha2 with ⟨e3, e4⟩ | ⟨g, hg, e3, m1, m2, e4, s1, s2, s3, s4⟩
        · obtain ⟨m3, μ', ws', bs', x2, e5, q1, q2⟩ := rest M2 ws bs (Keep.refl k2.wf) h2 ha2
          refine ⟨μ', ws', bs', ?_, q2⟩
          rw [overdublaw11_play_L1_eq, overdublaw11_play_L1_B_eq, hx1.lenS]
          simp -implicitDefEqProofs only [c1, c2, g0, e1, e2, b0, b1, b2, h2.b.len, ewl, wi1, wi2, wi3, n3, n5, eq_t r4, e3, e4, ne_f (rfl : (-1 : Int) = _), ge_f (show (-1 : Int) < 0 by omega), e5, ei, Option.bind_some, decide_true, decide_false, cond_true, cond_false, seqJ_n, seqJ_r, seqJ_e, headK_c, asB_bool, asI_int, asS_s, asN_int, extrK_0, extrK_1, extrK_2, Bool.not_true, Bool.not_false, Nat.beq_refl]
          exact q1
        · obtain ⟨m3, μ', ws', bs', x2, e5, q1, q2⟩ := rest m2 _ _ s2 s3 s4
          have g2 := fun {R : Type} (K : AV → Option R) => h2.b.ind (i := (g : Int)) (by omega) (by omega) K
          refine ⟨μ', ws', bs', ?_, q2⟩
          rw [overdublaw11_play_L1_eq, overdublaw11_play_L1_B_eq, hx1.lenS]
          simp -implicitDefEqProofs only [c1, c2, g0, e1, e2, b0, b1, b2, h2.b.len, ewl, wi1, wi2, wi3, n3, n5, eq_t r4, e3, e4, ne_f (rfl : (g : Int) = _), ge_t (show (0 : Int) ≤ (g : Int) by omega), g2, s1, x2, e5, ei, Option.bind_some, decide_true, decide_false, cond_true, cond_false, seqJ_n, seqJ_r, seqJ_e, headK_c, asB_bool, asI_int, asS_s, asN_int, extrK_0, extrK_1, extrK_2, Bool.not_true, Bool.not_false, Nat.beq_refl]
          exact q1
      · have n4 := eq_f r4
        obtain ⟨v, hv⟩ : ∃ v, (d6 == 0) = v := ⟨_, rfl⟩
        obtain ⟨S1, S2⟩ := set_one k2.wf h2 ha2 (a2 - 1) v
        by_cases hin : 0 ≤ a2 - 1 ∧ a2 - 1 < n
        · obtain ⟨j, hj⟩ : ∃ j : Nat, a2 - 1 = j := ⟨(a2 - 1).toNat, by omega⟩
          rw [hj] at S1 S2
          have g1 := fun {R : Type} (K : AV → Option R) => h2.b.ind (i := (j : Int)) (by omega) (by omega) K
          have l1 := fun {R : Type} (K : AV → Option R) => h2.b.load (i := j) (by omega) K
          have ewj : IntKind.wrap .i64 (a2 - 1) = (j : Int) := by rw [ewa, hj]
          by_cases hb : bs.getD j false = v
          · have hbv : (bs.getD j false == v) = true := by rw [hb]; simp
            have e3 := S1 (.inr ⟨j, rfl, by omega, hb⟩)
            obtain ⟨m3, μ', ws', bs', x2, e5, q1, q2⟩ := rest M2 ws bs (Keep.refl k2.wf) h2 ha2
            refine ⟨μ', ws', bs', ?_, q2⟩
            rw [overdublaw11_play_L1_eq, overdublaw11_play_L1_B_eq, hx1.lenS]
            simp -implicitDefEqProofs only [c1, c2, g0, e1, e2, b0, b1, b2, h2.b.len, ewl, wi1, wi2, wi3, n3, n5, n4, ewj, ge_t (show (0 : Int) ≤ (j : Int) by omega), lt_t (show (j : Int) < (bs.length : Int) by omega), g1, l1, hv, hbv, e3, ff, e5, ei, Option.bind_some, decide_true, decide_false, cond_true, cond_false, seqJ_n, seqJ_r, seqJ_e, headK_c, asB_bool, asI_int, asS_s, asN_int, extrK_0, extrK_1, extrK_2, Bool.not_true, Bool.not_false, Nat.beq_refl]
            exact q1
          · have hbv : (bs.getD j false == v) = false := by simpa using hb
            obtain ⟨m1, m2, e3, s1, s2, s3, s4⟩ := S2 j rfl (by omega) hb
            obtain ⟨m3, μ', ws', bs', x2, e5, q1, q2⟩ := rest m2 _ _ s2 s3 s4
            refine ⟨μ', ws', bs', ?_, q2⟩
            rw [overdublaw11_play_L1_eq, overdublaw11_play_L1_B_eq, hx1.lenS]
            simp -implicitDefEqProofs only [c1, c2, g0, e1, e2, b0, b1, b2, h2.b.len, ewl, wi1, wi2, wi3, n3, n5, n4, ewj, ge_t (show (0 : Int) ≤ (j : Int) by omega), lt_t (show (j : Int) < (bs.length : Int) by omega), g1, l1, hv, hbv, e3, tt, s1, x2, e5, ei, Option.bind_some, decide_true, decide_false, cond_true, cond_false, seqJ_n, seqJ_r, seqJ_e, headK_c, asB_bool, asI_int, asS_s, asN_int, extrK_0, extrK_1, extrK_2, Bool.not_true, Bool.not_false, Nat.beq_refl]
            exact q1
        · have e3 := S1 (.inl hin)
          obtain ⟨m3, μ', ws', bs', x2, e5, q1, q2⟩ := rest M2 ws bs (Keep.refl k2.wf) h2 ha2
          refine ⟨μ', ws', bs', ?_, q2⟩
          rw [overdublaw11_play_L1_eq, overdublaw11_play_L1_B_eq, hx1.lenS]
          by_cases hneg : a2 - 1 < 0
          · simp -implicitDefEqProofs only [c1, c2, g0, e1, e2, b0, b1, b2, h2.b.len, ewl, wi1, wi2, wi3, n3, n5, n4, ewa, ge_f hneg, hv, e3, ff, e5, ei, Option.bind_some, decide_true, decide_false, cond_true, cond_false, seqJ_n, seqJ_r, seqJ_e, headK_c, asB_bool, asI_int, asS_s, asN_int, extrK_0, extrK_1, extrK_2, Bool.not_true, Bool.not_false, Nat.beq_refl]
            exact q1
          · simp -implicitDefEqProofs only [c1, c2, g0, e1, e2, b0, b1, b2, h2.b.len, ewl, wi1, wi2, wi3, n3, n5, n4, ewa, ge_t (show (0 : Int) ≤ a2 - 1 by omega), lt_f (show (bs.length : Int) ≤ a2 - 1 by omega), hv, e3, ff, e5, ei, Option.bind_some, decide_true, decide_false, cond_true, cond_false, seqJ_n, seqJ_r, seqJ_e, headK_c, asB_bool, asI_int, asS_s, asN_int, extrK_0, extrK_1, extrK_2, Bool.not_true, Bool.not_false, Nat.beq_refl]
            exact q1
theorem play_map {M : AMem} (h0 : WF M) {acts c : SV} {p len n : Nat} {rs : List SV} {zs : List Int} (hx : IsRecs M .i64 3 acts zs len) (hz : ∀ v ∈ zs, (Lit.int .i64 v).wf = true) {μ : AMem} {ws : List Int} {bs : List Bool} (hs : Same M μ) (h : Al M.next μ p c n rs ws bs) (ha : Ap μ p c rs) :
    ∃ μ' ws' bs', overdublaw11_play [.s (.ptr p 0 0), .s c, .s acts] μ = some (.s (.bool true), μ') ∧ Keep (Ht rs c) μ μ' ∧ Al M.next μ' p c n rs ws' bs' ∧ Ap μ' p c rs := by
  obtain ⟨μ', ws', bs', q1, q2⟩ := play_loop h0 hx hz (min 20 len) 0 μ ws bs (Nat.zero_add _) hs h ha
  rw [n0] at q1
  refine ⟨μ', ws', bs', ?_, q2⟩
  rw [overdublaw11_play_eq]
  simp -implicitDefEqProofs only [q1, Option.bind_some, decide_true, decide_false, cond_true, cond_false, seqJ_n, seqJ_r, seqJ_e, headK_c, asB_bool, asI_int, asS_s, asN_int, extrK_0, extrK_1, extrK_2, Bool.not_true, Bool.not_false, Nat.beq_refl]
end Go.Proofs.Ytepdjffnjfdklaa
