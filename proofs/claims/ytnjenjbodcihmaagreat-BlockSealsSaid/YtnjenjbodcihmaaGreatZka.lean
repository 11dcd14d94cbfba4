/- What the functions come to. -/
import Derived.Test.YtnjenjbodcihmaaGreatZs
namespace Go.Proofs.YtnjenjbodcihmaaGreat
open Go Go.Proofs.YtnjenjbodcihmaaGreat.E
set_option linter.unusedVariables false
set_option linter.unusedSimpArgs false
theorem wr {n : Int} (h : -9223372036854775808 ≤ n ∧ n ≤ 9223372036854775807) : IntKind.wrap .i64 n = n := i64_in' n h
theorem wf64 {n : Int} (h : (Lit.int .i64 n).wf = true) : -9223372036854775808 ≤ n ∧ n ≤ 9223372036854775807 := by
  simpa [Lit.wf, IntKind.min, IntKind.max, IntKind.signed, IntKind.bits] using h
theorem prod_le {a b A B : Int} (h1 : -A ≤ a) (h2 : a ≤ A) (h3 : -B ≤ b) (h4 : b ≤ B) : -(A * B) ≤ a * b ∧ a * b ≤ A * B := by
  have hA : 0 ≤ A := by omega
  have hB : 0 ≤ B := by omega
  have e1 := Int.mul_nonneg (show 0 ≤ A - a by omega) (show 0 ≤ B - b by omega)
  have e2 := Int.mul_nonneg (show 0 ≤ A + a by omega) (show 0 ≤ B + b by omega)
  have e3 := Int.mul_nonneg (show 0 ≤ A - a by omega) (show 0 ≤ B + b by omega)
  have e4 := Int.mul_nonneg (show 0 ≤ A + a by omega) (show 0 ≤ B - b by omega)
  simp only [Int.sub_mul, Int.mul_sub, Int.add_mul, Int.mul_add] at e1 e2 e3 e4
  constructor <;> omega
theorem ss : (∀ {α β : Type} (a : α) (f : α → Option β), (some a).bind f = f a) ∧ (∀ h : Decidable True, @decide True h = true) ∧ (∀ h : Decidable False, @decide False h = false) ∧ (∀ {α : Type} (a b : α), (bif true then a else b) = a) ∧ (∀ {α : Type} (a b : α), (bif false then a else b) = b) ∧ (∀ {R : Type} (vs : List AV) (μ : AMem) (N E : List AV → AMem → Option R) (I : Nat → List AV → AMem → Option R), seqJ (some (.normal, vs, μ)) N E I = N vs μ) ∧ (∀ {R : Type} (vs : List AV) (μ : AMem) (N E : List AV → AMem → Option R) (I : Nat → List AV → AMem → Option R), seqJ (some (.ret, vs, μ)) N E I = E vs μ) ∧ (∀ {R : Type} (id : Nat) (vs : List AV) (μ : AMem) (N E : List AV → AMem → Option R) (I : Nat → List AV → AMem → Option R), seqJ (some (.exit id, vs, μ)) N E I = I id vs μ) ∧ (∀ {R : Type} (v : AV) (r : List AV) (K : AV → List AV → Option R), headK (v :: r) K = K v r) ∧ (∀ {R : Type} (b : Bool) (K : Bool → Option R), asB (.s (.bool b)) K = K b) ∧ (∀ {R : Type} (k : IntKind) (n : Int) (K : Int → Option R), asI k (.s (.int k n)) K = K n) ∧ (∀ {R : Type} (x : SV) (K : SV → Option R), asS (.s x) K = K x) ∧ (∀ {R : Type} (k : IntKind) (n : Int) (K : Int → Option R), asN (.s (.int k n)) K = K n) ∧ (∀ {R : Type} (a : AV) (l : List AV) (K : AV → Option R), extrK 0 (.tuple (a :: l)) K = K a) ∧ (∀ {R : Type} (a b : AV) (l : List AV) (K : AV → Option R), extrK 1 (.tuple (a :: b :: l)) K = K b) ∧ (∀ {R : Type} (a b c : AV) (l : List AV) (K : AV → Option R), extrK 2 (.tuple (a :: b :: c :: l)) K = K c) ∧ (!true) = false ∧ (!false) = true ∧ (∀ n : Nat, Nat.beq n n = true) := ⟨Option.bind_some, decide_true, decide_false, cond_true, cond_false, seqJ_n, seqJ_r, seqJ_e, headK_c, asB_bool, asI_int, asS_s, asN_int, extrK_0, extrK_1, extrK_2, Bool.not_true, Bool.not_false, Nat.beq_refl⟩
end Go.Proofs.YtnjenjbodcihmaaGreat
namespace Go.Proofs.YtnjenjbodcihmaaGreat
open Go Go.Proofs.YtnjenjbodcihmaaGreat.E
set_option linter.unusedVariables false
set_option linter.unusedSimpArgs false
theorem w64 {n : Int} (h : -9223372036854775808 ≤ n) (h' : n ≤ 9223372036854775807) : IntKind.wrap .i64 n = n := wr ⟨h, h'⟩
theorem lt_t {a b : Int} (h : a < b) : decide (a < b) = true := decide_eq_true h
theorem lt_f {a b : Int} (h : b ≤ a) : decide (a < b) = false := decide_eq_false (by omega)
theorem gt_t {a b : Int} (h : b < a) : decide (a > b) = true := decide_eq_true h
theorem gt_f {a b : Int} (h : a ≤ b) : decide (a > b) = false := decide_eq_false (by omega)
theorem le_t {a b : Int} (h : a ≤ b) : decide (a ≤ b) = true := decide_eq_true h
theorem le_f {a b : Int} (h : b < a) : decide (a ≤ b) = false := decide_eq_false (by omega)
theorem ge_t {a b : Int} (h : b ≤ a) : decide (a ≥ b) = true := decide_eq_true h
theorem ge_f {a b : Int} (h : a < b) : decide (a ≥ b) = false := decide_eq_false (by omega)
theorem ne_t {a b : Int} (h : ¬ a = b) : (a != b) = true := by simp [h]
theorem ne_f {a b : Int} (h : a = b) : (a != b) = false := by simp [h]
theorem eq_t {a b : Int} (h : a = b) : (a == b) = true := by simp [h]
theorem eq_f {a b : Int} (h : ¬ a = b) : (a == b) = false := by simp [h]
theorem n0 : ((0 : Nat) : Int) = 0 := rfl
theorem nsu (i : Nat) : ((i + 1 : Nat) : Int) = (i : Int) + 1 := rfl
theorem nat_toNat (i : Nat) : ((i : Nat) : Int).toNat = i := rfl
theorem chk {α : Type} {p : Prop} (h : p) (x : Option α) : checkA p x = x := checkA_pos h x
theorem chk_rfl {α β : Type} (a : α) (x : Option β) : checkA (a = a) x = x := checkA_pos rfl x
theorem chk_true {β : Type} (x : Option β) : checkA True x = x := checkA_pos trivial x
theorem sw : (∀ {a b : Int}, a < b → decide (a < b) = true) ∧ (∀ {a b : Int}, b ≤ a → decide (a < b) = false) ∧ (∀ {a b : Int}, b < a → decide (a > b) = true) ∧ (∀ {a b : Int}, a ≤ b → decide (a > b) = false) ∧ (∀ {a b : Int}, a ≤ b → decide (a ≤ b) = true) ∧ (∀ {a b : Int}, b < a → decide (a ≤ b) = false) ∧ (∀ {a b : Int}, b ≤ a → decide (a ≥ b) = true) ∧ (∀ {a b : Int}, a < b → decide (a ≥ b) = false) ∧ (∀ {a b : Int}, ¬ a = b → (a != b) = true) ∧ (∀ {a b : Int}, a = b → (a != b) = false) ∧ (∀ {a b : Int}, a = b → (a == b) = true) ∧ (∀ {a b : Int}, ¬ a = b → (a == b) = false) ∧ (∀ {n : Int}, -9223372036854775808 ≤ n → n ≤ 9223372036854775807 → IntKind.wrap .i64 n = n) ∧ (∀ {β : Type} (x : Option β), checkA True x = x) := ⟨lt_t, lt_f, gt_t, gt_f, le_t, le_f, ge_t, ge_f, ne_t, ne_f, eq_t, eq_f, w64, chk_true⟩
theorem ptrAdd_p {R : Type} (n a b c : Nat) (K : AV → Option R) : ptrAdd n (.s (.ptr a b c)) K = K (.s (.ptr a b (c + n))) := rfl
theorem loadAt_p {R : Type} (μ : AMem) (a b c : Nat) (K : AV → Option R) : loadAt μ (.s (.ptr a b c)) K = (μ.cell a b c).bind fun x => K (.s x) := rfl
theorem bump_cell (μ : AMem) (n a b c : Nat) : (μ.bump n).cell a b c = μ.cell a b c := rfl
theorem set_self (μ : AMem) (i : Nat) (o : AObj) : (μ.set i o).obj i = some o := by simp
theorem pushS {μ0 μ : AMem} (h0 : WF μ0) (hs : Same μ0 μ) {k : IntKind} {e : TypeId} {x : SV} {zs : List Int} (h : OwnRow μ0.next μ k e x zs) {B a b n : Nat} (v : Int) (hB : 1 ≤ B) (hb : (zs.length + 1) * B ≤ 140737488355328)
    (ha : a < n) (hbn : b < n) (hab : a ≠ b) {q : Option Nat} : ∃ x' μ', (∀ {R : Type} (K : AV → AMem → Option R), appendA e 1 B (μ.next + b) ((μ.bump n).set (μ.next + a) (rowObj [.int k v] 1 e q)) (.s x) (.s (.slice (μ.next + a) 0 0 1)) K = K (.s x') μ') ∧
      Same μ0 μ' ∧ OwnRow μ0.next μ' k e x' (zs ++ [v]) := by
  obtain ⟨y', μ', p1, p2, p3, p4, p5, p6⟩ := OwnRow.push (B := B) (a := a) (b := b) (n := n) (q := q) hs.wf h v hB hb hs.next ha hbn hab
  exact ⟨y', μ', p1, Same.push h0 hs h p3 p4 p5, p2⟩
theorem same_row {μ0 μ : AMem} {k : IntKind} {x : SV} {zs : List Int} (hs : Same μ0 μ) (hx : IsRow μ0 k x zs) : IsRow μ k x zs := hx.same hs
theorem bumpS {μ0 μ : AMem} (hs : Same μ0 μ) (n : Nat) : Same μ0 (μ.bump n) := hs.trans (Keep.bump hs.wf n)
theorem newS {μ0 μ : AMem} (hs : Same μ0 μ) {n a : Nat} (ha : a < n) (o : AObj) : Same μ0 ((μ.bump n).set (μ.next + a) o) := hs.trans (Same.bumpSet hs.wf ha o)
theorem freshB {μ : AMem} (hw : WF μ) (n a : Nat) : (μ.bump n).obj (μ.next + a) = none := by rw [bump_obj]; exact hw _ (by omega)
theorem freshS {μ μ' : AMem} (hw : WF μ) {n a : Nat} (ha : a < n) (hs : Same (μ.bump n) μ') : μ'.obj (μ.next + a) = none := hs.low _ (by simp [ha]) (freshB hw n a)
theorem range_cons (f : Nat → Int) (i k : Nat) : (List.range' i (k + 1)).map f = f i :: (List.range' (i + 1) k).map f := rfl
theorem getD_lt {zs : List Int} {i : Nat} (h : i < zs.length) : zs.getD i 0 = zs[i] := by rw [List.getD_eq_getElem?_getD, List.getElem?_eq_getElem h]; rfl
theorem take_snoc {zs : List Int} {i : Nat} (h : i < zs.length) : zs.take (i + 1) = zs.take i ++ [zs.getD i 0] := by rw [List.take_add_one, List.getElem?_eq_getElem h, getD_lt h]; rfl
theorem E.IsRow.front {μ : AMem} {k : IntKind} {x : SV} {zs : List Int} (h : IsRow μ k x zs) {n : Nat} (hn : n ≤ zs.length) : ∃ y, (∀ {R : Type} (K : AV → Option R), cutS 1 (.s x) 0 (n : Int) K = K (.s y)) ∧ IsRow μ k y (zs.take n) := by
  refine ⟨cutV x 0 n, fun K => h.cut (by omega) (by omega) (by omega) K, ?_⟩
  have := h.cutRow (a := 0) (b := (n : Int)) (by omega) (by omega) (by omega)
  simpa using this
theorem E.IsRow.back {μ : AMem} {k : IntKind} {x : SV} {zs : List Int} (h : IsRow μ k x zs) {n : Nat} (hn : n ≤ zs.length) : ∃ y, (∀ {R : Type} (K : AV → Option R), cutS 1 (.s x) (n : Int) (zs.length : Int) K = K (.s y)) ∧ IsRow μ k y (zs.drop n) := by
  refine ⟨cutV x n zs.length, fun K => h.cut (by omega) (by omega) (by omega) K, ?_⟩
  have := h.cutRow (a := n) (b := (zs.length : Int)) (by omega) (by omega) (by omega)
  simpa using this
theorem zerosA_rep (v : SV) : ∀ n, zerosA [v] n = List.replicate n v
  | 0 => rfl
  | n + 1 => by
    have := zerosA_rep v n
    simp only [zerosA, List.replicate_succ] at this ⊢
    simp_all
theorem zeros_row {μ : AMem} {id : Nat} {n : Nat} {q : Option Nat} {e : TypeId} (h : μ.obj id = some (rowObj (zerosA [.int .i64 0] n) 1 e q)) : IsRow μ .i64 (.slice id 0 0 n) (List.replicate n 0) :=
  IsRow.made h (by simp) rfl (by show zerosA _ n = _; rw [zerosA_rep]; simp)
end Go.Proofs.YtnjenjbodcihmaaGreat
namespace Go.Proofs.YtnjenjbodcihmaaGreat
open Go Go.Proofs.YtnjenjbodcihmaaGreat.E
set_option linter.unusedVariables false
set_option linter.unusedSimpArgs false
theorem appS {μ0 μ : AMem} (h0 : WF μ0) (hs : Same μ0 μ) {k : IntKind} {e : TypeId} {x y : SV} {zs ws : List Int} (h : OwnRow μ0.next μ k e x zs) (hy : IsRow μ k y ws) {B nid : Nat} (hB : 1 ≤ B) (hb : (zs.length + ws.length) * B ≤ 140737488355328)
    (hN : μ0.next ≤ nid) (hlt : nid < μ.next) (hf : μ.obj nid = none) : ∃ x' μ', (∀ {R : Type} (K : AV → AMem → Option R), appendA e 1 B nid μ (.s x) (.s y) K = K (.s x') μ') ∧ Same μ0 μ' ∧ OwnRow μ0.next μ' k e x' (zs ++ ws) := by
  obtain ⟨x', μ', g1, g2, g3, g4, g5, g6⟩ := OwnRow.append hs.wf h hy hB hb hN hlt hf
  exact ⟨x', μ', g1, ⟨g3, by rw [g4]; exact hs.next, fun id o ho hf => g5.1 id o (hs.old id o ho hf) (h.notOld (h0.lt ho)), fun id hi hno => g5.2 id (by omega) (hs.low id hi hno)⟩, g2⟩
theorem pushM {μ0 μ m : AMem} (h0 : WF μ0) (hs : Same μ0 μ) {n : Nat} (hm : Same (μ.bump n) m) {k : IntKind} {e : TypeId} {x : SV} {zs : List Int} (h : OwnRow μ0.next μ k e x zs) {B a b : Nat} (v : Int) (hB : 1 ≤ B) (hb : (zs.length + 1) * B ≤ 140737488355328)
    (ha : a < n) (hbn : b < n) (hab : a ≠ b) {q : Option Nat} : ∃ x' μ', (∀ {R : Type} (K : AV → AMem → Option R), appendA e 1 B (μ.next + b) (m.set (μ.next + a) (rowObj [.int k v] 1 e q)) (.s x) (.s (.slice (μ.next + a) 0 0 1)) K = K (.s x') μ') ∧
      Same μ0 μ' ∧ OwnRow μ0.next μ' k e x' (zs ++ [v]) := by
  have hn := hs.next
  have hmn := hm.next
  simp only [bump_next] at hmn
  have hsm : Same μ0 (m.set (μ.next + a) (rowObj [.int k v] 1 e q)) := Keep.setS h0 ((bumpS hs n).trans hm) (by omega) (by omega)
  have hy : IsRow (m.set (μ.next + a) (rowObj [.int k v] 1 e q)) k (.slice (μ.next + a) 0 0 1) [v] := IsRow.made (o := rowObj [.int k v] 1 e q) (by simp) rfl rfl rfl
  have h' : OwnRow μ0.next (m.set (μ.next + a) (rowObj [.int k v] 1 e q)) k e x zs := h.old fun id o ho _ => by
    have := hs.wf.lt ho
    rw [set_obj, if_neg (by omega)]
    exact hm.old _ _ ho (fun h => h)
  exact appS h0 hsm h' hy hB (by simpa using hb) (by omega) (by simp; omega) (by rw [set_obj, if_neg (by omega)]; exact freshS hs.wf hbn hm)
theorem copyS {μ0 μ : AMem} (h0 : WF μ0) (hs : Same μ0 μ) {k : IntKind} {e : TypeId} {x : SV} {zs : List Int} (hx : IsRow μ k x zs) {B b n : Nat} (hB : 1 ≤ B) (hb : zs.length * B ≤ 140737488355328) (hbn : b < n) :
    ∃ y μ', (∀ {R : Type} (K : AV → AMem → Option R), appendA e 1 B (μ.next + b) (μ.bump n) (.s .nilSlice) (.s x) K = K (.s y) μ') ∧ Same μ0 μ' ∧ OwnRow μ0.next μ' k e y zs := by
  have hN := hs.next
  obtain ⟨y, μ', g1, g2, g3⟩ := appS (e := e) (B := B) (nid := μ.next + b) h0 (bumpS hs n) (OwnRow.nil μ0.next (μ.bump n) k e) (hx.same (Keep.bump hs.wf n)) hB (by simpa using hb) (by omega) (by simp; omega) (freshB hs.wf n b)
  exact ⟨y, μ', g1, g2, by simpa using g3⟩
theorem copyI {μ0 μ : AMem} (h0 : WF μ0) (hs : Same μ0 μ) {k : IntKind} {e : TypeId} {x : SV} {zs : List Int} (hx : IsRow μ k x zs) {B b n : Nat} (hB : 1 ≤ B) (hb : zs.length * B ≤ 140737488355328) (hbn : b < n) :
    ∃ y μ', (∀ {R : Type} (K : AV → AMem → Option R), appendA e 1 B (μ.next + b) (μ.bump n) (.s .nilSlice) (.s x) K = K (.s y) μ') ∧ Same μ0 μ' ∧ OwnRow μ0.next μ' k e y zs ∧ μ'.next = μ.next + n ∧ ∀ id, isId y id → id = μ.next + b := by
  have hN := hs.next
  obtain ⟨x', μ', g1, g2, g3, g4, g5, g6⟩ := OwnRow.append (B := B) (nid := μ.next + b) (bumpS hs n).wf (OwnRow.nil μ0.next (μ.bump n) k e) (hx.same (Keep.bump hs.wf n)) hB (by simpa using hb) (by omega) (by simp; omega) (freshB hs.wf n b)
  refine ⟨x', μ', g1, ⟨g3, by rw [g4]; exact (bumpS hs n).next, fun id o ho hf => g5.1 id o ((bumpS hs n).old id o ho hf) fun h => h, fun id hi hno => g5.2 id (by omega) ((bumpS hs n).low id hi hno)⟩, by simpa using g2, g4, fun id hid => (g6 id hid).resolve_left fun h => h⟩
def leftZ (g : List Int → Int) (n : Nat) (xs : List Int) : List Int := (List.range' n (xs.length - n)).map fun i => xs.getD i 0 - g (xs.take i)
theorem drop_cons {zs : List Int} {i : Nat} (h : i < zs.length) : zs.drop i = zs.getD i 0 :: zs.drop (i + 1) := by rw [List.drop_eq_getElem_cons h, getD_lt h]
theorem take_map_snoc {zs : List Int} (f : Int → Int) {i : Nat} (h : i < zs.length) : (zs.take (i + 1)).map f = (zs.take i).map f ++ [f (zs.getD i 0)] := by rw [take_snoc h, List.map_append]; rfl
theorem getD_mem {zs : List Int} {i : Nat} (h : i < zs.length) : zs.getD i 0 ∈ zs := by rw [getD_lt h]; exact List.getElem_mem h
theorem take_min {zs : List Int} {i n : Nat} (h : i = min n zs.length) : zs.take i = zs.take n := by
  subst h
  rcases Nat.le_total n zs.length with hl | hl
  · rw [Nat.min_eq_left hl]
  · rw [Nat.min_eq_right hl, List.take_of_length_le (Nat.le_refl _), List.take_of_length_le hl]
end Go.Proofs.YtnjenjbodcihmaaGreat
namespace Go.Proofs.YtnjenjbodcihmaaGreat
open Go Go.Proofs.YtnjenjbodcihmaaGreat.E
set_option linter.unusedVariables false
set_option linter.unusedSimpArgs false
def Apart (x y : SV) : Prop := ∀ id, isId x id → ¬ isId y id
theorem Apart.symm {x y : SV} (h : Apart x y) : Apart y x := fun id h1 h2 => h id h2 h1
theorem apart_nil (y : SV) : Apart .nilSlice y := fun id h _ => h.elim
theorem own_lives {N : Nat} {μ : AMem} {k : IntKind} {e : TypeId} {x : SV} {zs : List Int} (h : OwnRow N μ k e x zs) {id : Nat} (hi : isId x id) : N ≤ id ∧ ∃ o, μ.obj id = some o := by
  rcases h with ⟨rfl, _⟩ | ⟨j, ver, o, rfl, hN, ho, _⟩
  · exact hi.elim
  · have : j = id := hi
    subst this
    exact ⟨hN, o, ho⟩
theorem pushX {μ0 m : AMem} (h0 : WF μ0) (hs : Same μ0 m) {k : IntKind} {e : TypeId} {x : SV} {zs : List Int} (h : OwnRow μ0.next m k e x zs) {B ra rb : Nat} (v : Int) (hB : 1 ≤ B) (hb : (zs.length + 1) * B ≤ 140737488355328)
    (ha0 : μ0.next ≤ ra) (hb0 : μ0.next ≤ rb) (ha : ra < m.next) (hbn : rb < m.next) (hab : ra ≠ rb) (hfa : m.obj ra = none) (hfb : m.obj rb = none) {q : Option Nat} :
    ∃ x' m', (∀ {R : Type} (K : AV → AMem → Option R), appendA e 1 B rb (m.set ra (rowObj [.int k v] 1 e q)) (.s x) (.s (.slice ra 0 0 1)) K = K (.s x') m') ∧ Same μ0 m' ∧ OwnRow μ0.next m' k e x' (zs ++ [v]) ∧ m'.next = m.next ∧
      (∀ id o, m.obj id = some o → ¬ isId x id → m'.obj id = some o) ∧ (∀ id, id ≠ ra → id ≠ rb → m.obj id = none → m'.obj id = none) ∧ (∀ id, isId x' id → isId x id ∨ id = rb) := by
  have hsm : Same μ0 (m.set ra (rowObj [.int k v] 1 e q)) := Keep.setS h0 hs ha0 ha
  have hy : IsRow (m.set ra (rowObj [.int k v] 1 e q)) k (.slice ra 0 0 1) [v] := IsRow.made (o := rowObj [.int k v] 1 e q) (by simp) rfl rfl rfl
  have hne : ∀ id o, m.obj id = some o → id ≠ ra := fun id o ho e => by rw [e, hfa] at ho; cases ho
  have h' : OwnRow μ0.next (m.set ra (rowObj [.int k v] 1 e q)) k e x zs := h.old fun id o ho _ => by rw [set_obj, if_neg (hne id o ho)]; exact ho
  obtain ⟨x', m', g1, g2, g3, g4, g5, g6⟩ := OwnRow.append hsm.wf h' hy hB (by simpa using hb) hb0 (by simp; exact hbn) (by rw [set_obj, if_neg (fun e => hab e.symm)]; exact hfb)
  refine ⟨x', m', g1, ⟨g3, by rw [g4]; exact hs.next, fun id o ho hf => g5.1 id o (hsm.old id o ho hf) (h'.notOld (h0.lt ho)), fun id hi hno => g5.2 id (by omega) (hsm.low id hi hno)⟩, g2, g4, fun id o ho hx => g5.1 id o (by rw [set_obj, if_neg (hne id o ho)]; exact ho) hx, fun id h1 h2 hno => g5.2 id h2 (by rw [set_obj, if_neg h1]; exact hno), g6⟩
theorem other {N : Nat} {m m' : AMem} {k : IntKind} {e : TypeId} {x x' y : SV} {zs : List Int} {rb : Nat} (hy : OwnRow N m k e y zs) (hxy : Apart x y) (hfb : m.obj rb = none)
    (g5 : ∀ id o, m.obj id = some o → ¬ isId x id → m'.obj id = some o) (g6 : ∀ id, isId x' id → isId x id ∨ id = rb) : OwnRow N m' k e y zs ∧ Apart x' y := by
  refine ⟨hy.old fun id o ho hi => g5 id o ho fun hx => hxy id hx hi, fun id h1 h2 => ?_⟩
  rcases g6 id h1 with h3 | h3
  · exact hxy id h3 h2
  · obtain ⟨_, o, ho⟩ := own_lives hy h2
    rw [h3, hfb] at ho; cases ho
end Go.Proofs.YtnjenjbodcihmaaGreat
namespace Go.Proofs.YtnjenjbodcihmaaGreat
open Go Go.Proofs.YtnjenjbodcihmaaGreat.E
set_option linter.unusedVariables false
set_option linter.unusedSimpArgs false
theorem overA_get (cs : List SV) (i : Nat) (v : SV) (h : i < cs.length) (j : Nat) : (overA cs i [v])[j]? = if j = i then some v else cs[j]? := by
  unfold overA
  have htl : (cs.take i).length = i := by simp; omega
  rw [List.append_assoc, List.getElem?_append, htl]
  split
  · rename_i h1
    rw [if_neg (by omega), List.getElem?_take, if_pos h1]
  · rename_i h1
    rw [List.getElem?_append]
    simp only [List.length_cons, List.length_nil]
    split
    · rename_i h2
      have : j = i := by omega
      rw [if_pos this, this, Nat.sub_self]; rfl
    · rename_i h2
      rw [if_neg (by omega), List.getElem?_drop]
      congr 1; omega
theorem storeS {μ0 m : AMem} (h0 : WF μ0) (hs : Same μ0 m) {k : IntKind} {e : TypeId} {x : SV} {zs : List Int} (h : OwnRow μ0.next m k e x zs) {i : Nat} (hi : i < zs.length) (v : Int) :
    ∃ m', (∀ {R : Type} (K : AMem → Option R), storeAt 1 m (plc x (i : Int)) (.s (.int k v)) K = K m') ∧ Same μ0 m' ∧ OwnRow μ0.next m' k e x (zs.set i v) ∧ m'.next = m.next ∧ (∀ id o, m.obj id = some o → ¬ isId x id → m'.obj id = some o) ∧ (∀ id, m.obj id = none → m'.obj id = none) := by
  rcases h with ⟨rfl, rfl⟩ | ⟨id, ver, o, rfl, hN, ho, how, hv, hsz, he, hc⟩
  · simp at hi
  · have hcl := cells_len hc
    have hne : ∀ j p, m.obj j = some p → ¬ isId (.slice id ver 0 zs.length) j → j ≠ id := fun j p _ hh e => hh e.symm
    have hnone : ∀ j, m.obj j = none → j ≠ id := fun j hj e => by rw [e, ho] at hj; cases hj
    refine ⟨m.set id { o with cells := overA o.cells i [.int k v] }, fun K => ?_, ⟨hs.wf.set (hs.wf.lt ho), hs.next, fun j p hp hf => ?_, fun j hj hno => ?_⟩, ?_, rfl, fun j p hp hh => ?_, fun j hj => ?_⟩
    · have hii : (0 + (i : Int).toNat * 1) = i := by omega
      simp only [storeAt, plc, AV.cells, AMem.store, ho, Option.bind_some, hii, List.length_singleton, if_true]
      rw [if_pos ⟨how, hv, by omega⟩, Option.bind_some]
    · have : j ≠ id := by have := h0.lt hp; omega
      rw [set_obj, if_neg this]; exact hs.old j p hp hf
    · have : j ≠ id := by omega
      rw [set_obj, if_neg this]; exact hs.low j hj hno
    · refine .inr ⟨id, ver, { o with cells := overA o.cells i [.int k v] }, by simp, hN, by simp, how, hv, hsz, he, fun j n hj => ?_⟩
      show (overA o.cells i [.int k v])[j]? = _
      rw [overA_get _ _ _ (by omega)]
      rw [List.getElem?_set] at hj
      split at hj
      · rename_i hij
        rw [if_pos hij.symm]
        cases hj; rfl
      · rename_i hij
        rw [if_neg (fun e => hij e.symm)]; exact hc j n hj
    · rw [set_obj, if_neg (hne j p hp hh)]; exact hp
    · rw [set_obj, if_neg (hnone j hj)]; exact hj
theorem rowOther {m m' : AMem} {k : IntKind} {x y : SV} {zs : List Int} (hy : IsRow m k y zs) (hxy : Apart x y) (g : ∀ id o, m.obj id = some o → ¬ isId x id → m'.obj id = some o) : IsRow m' k y zs := by
  rcases hy with ⟨rfl, rfl⟩ | ⟨id, ver, off, o, rfl, ho, r⟩
  · exact .inl ⟨rfl, rfl⟩
  · exact .inr ⟨id, ver, off, o, rfl, g id o ho fun h => hxy id h rfl, r⟩
theorem row_lives {m : AMem} {k : IntKind} {y : SV} {zs : List Int} (hy : IsRow m k y zs) {id : Nat} (h : isId y id) : ∃ o, m.obj id = some o := by
  rcases hy with ⟨rfl, _⟩ | ⟨j, ver, off, o, rfl, ho, r⟩
  · exact h.elim
  · have : j = id := h
    exact ⟨o, this ▸ ho⟩
theorem apart_old {μ0 m : AMem} (h0 : WF μ0) {k k' : IntKind} {e : TypeId} {x y : SV} {zs ws : List Int} (hx : OwnRow μ0.next m k e x zs) (hy : IsRow μ0 k' y ws) : Apart x y := fun id h1 h2 => by
  obtain ⟨o, ho⟩ := row_lives hy h2
  have := h0.lt ho
  have := (own_lives hx h1).1
  omega
theorem storeK {N : Nat} {m : AMem} (hw : WF m) {k : IntKind} {e : TypeId} {x : SV} {zs : List Int} (h : OwnRow N m k e x zs) {i : Nat} (hi : i < zs.length) (v : Int) :
    ∃ m', (∀ {R : Type} (K : AMem → Option R), storeAt 1 m (plc x (i : Int)) (.s (.int k v)) K = K m') ∧ Keep (isId x) m m' ∧ OwnRow N m' k e x (zs.set i v) ∧ m'.next = m.next := by
  rcases h with ⟨rfl, rfl⟩ | ⟨id, ver, o, rfl, hN, ho, how, hv, hsz, he, hc⟩
  · simp at hi
  · have hcl := cells_len hc
    refine ⟨m.set id { o with cells := overA o.cells i [.int k v] }, fun K => ?_, Keep.set hw ho rfl, ?_, rfl⟩
    · have hii : (0 + (i : Int).toNat * 1) = i := by omega
      simp only [storeAt, plc, AV.cells, AMem.store, ho, Option.bind_some, hii, List.length_singleton, if_true]
      rw [if_pos ⟨how, hv, by omega⟩, Option.bind_some]
    · refine .inr ⟨id, ver, { o with cells := overA o.cells i [.int k v] }, by simp, hN, by simp, how, hv, hsz, he, fun j n hj => ?_⟩
      show (overA o.cells i [.int k v])[j]? = _
      rw [overA_get _ _ _ (by omega)]
      rw [List.getElem?_set] at hj
      split at hj
      · rename_i hij
        rw [if_pos hij.symm]
        cases hj; rfl
      · rename_i hij
        rw [if_neg (fun e => hij e.symm)]; exact hc j n hj
theorem pushK {N : Nat} {μ : AMem} (hw : WF μ) {k : IntKind} {e : TypeId} {x : SV} {zs : List Int} (h : OwnRow N μ k e x zs) {B a b n : Nat} (v : Int) (hB : 1 ≤ B) (hb : (zs.length + 1) * B ≤ 140737488355328) (hN : N ≤ μ.next) (ha : a < n) (hbn : b < n) (hab : a ≠ b) {q : Option Nat} :
    ∃ x' μ', (∀ {R : Type} (K : AV → AMem → Option R), appendA e 1 B (μ.next + b) ((μ.bump n).set (μ.next + a) (rowObj [.int k v] 1 e q)) (.s x) (.s (.slice (μ.next + a) 0 0 1)) K = K (.s x') μ') ∧ Keep (isId x) μ μ' ∧ OwnRow N μ' k e x' (zs ++ [v]) ∧ ∀ j, isId x' j → isId x j ∨ μ.next ≤ j := by
  obtain ⟨x', μ', p1, p2, p3, p4, p5, p6⟩ := OwnRow.push (B := B) (a := a) (b := b) (n := n) (q := q) hw h v hB hb hN ha hbn hab
  exact ⟨x', μ', p1, ⟨p3, p4, p5.1, p5.2⟩, p2, p6⟩
theorem E.Keep.weak0 {S T : Nat → Prop} {μ μ' : AMem} (h : Keep S μ μ') (hST : ∀ j, S j → T j) : Keep T μ μ' := ⟨h.wf, h.next, fun id o ho hf => h.old id o ho fun hs => hf (hST id hs), h.low⟩
theorem keepSame {μ0 m m' : AMem} {S : Nat → Prop} (h0 : WF μ0) (hs : Same μ0 m) (hk : Keep S m m') (hS : ∀ j, S j → μ0.next ≤ j) : Same μ0 m' :=
  ⟨hk.wf, Nat.le_trans hs.next hk.next, fun id o ho hf => hk.old id o (hs.old id o ho hf) fun h => by have := hS id h; have := h0.lt ho; omega, fun id hi hn => hk.low id (Nat.lt_of_lt_of_le hi hs.next) (hs.low id hi hn)⟩
theorem rowKeep {m m' : AMem} {S : Nat → Prop} {k : IntKind} {y : SV} {zs : List Int} (hy : IsRow m k y zs) (hk : Keep S m m') (hS : ∀ j, S j → ¬ isId y j) : IsRow m' k y zs := by
  rcases hy with ⟨rfl, rfl⟩ | ⟨id, ver, off, o, rfl, ho, r⟩
  · exact .inl ⟨rfl, rfl⟩
  · exact .inr ⟨id, ver, off, o, rfl, hk.old id o ho fun h => hS id h rfl, r⟩
theorem ownKeep {N : Nat} {m m' : AMem} {S : Nat → Prop} {k : IntKind} {e : TypeId} {y : SV} {zs : List Int} (hy : OwnRow N m k e y zs) (hk : Keep S m m') (hS : ∀ j, S j → ¬ isId y j) : OwnRow N m' k e y zs :=
  hy.old fun id o ho hi => hk.old id o ho fun h => hS id h hi
end Go.Proofs.YtnjenjbodcihmaaGreat
namespace Go.Proofs.YtnjenjbodcihmaaGreat
open Go Go.Proofs.YtnjenjbodcihmaaGreat.E
set_option linter.unusedVariables false
set_option linter.unusedSimpArgs false
def polyB : BitVec 32 := 79764919#32
def stepB (s : BitVec 32) : BitVec 32 := if s.msb then (s <<< 1) ^^^ polyB else s <<< 1
def stepsB : Nat → BitVec 32 → BitVec 32
  | 0, s => s
  | n + 1, s => stepsB n (stepB s)
def tabB (i : Nat) : BitVec 32 := stepsB 8 (BitVec.ofNat 32 i <<< 24)
def idxB (s : BitVec 32) (c : Int) : Nat := ((s >>> 24).setWidth 8 ^^^ BitVec.ofInt 8 c).toNat
def addB (s : BitVec 32) (c : Int) : BitVec 32 := (s <<< 8) ^^^ tabB (idxB s c)
def sumB (bs : List Int) : BitVec 32 := bs.foldl addB 4294967295#32
def V (s : BitVec 32) : Int := (s.toNat : Int)
theorem V_lt (s : BitVec 32) : 0 ≤ V s ∧ V s < 4294967296 := by
  have := s.isLt
  unfold V; omega
theorem cu32 (n : Int) : IntKind.wrap .u32 n = n % 4294967296 := by simp [IntKind.wrap, IntKind.signed, IntKind.bits]
theorem cu8 (n : Int) : IntKind.wrap .u8 n = n % 256 := by simp [IntKind.wrap, IntKind.signed, IntKind.bits]
theorem ofV (s : BitVec 32) : BitVec.ofInt (IntKind.bits .u32) (V s) = s := by
  show BitVec.ofInt 32 (V s) = s
  unfold V
  rw [BitVec.ofInt_natCast, BitVec.ofNat_toNat, BitVec.setWidth_eq]
theorem V_xor (x y : BitVec 32) : IntKind.wrap .u32 (BitVec.toNat ((BitVec.ofInt (IntKind.bits .u32) (V x)) ^^^ (BitVec.ofInt (IntKind.bits .u32) (V y)))) = V (x ^^^ y) := by
  rw [ofV, ofV, cu32]
  have : (x ^^^ y).toNat < 2 ^ 32 := (x ^^^ y).isLt
  unfold V
  exact Int.emod_eq_of_lt (Int.natCast_nonneg _) (by show ((x ^^^ y).toNat : Int) < 4294967296; omega)
theorem V_shl (s : BitVec 32) (n : Nat) : IntKind.wrap .u32 (V s * 2 ^ n) = V (s <<< n) := by
  rw [cu32]
  unfold V
  rw [BitVec.toNat_shiftLeft, Nat.shiftLeft_eq]
  simp
theorem V_top (s : BitVec 32) : (Int.fdiv (V s) (2 ^ (31 : Nat)) == 1) = s.msb := by
  have hl := s.isLt
  have e : Int.fdiv (V s) (2 ^ (31 : Nat)) = V s / 2147483648 := Int.fdiv_eq_ediv_of_nonneg _ (by omega)
  rw [e, BitVec.msb_eq_decide]
  unfold V
  by_cases h : 2 ^ (32 - 1) ≤ s.toNat
  · rw [decide_eq_true h, beq_iff_eq]; omega
  · rw [decide_eq_false h, beq_eq_false_iff_ne]; omega
theorem V_byte (s : BitVec 32) : BitVec.ofInt (IntKind.bits .u8) (IntKind.wrap .u8 (Int.fdiv (V s) (2 ^ (24 : Nat)))) = (s >>> 24).setWidth 8 := by
  show BitVec.ofInt 8 (IntKind.wrap .u8 (Int.fdiv (V s) (2 ^ (24 : Nat)))) = _
  have hl := s.isLt
  have e : Int.fdiv (V s) (2 ^ (24 : Nat)) = V s / 16777216 := Int.fdiv_eq_ediv_of_nonneg _ (by omega)
  rw [e, cu8]
  apply BitVec.eq_of_toNat_eq
  rw [BitVec.toNat_setWidth, BitVec.toNat_ushiftRight, Nat.shiftRight_eq_div_pow, BitVec.toNat_ofInt]
  unfold V
  omega
theorem idx_is (s : BitVec 32) (c : Int) : IntKind.wrap .u8 (BitVec.toNat ((BitVec.ofInt (IntKind.bits .u8) (IntKind.wrap .u8 (Int.fdiv (V s) (2 ^ (24 : Nat))))) ^^^ (BitVec.ofInt (IntKind.bits .u8) c))) = (idxB s c : Int) := by
  rw [V_byte, cu8]
  have : idxB s c < 2 ^ 8 := BitVec.isLt _
  unfold idxB at *
  exact Int.emod_eq_of_lt (by omega) (by simp only [IntKind.bits] at *; omega)
theorem idx_lt (s : BitVec 32) (c : Int) : idxB s c < 256 := BitVec.isLt _
theorem step_loop (μ : AMem) : ∀ (k i : Nat) (s : BitVec 32), i + k = 8 → crc_step_L1 [] [.s (.int .u32 (V s)), .s (.int .i64 (i : Int))] μ = some (.exit 0, [.s (.int .u32 (V (stepsB k s)))], μ)
  | 0, i, s, h => by
    obtain rfl : i = 8 := by omega
    rw [crc_step_L1_eq, crc_step_L1_B_eq]
    simp -implicitDefEqProofs only [lt_f (show (8 : Int) ≤ ((8 : Nat) : Int) by omega), ss]
    rfl
  | k + 1, i, s, h => by
    have ih := step_loop μ k (i + 1) (stepB s) (by omega)
    have ei : IntKind.wrap .i64 ((i : Int) + 1) = ((i + 1 : Nat) : Int) := by rw [wr (by omega)]; rfl
    have hp : (79764919 : Int) = V polyB := rfl
    have h1 := V_shl s 1
    rw [crc_step_L1_eq, crc_step_L1_B_eq, V_top]
    cases hm : s.msb
    · have : stepB s = s <<< 1 := by unfold stepB; rw [hm]; rfl
      rw [this] at ih
      simp -implicitDefEqProofs only [lt_t (show (i : Int) < 8 by omega), h1, ei, ss]
      unfold stepsB; rw [this]
      exact ih
    · have : stepB s = (s <<< 1) ^^^ polyB := by unfold stepB; rw [hm]; rfl
      rw [this] at ih
      simp -implicitDefEqProofs only [lt_t (show (i : Int) < 8 by omega), h1, hp, V_xor, ei, ss]
      unfold stepsB; rw [this]
      exact ih
theorem step_is (μ : AMem) (s : BitVec 32) : crc_step [.s (.int .u32 (V s))] μ = some (.s (.int .u32 (V (stepsB 8 s))), μ) := by
  have e := step_loop μ 8 0 s rfl
  rw [n0] at e
  rw [crc_step_eq]
  simp -implicitDefEqProofs only [e, Nat.beq_refl, ss]
def tcells (h : List SV) (n : Nat) : List SV := h ++ (List.range 256).map fun i => SV.int .u32 (if i < n then V (tabB i) else 0)
structure Tb (μ : AMem) (tid : Nat) (h : List SV) (n : Nat) : Prop where
  ex : ∃ o, μ.obj tid = some o ∧ o.own = true ∧ o.ver = 0 ∧ o.cells = tcells h n
  hl : h.length = 4
theorem tcells_len {h : List SV} {n : Nat} (hl : h.length = 4) : (tcells h n).length = 260 := by simp [tcells, hl]
theorem tb_store {μ : AMem} (hw : WF μ) {tid : Nat} {h h' : List SV} {n n' : Nat} (ht : Tb μ tid h n) {j : Nat} {v : SV} (hj : j < 260) (he : overA (tcells h n) j [v] = tcells h' n') (hl' : h'.length = 4) :
    ∃ μ', μ.store tid 0 j [v] = some μ' ∧ Keep (· = tid) μ μ' ∧ Tb μ' tid h' n' := by
  obtain ⟨⟨o, ho, hown, hver, hc⟩, hl⟩ := ht
  refine ⟨μ.set tid { o with cells := overA o.cells j [v] }, ?_, Keep.set hw ho rfl, ⟨⟨_, set_self _ _ _, hown, hver, by rw [hc]; exact he⟩, hl'⟩⟩
  unfold AMem.store
  rw [ho, Option.bind_some, if_pos ⟨hown, hver, by rw [hc, tcells_len hl]; simp; omega⟩]
theorem tb_cell {μ : AMem} {tid : Nat} {h : List SV} {n : Nat} (ht : Tb μ tid h n) (j : Nat) : μ.cell tid 0 j = (tcells h n)[j]? := by
  obtain ⟨⟨o, ho, hown, hver, hc⟩, hl⟩ := ht
  simp only [AMem.cell, ho, Option.bind_some, hver, if_true, hc]
theorem tcell_at {h : List SV} {n : Nat} (hl : h.length = 4) {i : Nat} (hi : i < 256) : (tcells h n)[4 + i]? = some (.int .u32 (if i < n then V (tabB i) else 0)) := by
  unfold tcells
  rw [List.getElem?_append_right (by omega), hl, Nat.add_sub_cancel_left, List.getElem?_map, List.getElem?_range hi]
  rfl
theorem tcells_next {h : List SV} (hl : h.length = 4) {n : Nat} (hn : n < 256) : overA (tcells h n) (4 + n) [.int .u32 (V (tabB n))] = tcells h (n + 1) := by
  apply List.ext_getElem?
  intro j
  rw [overA_get _ _ _ (by rw [tcells_len hl]; omega)]
  by_cases h1 : j = 4 + n
  · subst h1
    rw [if_pos rfl, tcell_at hl hn, if_pos (by omega)]
  · rw [if_neg h1]
    by_cases h2 : j < 4
    · unfold tcells
      rw [List.getElem?_append_left (by omega), List.getElem?_append_left (by omega)]
    · by_cases h3 : j < 260
      · obtain ⟨i, rfl⟩ : ∃ i, j = 4 + i := ⟨j - 4, by omega⟩
        rw [tcell_at hl (by omega), tcell_at hl (by omega)]
        by_cases h4 : i < n
        · rw [if_pos h4, if_pos (by omega)]
        · rw [if_neg h4, if_neg (by omega)]
      · rw [List.getElem?_eq_none (by rw [tcells_len hl]; omega), List.getElem?_eq_none (by rw [tcells_len hl]; omega)]
theorem tcells_head (a b c d v : SV) (n : Nat) : overA (tcells [a, b, c, d] n) 0 [v] = tcells [v, b, c, d] n ∧ overA (tcells [a, b, c, d] n) 1 [v] = tcells [a, v, c, d] n ∧ overA (tcells [a, b, c, d] n) 3 [v] = tcells [a, b, c, v] n := ⟨rfl, rfl, rfl⟩
theorem ofN_V (i : Nat) (h : i < 256) : IntKind.wrap .u32 ((IntKind.wrap .u32 (i : Int)) * 2 ^ (24 : Nat)) = V (BitVec.ofNat 32 i <<< 24) := by
  have : IntKind.wrap .u32 (i : Int) = V (BitVec.ofNat 32 i) := by
    rw [cu32]; unfold V
    rw [BitVec.toNat_ofNat]
    omega
  rw [this, V_shl]
theorem fill_loop {tid : Nat} {h : List SV} : ∀ (k i : Nat) (μ : AMem), i + k = 256 → WF μ → Tb μ tid h i →
    ∃ μ', crc_Table_fill_L1 [.s (.ptr tid 0 0)] [.s (.int .i64 (i : Int))] μ = some (.exit 0, [.s (.ptr tid 0 0)], μ') ∧ Keep (· = tid) μ μ' ∧ Tb μ' tid h 256
  | 0, i, μ, hi, hw, ht => by
    obtain rfl : i = 256 := by omega
    refine ⟨μ, ?_, Keep.refl hw, ht⟩
    rw [crc_Table_fill_L1_eq, crc_Table_fill_L1_B_eq]
    simp -implicitDefEqProofs only [lt_f (show (256 : Int) ≤ ((256 : Nat) : Int) by omega), ss]
  | k + 1, i, μ, hi, hw, ht => by
    have ei : IntKind.wrap .i64 ((i : Int) + 1) = ((i + 1 : Nat) : Int) := by rw [wr (by omega)]; rfl
    have e1 := step_is μ (BitVec.ofNat 32 i <<< 24)
    obtain ⟨m, e2, k2, t2⟩ := tb_store hw ht (j := 4 + i) (by omega) (tcells_next ht.hl (by omega)) ht.hl
    have hoff : (0 + 4) + Int.toNat (i : Int) * 1 = 4 + i := by simp
    have et : V (stepsB 8 (BitVec.ofNat 32 i <<< 24)) = V (tabB i) := rfl
    obtain ⟨m2, q1, q2, q3⟩ := fill_loop k (i + 1) m (by omega) k2.wf t2
    refine ⟨m2, ?_, k2.trans q2, q3⟩
    rw [crc_Table_fill_L1_eq, crc_Table_fill_L1_B_eq]
    simp -implicitDefEqProofs only [lt_t (show (i : Int) < 256 by omega), ofN_V i (by omega), e1, ss]
    rw [if_pos (by omega), hoff, et, e2]
    simp -implicitDefEqProofs only [ei, ss]
    exact q1
theorem fill_is {μ : AMem} (hw : WF μ) {tid : Nat} {a b c d : SV} (ht : Tb μ tid [a, b, c, d] 0) :
    ∃ μ', crc_Table_fill [.s (.ptr tid 0 0)] μ = some (.tuple [], μ') ∧ Keep (· = tid) μ μ' ∧ Tb μ' tid [a, b, c, .bool true] 256 := by
  obtain ⟨m, e1, k1, t1⟩ := fill_loop 256 0 μ rfl hw ht
  rw [n0] at e1
  obtain ⟨m2, e2, k2, t2⟩ := tb_store k1.wf t1 (j := 3) (v := .bool true) (by omega) (tcells_head a b c d (.bool true) 256).2.2 rfl
  refine ⟨m2, ?_, k1.trans k2, t2⟩
  rw [crc_Table_fill_eq]
  simp -implicitDefEqProofs only [e1, Nat.beq_refl, nonNil_ptr, ptrAdd_p, storeAt, AV.cells, List.length_singleton, if_true, Nat.zero_add, e2, ss]
def Tq (μ : AMem) (tid : Nat) : Bool → Prop
  | false => Tb μ tid [.int .u32 0, .int .i32 0, .int .u32 0, .bool false] 0
  | true => Tb μ tid [.int .u32 1, .int .i32 0, .int .u32 0, .bool true] 256
theorem once_is {μ : AMem} (hw : WF μ) {tid : Nat} {b : Bool} (ht : Tq μ tid b) :
    ∃ μ', sync_Once_Do [.s (.ptr tid 0 0), .s (.bound 108 tid 0 0)] μ = some (.tuple [], μ') ∧ Keep (· = tid) μ μ' ∧ Tq μ' tid true := by
  cases b with
  | true =>
    refine ⟨μ, ?_, Keep.refl hw, ht⟩
    have c0 : μ.cell tid 0 0 = some (.int .u32 1) := tb_cell ht 0
    unfold sync_Once_Do onceF
    simp only [c0, Option.bind_some]
    rw [if_neg (by omega)]
  | false =>
    have c0 : μ.cell tid 0 0 = some (.int .u32 0) := tb_cell ht 0
    have c1 : μ.cell tid 0 (0 + 1) = some (.int .i32 0) := tb_cell ht 1
    obtain ⟨m1, e1, k1, t1⟩ := tb_store hw ht (j := 0 + 1) (v := .int .i32 1) (by omega) (tcells_head _ _ _ _ _ _).2.1 rfl
    obtain ⟨m2, e2, k2, t2⟩ := fill_is k1.wf t1
    have d0 : m2.cell tid 0 0 = some (.int .u32 0) := tb_cell t2 0
    have d1 : m2.cell tid 0 (0 + 1) = some (.int .i32 1) := tb_cell t2 1
    obtain ⟨m3, e3, k3, t3⟩ := tb_store k2.wf t2 (j := 0) (v := .int .u32 1) (by omega) (tcells_head _ _ _ _ _ _).1 rfl
    obtain ⟨m4, e4, k4, t4⟩ := tb_store k3.wf t3 (j := 0 + 1) (v := .int .i32 0) (by omega) (tcells_head _ _ _ _ _ _).2.1 rfl
    refine ⟨m4, ?_, k1.trans (k2.trans (k3.trans k4)), t4⟩
    unfold sync_Once_Do onceF
    simp only [c0, Option.bind_some, if_true, c1, e1, callV, G107_108, e2, d0, d1, e3, e4]
theorem add_loop {μ : AMem} {tid : Nat} {h : List SV} (ht : Tb μ tid h 256) {y : SV} {bs : List Int} (hy : IsRow μ .u8 y bs) (hl : bs.length ≤ 1000000) :
    ∀ (k i : Nat) (s : BitVec 32), i + k = bs.length → crc_Table_Add_L1 [.s (.ptr tid 0 0), .s y, .s (.int .i64 (bs.length : Int))] [.s (.int .u32 (V s)), .s (.int .i64 (i : Int))] μ = some (.exit 0, [.s (.int .u32 (V ((bs.drop i).foldl addB s)))], μ)
  | 0, i, s, hi => by
    obtain rfl : i = bs.length := by omega
    rw [crc_Table_Add_L1_eq, crc_Table_Add_L1_B_eq, List.drop_eq_nil_of_le (Nat.le_refl _)]
    simp -implicitDefEqProofs only [lt_f (Int.le_refl (bs.length : Int)), ss]
    rfl
  | k + 1, i, s, hi => by
    have hil : i < bs.length := by omega
    have ei : IntKind.wrap .i64 ((i : Int) + 1) = ((i + 1 : Nat) : Int) := by rw [wr (by omega)]; rfl
    have g1 := fun {R : Type} (K : AV → Option R) => hy.ind (i := (i : Int)) (by omega) (by omega) K
    have l1 := fun {R : Type} (K : AV → Option R) => hy.load (i := (i : Int)) (by omega) (by omega) K
    have hx := idx_lt s (bs.getD i 0)
    have ec : μ.cell tid 0 ((0 + 4) + Int.toNat (idxB s (bs.getD i 0) : Int) * 1) = some (.int .u32 (V (tabB (idxB s (bs.getD i 0))))) := by
      rw [show (0 + 4) + Int.toNat (idxB s (bs.getD i 0) : Int) * 1 = 4 + idxB s (bs.getD i 0) by simp, tb_cell ht, tcell_at ht.hl hx, if_pos hx]
    have ih := add_loop ht hy hl k (i + 1) (addB s (bs.getD i 0)) (by omega)
    rw [crc_Table_Add_L1_eq, crc_Table_Add_L1_B_eq, drop_cons hil, List.foldl_cons]
    simp -implicitDefEqProofs only [lt_t (show (i : Int) < (bs.length : Int) by omega), g1, l1, nat_toNat, idx_is, ss]
    rw [if_pos (by omega)]
    rw [show (0 + 4) + idxB s (bs.getD i 0) * 1 = 4 + idxB s (bs.getD i 0) by simp]
    rw [show (0 + 4) + Int.toNat (idxB s (bs.getD i 0) : Int) * 1 = 4 + idxB s (bs.getD i 0) by simp] at ec
    simp -implicitDefEqProofs only [ec, V_shl, V_xor, ei, ss]
    exact ih
theorem sum_is {μ : AMem} (hw : WF μ) {tid : Nat} {b : Bool} (ht : Tq μ tid b) {y : SV} {bs : List Int} (hy : IsRow μ .u8 y bs) (hyt : ¬ isId y tid) (h1 : 1 ≤ bs.length) (hl : bs.length ≤ 1000000) :
    ∃ μ', crc_Table_Sum [.s (.ptr tid 0 0), .s y] μ = some (.s (.int .u32 (V (sumB bs))), μ') ∧ Keep (· = tid) μ μ' ∧ Tq μ' tid true := by
  obtain ⟨m, e1, k1, t1⟩ := once_is hw ht
  have hy1 := rowKeep hy k1 fun j hj => by rw [hj]; exact hyt
  have e2 := add_loop t1 hy1 hl bs.length 0 4294967295#32 (Nat.zero_add _)
  rw [n0, List.drop_zero] at e2
  refine ⟨m, ?_, k1, t1⟩
  have hV : (4294967295 : Int) = V 4294967295#32 := rfl
  rw [crc_Table_Sum_eq, crc_Table_Add_eq, hy.len]
  rw [hV]
  simp -implicitDefEqProofs only [gt_t (show (0 : Int) < (bs.length : Int) by omega), Nat.add_zero, e1, e2, Nat.beq_refl, ss]
  rfl
end Go.Proofs.YtnjenjbodcihmaaGreat
namespace Go.Proofs.YtnjenjbodcihmaaGreat
open Go Go.Proofs.YtnjenjbodcihmaaGreat.E
set_option linter.unusedVariables false
set_option linter.unusedSimpArgs false
theorem keepNew {H S : Nat → Prop} {μ m m' : AMem} (hw : WF μ) (h : Keep H μ m) (k : Keep S m m') (hS : ∀ j, S j → H j ∨ μ.next ≤ j) : Keep H μ m' :=
  ⟨k.wf, Nat.le_trans h.next k.next, fun id o ho hs => k.old id o (h.old id o ho hs) fun h1 => by
    rcases hS id h1 with h2 | h2
    · exact hs h2
    · have := hw.lt ho; omega, fun id hi hn => k.low id (Nat.lt_of_lt_of_le hi h.next) (h.low id hi hn)⟩
theorem E.Keep.any {S : Nat → Prop} {μ μ' : AMem} (h : Keep (fun _ => False) μ μ') : Keep S μ μ' := h.weak0 fun _ h => h.elim
theorem copyK {N : Nat} {μ : AMem} (hw : WF μ) {k : IntKind} {e : TypeId} {x y : SV} {zs ws : List Int} (h : OwnRow N μ k e x zs) (hy : IsRow μ k y ws) (hl : ws.length ≤ zs.length) :
    ∃ μ', (∀ {R : Type} (K : AV → AMem → Option R), copyA 1 μ (.s x) (.s y) K = K (.s (.int .i64 (ws.length : Nat))) μ') ∧ Keep (isId x) μ μ' ∧ OwnRow N μ' k e x (ws ++ zs.drop ws.length) ∧ μ'.next = μ.next := by
  obtain ⟨y1, y2⟩ := row_cells hy
  have x1 := h.row.len
  by_cases h0 : ws.length = 0
  · obtain rfl := List.eq_nil_of_length_eq_zero h0
    refine ⟨μ, fun K => ?_, Keep.refl hw, by simpa using h, rfl⟩
    unfold copyA
    rw [x1, y1]
    simp
  · rcases h with ⟨rfl, rfl⟩ | ⟨id, ver, o, rfl, hN, ho, how, hv, hsz, he, hc⟩
    · have : ws.length ≤ 0 := hl
      omega
    · have hcl := cells_len hc
      refine ⟨μ.set id { o with cells := overA o.cells 0 (ws.map (.int k)) }, fun K => ?_, Keep.set hw ho rfl, ?_, rfl⟩
      · unfold copyA
        have hm : min ws.length zs.length = ws.length := by omega
        rw [x1, y1]
        simp only [Option.bind_some, hm, if_neg h0, y2, AMem.store, ho]
        rw [if_pos ⟨how, hv, by simp; omega⟩, Option.bind_some]
      · refine .inr ⟨id, ver, { o with cells := overA o.cells 0 (ws.map (.int k)) }, by simp; omega, hN, by simp, how, hv, hsz, he, fun j n hj => ?_⟩
        show (overA o.cells 0 (ws.map (.int k)))[j]? = _
        unfold overA
        rw [List.take_zero, List.nil_append, List.length_map, Nat.zero_add]
        rw [List.getElem?_append] at hj ⊢
        rw [List.length_map]
        split at hj
        · rename_i hjl
          rw [if_pos hjl, List.getElem?_map, hj]; rfl
        · rename_i hjl
          rw [if_neg hjl]
          rw [List.getElem?_drop] at hj ⊢
          exact hc _ n hj
end Go.Proofs.YtnjenjbodcihmaaGreat
namespace Go.Proofs.YtnjenjbodcihmaaGreat
open Go Go.Proofs.YtnjenjbodcihmaaGreat.E
set_option linter.unusedVariables false
set_option linter.unusedSimpArgs false
structure Cd (N : Nat) (μ : AMem) (p tid : Nat) (b : Bool) (s o : Int) : Prop where
  lowp : N ≤ p
  lowt : N ≤ tid
  ne : p ≠ tid
  ex : ∃ ob, μ.obj p = some ob ∧ ob.own = true ∧ ob.ver = 0 ∧ ob.cells = [.ptr tid 0 0, .int .i64 s, .int .i64 o]
  tab : Tq μ tid b
def cf (p tid : Nat) : Nat → Prop := fun j => j = p ∨ j = tid
theorem Tq.lives {μ : AMem} {tid : Nat} {b : Bool} (h : Tq μ tid b) : ∃ o, μ.obj tid = some o := by
  cases b
  · obtain ⟨⟨o, ho, _⟩, _⟩ := h; exact ⟨o, ho⟩
  · obtain ⟨⟨o, ho, _⟩, _⟩ := h; exact ⟨o, ho⟩
theorem Tq.keep {S : Nat → Prop} {μ μ' : AMem} {tid : Nat} {b : Bool} (h : Tq μ tid b) (hk : Keep S μ μ') (hS : ¬ S tid) : Tq μ' tid b := by
  cases b
  · obtain ⟨⟨o, ho, r⟩, hl⟩ := h; exact ⟨⟨o, hk.old _ _ ho hS, r⟩, hl⟩
  · obtain ⟨⟨o, ho, r⟩, hl⟩ := h; exact ⟨⟨o, hk.old _ _ ho hS, r⟩, hl⟩
section
variable {N : Nat} {μ μ' : AMem} {p tid : Nat} {b : Bool} {s o : Int}
theorem Cd.keep {S : Nat → Prop} (h : Cd N μ p tid b s o) (hk : Keep S μ μ') (h1 : ¬ S p) (h2 : ¬ S tid) : Cd N μ' p tid b s o := by
  obtain ⟨ob, ho, r⟩ := h.ex
  exact ⟨h.lowp, h.lowt, h.ne, ⟨ob, hk.old _ _ ho h1, r⟩, h.tab.keep hk h2⟩
theorem Cd.old (h : Cd N μ p tid b s o) (h1 : ∀ ob, μ.obj p = some ob → μ'.obj p = some ob) (h2 : ∀ ob, μ.obj tid = some ob → μ'.obj tid = some ob) : Cd N μ' p tid b s o := by
  obtain ⟨ob, ho, r⟩ := h.ex
  refine ⟨h.lowp, h.lowt, h.ne, ⟨ob, h1 _ ho, r⟩, ?_⟩
  have ht := h.tab
  cases b
  · obtain ⟨⟨o, ho, r⟩, hl⟩ := ht; exact ⟨⟨o, h2 _ ho, r⟩, hl⟩
  · obtain ⟨⟨o, ho, r⟩, hl⟩ := ht; exact ⟨⟨o, h2 _ ho, r⟩, hl⟩
theorem Cd.same (h : Cd N μ p tid b s o) (hk : Same μ μ') : Cd N μ' p tid b s o := h.keep hk (fun h => h) fun h => h
theorem Cd.lt (h : Cd N μ p tid b s o) (hw : WF μ) : p < μ.next ∧ tid < μ.next := by
  obtain ⟨ob, ho, r⟩ := h.ex
  obtain ⟨ot, ht⟩ := h.tab.lives
  exact ⟨hw.lt ho, hw.lt ht⟩
theorem Cd.less {M : Nat} (h : Cd N μ p tid b s o) (hM : M ≤ N) : Cd M μ p tid b s o := ⟨Nat.le_trans hM h.lowp, Nat.le_trans hM h.lowt, h.ne, h.ex, h.tab⟩
theorem Cd.cell (h : Cd N μ p tid b s o) : μ.cell p 0 (0 + 0) = some (.ptr tid 0 0) ∧ μ.cell p 0 (0 + 1) = some (.int .i64 s) ∧ μ.cell p 0 (0 + 2) = some (.int .i64 o) := by
  obtain ⟨ob, ho, how, hv, hc⟩ := h.ex
  simp [AMem.cell, ho, hv, hc]
theorem Cd.put (hw : WF μ) (h : Cd N μ p tid b s o) (s' o' : Int) : ∃ ob, μ.obj p = some ob ∧ Keep (cf p tid) μ (μ.set p { ob with cells := [.ptr tid 0 0, .int .i64 s', .int .i64 o'] }) ∧ Cd N (μ.set p { ob with cells := [.ptr tid 0 0, .int .i64 s', .int .i64 o'] }) p tid b s' o' := by
  obtain ⟨ob, ho, how, hv, hc⟩ := h.ex
  have k : Keep (fun j => j = p) μ (μ.set p { ob with cells := [.ptr tid 0 0, .int .i64 s', .int .i64 o'] }) := Keep.set hw ho rfl
  exact ⟨ob, ho, k.weak0 fun j hj => .inl hj, h.lowp, h.lowt, h.ne, ⟨_, set_self _ _ _, how, hv, rfl⟩, h.tab.keep k fun e => h.ne e.symm⟩
theorem addS_is (hw : WF μ) (h : Cd N μ p tid b s o) (hs : 0 ≤ s ∧ s ≤ 1000000) : ∃ μ', atomic_Int64_Add [.s (.ptr p 0 (0 + 1)), .s (.int .i64 1)] μ = some (.s (.int .i64 (s + 1)), μ') ∧ Keep (cf p tid) μ μ' ∧ Cd N μ' p tid b (s + 1) o ∧ μ'.next = μ.next := by
  obtain ⟨ob, ho, k, c⟩ := h.put hw (s + 1) o
  refine ⟨_, ?_, k, c, rfl⟩
  have e := h.cell.2.1
  obtain ⟨ob', ho', how, hv, hc⟩ := h.ex
  rw [ho] at ho'
  obtain rfl := Option.some.inj ho'
  have w1 : IntKind.wrap .i64 (s + 1) = s + 1 := wr (by omega)
  unfold atomic_Int64_Add addI64F
  simp only [e, Option.bind_some, w1, AMem.store, ho]
  rw [if_pos ⟨how, hv, by simp [hc]⟩, hc]
  rfl
theorem addO_is (hw : WF μ) (h : Cd N μ p tid b s o) (hs : 0 ≤ o ∧ o ≤ 1000000) : ∃ μ', atomic_Int64_Add [.s (.ptr p 0 (0 + 2)), .s (.int .i64 1)] μ = some (.s (.int .i64 (o + 1)), μ') ∧ Keep (cf p tid) μ μ' ∧ Cd N μ' p tid b s (o + 1) ∧ μ'.next = μ.next := by
  obtain ⟨ob, ho, k, c⟩ := h.put hw s (o + 1)
  refine ⟨_, ?_, k, c, rfl⟩
  have e := h.cell.2.2
  obtain ⟨ob', ho', how, hv, hc⟩ := h.ex
  rw [ho] at ho'
  obtain rfl := Option.some.inj ho'
  have w1 : IntKind.wrap .i64 (o + 1) = o + 1 := wr (by omega)
  unfold atomic_Int64_Add addI64F
  simp only [e, Option.bind_some, w1, AMem.store, ho]
  rw [if_pos ⟨how, hv, by simp [hc]⟩, hc]
  rfl
end
theorem crcNew_is (μ : AMem) : crc_New [] μ = some (.s (.ptr (μ.next + 1) 0 0), (μ.bump 3).set (μ.next + 1) (rowObj (tcells [.int .u32 0, .int .i32 0, .int .u32 0, .bool false] 0) 260 77 (some 1))) := by
  rw [crc_New_eq]; kernel_rfl
theorem coderNew_is {μ : AMem} (hw : WF μ) : ∃ p tid μ', block_New [] μ = some (.s (.ptr p 0 0), μ') ∧ Same μ μ' ∧ Cd μ.next μ' p tid false 0 0 := by
  have e1 := crcNew_is (μ.bump 4)
  have kb := Keep.bump (S := fun _ => False) hw 4
  have k1 := kb.trans (Same.bumpSet kb.wf (n := 3) (a := 1) (by omega) (rowObj (tcells [.int .u32 0, .int .i32 0, .int .u32 0, .bool false] 0) 260 77 (some 1)))
  have hT : (((μ.bump 4).bump 3).set ((μ.bump 4).next + 1) (rowObj (tcells [.int .u32 0, .int .i32 0, .int .u32 0, .bool false] 0) 260 77 (some 1))).obj ((μ.bump 4).next + 1) = some (rowObj (tcells [.int .u32 0, .int .i32 0, .int .u32 0, .bool false] 0) 260 77 (some 1)) := set_self _ _ _
  have hTn : (((μ.bump 4).bump 3).set ((μ.bump 4).next + 1) (rowObj (tcells [.int .u32 0, .int .i32 0, .int .u32 0, .bool false] 0) 260 77 (some 1))).next = μ.next + 7 := rfl
  have hq : Tb (((μ.bump 4).bump 3).set ((μ.bump 4).next + 1) (rowObj (tcells [.int .u32 0, .int .i32 0, .int .u32 0, .bool false] 0) 260 77 (some 1))) ((μ.bump 4).next + 1) [.int .u32 0, .int .i32 0, .int .u32 0, .bool false] 0 := ⟨⟨_, hT, rfl, rfl, rfl⟩, rfl⟩
  rw [block_New_eq, e1]
  generalize ((μ.bump 4).bump 3).set ((μ.bump 4).next + 1) (rowObj (tcells [.int .u32 0, .int .i32 0, .int .u32 0, .bool false] 0) 260 77 (some 1)) = M at *
  simp only [Option.bind_some, asS_s]
  have hne : (μ.bump 4).next + 1 ≠ μ.next + 2 := by simp
  refine ⟨μ.next + 2, (μ.bump 4).next + 1, _, rfl, Keep.setS hw k1 (by omega) (by omega), ⟨by omega, by simp; omega, fun e => hne e.symm, ⟨_, set_self _ _ _, rfl, rfl, rfl⟩, ?_⟩⟩
  obtain ⟨⟨ob, ho, r⟩, hl⟩ := hq
  exact ⟨⟨ob, by rw [set_obj, if_neg hne]; exact ho, r⟩, hl⟩
def sum4 (s : BitVec 32) : List Int := [IntKind.wrap .u8 (Int.fdiv (V s) (2 ^ (24 : Nat))), IntKind.wrap .u8 (Int.fdiv (V s) (2 ^ (16 : Nat))), IntKind.wrap .u8 (Int.fdiv (V s) (2 ^ (8 : Nat))), IntKind.wrap .u8 (V s)]
theorem sum4_byte (s : BitVec 32) : ∀ v ∈ sum4 s, 0 ≤ v ∧ v < 256 := by
  intro v hv
  simp only [sum4, cu8, List.mem_cons, List.not_mem_nil, or_false] at hv
  rcases hv with rfl | rfl | rfl | rfl <;> omega
section
variable {N : Nat} {μ : AMem} {p tid : Nat} {b : Bool} {s o : Int}
theorem coderSum_is (hw : WF μ) (h : Cd N μ p tid b s o) {y : SV} {bs : List Int} (hy : IsRow μ .u8 y bs) (hyt : ¬ isId y tid) (h1 : 1 ≤ bs.length) (hl : bs.length ≤ 1000000) :
    ∃ z μ', block_Coder_sum [.s (.ptr p 0 0), .s y] μ = some (.s z, μ') ∧ Keep (cf p tid) μ μ' ∧ Cd N μ' p tid true s o ∧ OwnRow μ.next μ' .u8 5 z (sum4 (sumB bs)) ∧ z ≠ .nilSlice := by
  obtain ⟨m, e1, k1, t1⟩ := sum_is hw h.tab hy hyt h1 hl
  have k2 : Same m ((m.bump 13).set (m.next + 11) (rowObj ((sum4 (sumB bs)).map (.int .u8)) 1 5 (some 4))) := Same.bumpSet k1.wf (by omega) _
  have hn := k1.next
  have c1 : Cd N m p tid true s o := by
    obtain ⟨ob, ho, r⟩ := h.ex
    exact ⟨h.lowp, h.lowt, h.ne, ⟨ob, k1.old _ _ ho h.ne, r⟩, t1⟩
  refine ⟨.slice (m.next + 11) 0 0 4, _, ?_, (k1.weak0 fun j hj => .inr hj).trans k2.any, c1.same k2, OwnRow.new (o := rowObj ((sum4 (sumB bs)).map (.int .u8)) 1 5 (some 4)) (set_self _ _ _) (by omega) rfl rfl rfl rfl rfl rfl, by intro e; cases e⟩
  rw [block_Coder_sum_eq]
  simp -implicitDefEqProofs only [h.cell.1, e1, ss]
  rfl
def sealZ (bs : List Int) : List Int := (bs ++ List.replicate (124 - bs.length) 0) ++ sum4 (sumB (bs ++ List.replicate (124 - bs.length) 0))
theorem sealZ_len {bs : List Int} (hl : bs.length ≤ 124) : (sealZ bs).length = 128 := by simp [sealZ, sum4]; omega
theorem seal_no {y : SV} {bs : List Int} (hy : IsRow μ .u8 y bs) (hl : 124 < bs.length) : block_Coder_Seal [.s (.ptr p 0 0), .s y] μ = some (.tuple [.s .nilSlice, .s (.int .i64 4)], μ) := by
  rw [block_Coder_Seal_eq, hy.len]
  simp -implicitDefEqProofs only [gt_t (show (124 : Int) < (bs.length : Int) by omega), ss]
theorem seal_is (hw : WF μ) (hN : N ≤ μ.next) (h : Cd N μ p tid b s o) (hs : 0 ≤ s ∧ s ≤ 1000000) {y : SV} {bs : List Int} (hy : IsRow μ .u8 y bs) (hl : bs.length ≤ 124) :
    ∃ z μ', block_Coder_Seal [.s (.ptr p 0 0), .s y] μ = some (.tuple [.s z, .s (.int .i64 0)], μ') ∧ Keep (cf p tid) μ μ' ∧ Cd N μ' p tid true (s + 1) o ∧ OwnRow μ.next μ' .u8 5 z (sealZ bs) := by
  have hlt := h.lt hw
  have k1 : Same μ ((μ.bump 2).set (μ.next + 0) (rowObj (zerosA [.int .u8 0] 124) 1 5 (some 124))) := Same.bumpSet hw (by omega) _
  have r1 : OwnRow μ.next ((μ.bump 2).set (μ.next + 0) (rowObj (zerosA [.int .u8 0] 124) 1 5 (some 124))) .u8 5 (.slice (μ.next + 0) 0 0 124) (List.replicate 124 0) :=
    OwnRow.new (o := rowObj (zerosA [.int .u8 0] 124) 1 5 (some 124)) (set_self _ _ _) (by omega) (by simp) rfl rfl rfl rfl (by show zerosA _ _ = _; rw [zerosA_rep]; simp)
  obtain ⟨m2, e2, k2, r2, n2⟩ := copyK k1.wf r1 (hy.same k1) (by simpa using hl)
  have hz : bs ++ (List.replicate 124 (0 : Int)).drop bs.length = bs ++ List.replicate (124 - bs.length) 0 := by rw [List.drop_replicate]
  rw [hz] at r2
  have i2 : ∀ j, isId (.slice (μ.next + 0) 0 0 124) j → j = μ.next := fun j hj => by
    have : μ.next + 0 = j := hj
    omega
  have c2 := (h.same k1).keep k2 (fun e => by have := i2 _ e; omega) fun e => by have := i2 _ e; omega
  obtain ⟨m3, e3, k3, c3, n3⟩ := addS_is k2.wf c2 hs
  have r3 := ownKeep r2 k3 fun j hj e => by
    have := i2 _ e
    rcases hj with rfl | rfl <;> omega
  have kb := Keep.bump (S := fun _ => False) k3.wf 7
  have n1 : ((μ.bump 2).set (μ.next + 0) (rowObj (zerosA [.int .u8 0] 124) 1 5 (some 124))).next = μ.next + 2 := rfl
  obtain ⟨z4, m4, e4, k4, c4, r4, hz4⟩ := coderSum_is kb.wf (c3.same kb) (r3.row.same kb) (fun e => by have := i2 _ e; omega) (by simp; omega) (by simp; omega)
  have rb : OwnRow μ.next (m3.bump 7) .u8 5 (.slice (μ.next + 0) 0 0 124) (bs ++ List.replicate (124 - bs.length) 0) := ownKeep r3 kb fun j hj _ => hj
  have r5 := ownKeep rb k4 fun j hj e => by
    have := i2 _ e
    rcases hj with rfl | rfl <;> omega
  have hn4 := k4.next
  simp only [bump_next] at hn4
  obtain ⟨z5, m5, g1, g2, g3, g4, g5, g6⟩ := OwnRow.append k4.wf r5 r4.row (B := 1) (nid := m3.next + 4) (by omega) (by simp [sum4]; omega) (by omega) (by omega) (k4.low _ (by simp) (freshB k3.wf 7 4))
  have hf : ∀ j, isId (.slice (μ.next + 0) 0 0 124) j → cf p tid j ∨ μ.next ≤ j := fun j hj => .inr (by have := i2 _ hj; omega)
  have K4 : Keep (cf p tid) μ m4 := keepNew hw (keepNew hw k1.any k2 hf) (k3.trans (kb.any.trans k4)) fun j hj => .inl hj
  have nz : ∀ id, id ≠ μ.next → ¬ isId (.slice (μ.next + 0) 0 0 124) id := fun id h e => h (i2 _ e)
  refine ⟨z5, m5, ?_, ⟨g3, by rw [g4]; exact K4.next, fun id ob ho hs => g5.1 id ob (K4.old id ob ho hs) (nz id (by have := hw.lt ho; omega)), fun id hi hno => g5.2 id (by omega) (K4.low id hi hno)⟩, c4.old (fun ob ho => g5.1 _ _ ho (nz _ (by omega))) (fun ob ho => g5.1 _ _ ho (nz _ (by omega))), g2⟩
  · rw [block_Coder_Seal_eq, hy.len]
    simp -implicitDefEqProofs only [gt_f (show (bs.length : Int) ≤ 124 by omega), ss]
    rw [if_pos (by omega)]
    simp -implicitDefEqProofs only [show Int.toNat 124 = 124 from rfl, e2, e3, e4, g1, ss]
end
end Go.Proofs.YtnjenjbodcihmaaGreat
namespace Go.Proofs.YtnjenjbodcihmaaGreat
open Go Go.Proofs.YtnjenjbodcihmaaGreat.E
set_option linter.unusedVariables false
set_option linter.unusedSimpArgs false
def okS (v : Int) : Bool := decide (v ≥ -8388608) && decide (v ≤ 8388607)
def checkZ (zs : List Int) : Int := if zs.all okS then (if zs.length > 64 then 4 else 0) else 8
theorem okS_spec {v : Int} (h : okS v = true) : -8388608 ≤ v ∧ v ≤ 8388607 := by simp [okS] at h; omega
theorem checkZ_ok {zs : List Int} (h : checkZ zs = 0) : (∀ v ∈ zs, -8388608 ≤ v ∧ v ≤ 8388607) ∧ zs.length ≤ 64 := by
  unfold checkZ at h
  split at h
  · rename_i ha
    split at h
    · omega
    · exact ⟨fun v hv => okS_spec (List.all_eq_true.mp ha v hv), by omega⟩
  · omega
end Go.Proofs.YtnjenjbodcihmaaGreat
namespace Go.Proofs.YtnjenjbodcihmaaGreat
open Go Go.Proofs.YtnjenjbodcihmaaGreat.E
set_option linter.unusedVariables false
set_option linter.unusedSimpArgs false
theorem sample_is (v : Int) (μ : AMem) : fixed_Sample [.s (.int .i64 v)] μ = some (.s (.bool (okS v)), μ) := by
  rw [fixed_Sample_eq]; unfold okS
  by_cases h : v ≥ -8388608 <;> simp [h]
theorem check_loop {μ : AMem} {x : SV} {zs : List Int} (hx : IsRow μ .i64 x zs) (hb : zs.length ≤ 4611686018427387904) :
    ∀ k i : Nat, i + k = zs.length → fixed_Check_L1 [.s x, .s x, .s (.int .i64 zs.length)] [.s (.int .i64 i)] μ = if (zs.drop i).all okS then some (.exit 0, [.s x], μ) else some (.ret, [.s (.int .i64 8)], μ)
  | 0, i, h => by
    have h1 : ¬ (i : Int) < (zs.length : Int) := by omega
    rw [fixed_Check_L1_eq, fixed_Check_L1_B_eq, List.drop_eq_nil_of_le (by omega)]
    simp only [h1, List.all_nil, if_true, Option.bind_some, decide_true, decide_false, cond_true, cond_false, seqJ_n, seqJ_r, seqJ_e, headK_c, asB_bool, asI_int, asS_s, asN_int, Bool.not_true, Bool.not_false, Nat.beq_refl]
  | k + 1, i, h => by
    have ih := check_loop hx hb k (i + 1) (by omega)
    have h1 : (i : Int) < (zs.length : Int) := by omega
    have e1 : IntKind.wrap .i64 ((i : Int) + 1) = ((i + 1 : Nat) : Int) := by rw [wr (by omega)]; omega
    have e3 : (((i : Nat) : Int)).toNat = i := by omega
    have hi : i < zs.length := by omega
    have g1 : zs.getD i 0 = zs[i] := by rw [List.getD_eq_getElem?_getD, List.getElem?_eq_getElem hi]; rfl
    rw [fixed_Check_L1_eq, fixed_Check_L1_B_eq, List.drop_eq_getElem_cons hi]
    simp only [h1, Option.bind_some, decide_true, decide_false, cond_true, cond_false, seqJ_n, seqJ_r, seqJ_e, headK_c, asB_bool, asI_int, asS_s, asN_int, Bool.not_true, Bool.not_false, Nat.beq_refl]
    rw [hx.ind (by omega) h1, hx.load (by omega) h1, asI_int, e3, g1]
    simp only [sample_is, List.all_cons, Option.bind_some, decide_true, decide_false, cond_true, cond_false, seqJ_n, seqJ_r, seqJ_e, headK_c, asB_bool, asI_int, asS_s, asN_int, Bool.not_true, Bool.not_false, Nat.beq_refl]
    by_cases ho : okS zs[i] = true
    · simp only [ho, Bool.true_and, e1, Option.bind_some, decide_true, decide_false, cond_true, cond_false, seqJ_n, seqJ_r, seqJ_e, headK_c, asB_bool, asI_int, asS_s, asN_int, Bool.not_true, Bool.not_false, Nat.beq_refl]
      exact ih
    · have ho' : okS zs[i] = false := by simpa using ho
      simp only [ho', Bool.false_and, Bool.false_eq_true, if_false, Option.bind_some, decide_true, decide_false, cond_true, cond_false, seqJ_n, seqJ_r, seqJ_e, headK_c, asB_bool, asI_int, asS_s, asN_int, Bool.not_true, Bool.not_false, Nat.beq_refl]
theorem check_is {μ : AMem} {x : SV} {zs : List Int} (hx : IsRow μ .i64 x zs) (hb : zs.length ≤ 4611686018427387904) : fixed_Check [.s x] μ = some (.s (.int .i64 (checkZ zs)), μ) := by
  rw [fixed_Check_eq, hx.len]
  have := check_loop hx hb _ 0 (Nat.zero_add _)
  simp only [Option.bind_some]
  rw [show fixed_Check_L1 [.s x, .s x, .s (.int .i64 ((zs.length : Nat) : Int))] [.s (.int .i64 0)] μ = _ from this]
  simp only [List.drop_zero, checkZ]
  cases zs.all okS
  · simp only [Bool.false_eq_true, if_false, Option.bind_some, decide_true, decide_false, cond_true, cond_false, seqJ_n, seqJ_r, seqJ_e, headK_c, asB_bool, asI_int, asS_s, asN_int, Bool.not_true, Bool.not_false, Nat.beq_refl]
  · simp only [if_true, hx.len, Option.bind_some, decide_true, decide_false, cond_true, cond_false, seqJ_n, seqJ_r, seqJ_e, headK_c, asB_bool, asI_int, asS_s, asN_int, Bool.not_true, Bool.not_false, Nat.beq_refl]
    by_cases h : (zs.length : Int) > 64
    · have : zs.length > 64 := by omega
      simp only [h, this, if_true, Option.bind_some, decide_true, decide_false, cond_true, cond_false, seqJ_n, seqJ_r, seqJ_e, headK_c, asB_bool, asI_int, asS_s, asN_int, Bool.not_true, Bool.not_false, Nat.beq_refl]
    · have : ¬ zs.length > 64 := by omega
      simp only [h, this, if_false, Option.bind_some, decide_true, decide_false, cond_true, cond_false, seqJ_n, seqJ_r, seqJ_e, headK_c, asB_bool, asI_int, asS_s, asN_int, Bool.not_true, Bool.not_false, Nat.beq_refl]
end Go.Proofs.YtnjenjbodcihmaaGreat
namespace Go.Proofs.YtnjenjbodcihmaaGreat
open Go Go.Proofs.YtnjenjbodcihmaaGreat.E
set_option linter.unusedVariables false
set_option linter.unusedSimpArgs false
theorem may_loop {μ : AMem} {x : SV} {zs : List Int} (hx : IsRow μ .i64 x zs) (hb : zs.length ≤ 4611686018427387904) :
    ∀ k i : Nat, i + k = zs.length → overdubref05_May_L1 [.s x, .s (.int .i64 zs.length)] [.s (.int .i64 i)] μ = if (zs.drop i).all okS then some (.exit 0, [.s x], μ) else some (.ret, [.s (.int .i64 8)], μ)
  | 0, i, h => by
    have h1 : ¬ (i : Int) < (zs.length : Int) := by omega
    rw [overdubref05_May_L1_eq, overdubref05_May_L1_B_eq, List.drop_eq_nil_of_le (by omega)]
    simp only [h1, List.all_nil, if_true, Option.bind_some, decide_true, decide_false, cond_true, cond_false, seqJ_n, seqJ_r, seqJ_e, headK_c, asB_bool, asI_int, asS_s, asN_int, Bool.not_true, Bool.not_false, Nat.beq_refl]
  | k + 1, i, h => by
    have ih := may_loop hx hb k (i + 1) (by omega)
    have h1 : (i : Int) < (zs.length : Int) := by omega
    have e1 : IntKind.wrap .i64 ((i : Int) + 1) = ((i + 1 : Nat) : Int) := by rw [wr (by omega)]; omega
    have e3 : (((i : Nat) : Int)).toNat = i := by omega
    have hi : i < zs.length := by omega
    have g1 : zs.getD i 0 = zs[i] := by rw [List.getD_eq_getElem?_getD, List.getElem?_eq_getElem hi]; rfl
    rw [overdubref05_May_L1_eq, overdubref05_May_L1_B_eq, List.drop_eq_getElem_cons hi]
    simp only [h1, Option.bind_some, decide_true, decide_false, cond_true, cond_false, seqJ_n, seqJ_r, seqJ_e, headK_c, asB_bool, asI_int, asS_s, asN_int, Bool.not_true, Bool.not_false, Nat.beq_refl]
    rw [hx.ind (by omega) h1, hx.load (by omega) h1, asI_int, hx.ind (by omega) h1, hx.load (by omega) h1, asI_int, e3, g1]
    simp only [List.all_cons]
    by_cases c1 : zs[i] < -8388608
    · have ho : okS zs[i] = false := by simp [okS]; omega
      simp only [c1, ho, Bool.false_and, Bool.false_eq_true, if_false, Option.bind_some, decide_true, decide_false, cond_true, cond_false, seqJ_n, seqJ_r, seqJ_e, headK_c, asB_bool, asI_int, asS_s, asN_int, Bool.not_true, Bool.not_false, Nat.beq_refl]
    · by_cases c2 : zs[i] > 8388607
      · have ho : okS zs[i] = false := by simp [okS]; omega
        simp only [c1, c2, ho, Bool.false_and, Bool.false_eq_true, if_false, Option.bind_some, decide_true, decide_false, cond_true, cond_false, seqJ_n, seqJ_r, seqJ_e, headK_c, asB_bool, asI_int, asS_s, asN_int, Bool.not_true, Bool.not_false, Nat.beq_refl]
      · have ho : okS zs[i] = true := by simp [okS]; omega
        simp only [c1, c2, ho, Bool.true_and, e1, Option.bind_some, decide_true, decide_false, cond_true, cond_false, seqJ_n, seqJ_r, seqJ_e, headK_c, asB_bool, asI_int, asS_s, asN_int, Bool.not_true, Bool.not_false, Nat.beq_refl]
        exact ih
theorem refMay_is {μ : AMem} {x : SV} {zs : List Int} (hx : IsRow μ .i64 x zs) (hb : zs.length ≤ 4611686018427387904) : overdubref05_May [.s x] μ = some (.s (.int .i64 (checkZ zs)), μ) := by
  rw [overdubref05_May_eq, hx.len]
  have := may_loop hx hb _ 0 (Nat.zero_add _)
  simp only [Option.bind_some]
  rw [show overdubref05_May_L1 [.s x, .s (.int .i64 ((zs.length : Nat) : Int))] [.s (.int .i64 0)] μ = _ from this]
  simp only [List.drop_zero, checkZ]
  cases zs.all okS
  · simp only [Bool.false_eq_true, if_false, Option.bind_some, decide_true, decide_false, cond_true, cond_false, seqJ_n, seqJ_r, seqJ_e, headK_c, asB_bool, asI_int, asS_s, asN_int, Bool.not_true, Bool.not_false, Nat.beq_refl]
  · simp only [if_true, hx.len, Option.bind_some, decide_true, decide_false, cond_true, cond_false, seqJ_n, seqJ_r, seqJ_e, headK_c, asB_bool, asI_int, asS_s, asN_int, Bool.not_true, Bool.not_false, Nat.beq_refl]
    by_cases h : (zs.length : Int) > 64
    · have : zs.length > 64 := by omega
      simp only [h, this, if_true, Option.bind_some, decide_true, decide_false, cond_true, cond_false, seqJ_n, seqJ_r, seqJ_e, headK_c, asB_bool, asI_int, asS_s, asN_int, Bool.not_true, Bool.not_false, Nat.beq_refl]
    · have : ¬ zs.length > 64 := by omega
      simp only [h, this, if_false, Option.bind_some, decide_true, decide_false, cond_true, cond_false, seqJ_n, seqJ_r, seqJ_e, headK_c, asB_bool, asI_int, asS_s, asN_int, Bool.not_true, Bool.not_false, Nat.beq_refl]
end Go.Proofs.YtnjenjbodcihmaaGreat
namespace Go.Proofs.YtnjenjbodcihmaaGreat
open Go Go.Proofs.YtnjenjbodcihmaaGreat.E
set_option linter.unusedVariables false
set_option linter.unusedSimpArgs false
def asum (zs : List Int) (k : Nat) : Nat → Int
  | 0 => 0
  | n + 1 => asum zs k n + zs.getD (k + n) 0 * zs.getD n 0
def dotZ (zs : List Int) (k : Nat) : Int := asum zs k (zs.length - k)
def autoE (zs : List Int) (lags : Int) : Int := if lags < 0 ∨ lags > 12 then 1 else if checkZ zs ≠ 0 then checkZ zs else 0
def autoZ (zs : List Int) (lags : Int) : List Int := if lags < 0 ∨ lags > 12 then [] else if checkZ zs ≠ 0 then [] else (List.range (lags.toNat + 1)).map (dotZ zs)
theorem getD_memA (zs : List Int) {i : Nat} (h : i < zs.length) : zs.getD i 0 ∈ zs := by
  rw [List.getD_eq_getElem?_getD, List.getElem?_eq_getElem h]; exact List.getElem_mem h
theorem getD_bound {zs : List Int} (hz : ∀ v ∈ zs, -8388608 ≤ v ∧ v ≤ 8388607) (i : Nat) : -8388608 ≤ zs.getD i 0 ∧ zs.getD i 0 ≤ 8388607 := by
  rcases Nat.lt_or_ge i zs.length with h | h
  · exact hz _ (getD_memA zs h)
  · rw [List.getD_eq_getElem?_getD, List.getElem?_eq_none h]; exact ⟨by simp, by simp⟩
theorem asum_le {zs : List Int} (hz : ∀ v ∈ zs, -8388608 ≤ v ∧ v ≤ 8388607) (k : Nat) : ∀ n : Nat, -(70368744177664 * n) ≤ asum zs k n ∧ asum zs k n ≤ 70368744177664 * n
  | 0 => by simp [asum]
  | n + 1 => by
    have := asum_le hz k n
    have b1 := getD_bound hz (k + n)
    have b2 := getD_bound hz n
    have := prod_le (a := zs.getD (k + n) 0) (b := zs.getD n 0) (A := 8388608) (B := 8388608) (by omega) (by omega) (by omega) (by omega)
    simp only [asum]; omega

theorem auto_sum {μ : AMem} {x y : SV} {zs : List Int} (hx : IsRow μ .i64 x zs) (hz : ∀ v ∈ zs, -8388608 ≤ v ∧ v ≤ 8388607) (hl : zs.length ≤ 64) (k : Nat) (m : Int) :
    ∀ j i : Nat, k + i + j = max k zs.length → levin_Auto_L2 [.s x, .s y, .s (.int .i64 k), .s (.int .i64 m), .s (.int .i64 k)] [.s (.int .i64 (asum zs k i)), .s (.int .i64 ((k + i : Nat) : Int))] μ = some (.exit 2, [.s x, .s y, .s (.int .i64 (asum zs k (zs.length - k))), .s (.int .i64 m), .s (.int .i64 k)], μ)
  | 0, i, h => by
    have h1 : ¬ ((k + i : Nat) : Int) < (zs.length : Int) := by omega
    have hi : asum zs k i = asum zs k (zs.length - k) ∨ i = zs.length - k := by right; omega
    rw [levin_Auto_L2_eq, levin_Auto_L2_B_eq, hx.len]
    obtain rfl : i = zs.length - k := by omega
    simp only [h1, Option.bind_some, decide_true, decide_false, cond_true, cond_false, seqJ_n, seqJ_r, seqJ_e, headK_c, asB_bool, asI_int, asS_s, asN_int, Bool.not_true, Bool.not_false, Nat.beq_refl]
  | j + 1, i, h => by
    have ih := auto_sum (y := y) hx hz hl k m j (i + 1) (by omega)
    have h1 : ((k + i : Nat) : Int) < (zs.length : Int) := by omega
    have hki : k + i < zs.length := by omega
    have hi : i < zs.length := by omega
    have g1 := getD_memA zs hki
    have g2 := getD_memA zs hi
    have b1 := hz _ g1
    have b2 := hz _ g2
    have hs := asum_le hz k i
    have hp := prod_le (a := zs.getD (k + i) 0) (b := zs.getD i 0) (A := 8388608) (B := 8388608) (by omega) (by omega) (by omega) (by omega)
    have e1 : IntKind.wrap .i64 (((k + i : Nat) : Int) + 1) = ((k + (i + 1) : Nat) : Int) := by rw [wr (by omega)]; omega
    have e2 : IntKind.wrap .i64 (((k + i : Nat) : Int) - (k : Int)) = ((i : Nat) : Int) := by rw [wr (by omega)]; omega
    have e3 : (((k + i : Nat) : Int)).toNat = k + i := by omega
    have e4 : (((i : Nat) : Int)).toNat = i := by omega
    have e5 : IntKind.wrap .i64 (asum zs k i + IntKind.wrap .i64 (zs.getD (k + i) 0 * zs.getD i 0)) = asum zs k (i + 1) := by
      show _ = asum zs k i + zs.getD (k + i) 0 * zs.getD i 0
      rw [wr (n := zs.getD (k + i) 0 * zs.getD i 0) (by omega), wr (by omega)]
    rw [levin_Auto_L2_eq, levin_Auto_L2_B_eq, hx.len]
    simp only [h1, Option.bind_some, decide_true, decide_false, cond_true, cond_false, seqJ_n, seqJ_r, seqJ_e, headK_c, asB_bool, asI_int, asS_s, asN_int, Bool.not_true, Bool.not_false, Nat.beq_refl]
    rw [hx.ind (by omega) h1, hx.load (by omega) h1, asI_int, e2, hx.ind (by omega) (by omega), hx.load (by omega) (by omega), asI_int, e3, e4, e5, e1]
    simp only [Option.bind_some, decide_true, decide_false, cond_true, cond_false, seqJ_n, seqJ_r, seqJ_e, headK_c, asB_bool, asI_int, asS_s, asN_int, Bool.not_true, Bool.not_false, Nat.beq_refl]
    exact ih
theorem auto_rows {μ0 : AMem} (h0 : WF μ0) {x : SV} {zs : List Int} (hx : IsRow μ0 .i64 x zs) (hz : ∀ v ∈ zs, -8388608 ≤ v ∧ v ≤ 8388607) (hl : zs.length ≤ 64) {n : Nat} (hn : n ≤ 13) :
    ∀ (j k : Nat) (μ : AMem) (y : SV), k + j = n → Same μ0 μ → OwnRow μ0.next μ .i64 3 y ((List.range k).map (dotZ zs)) →
      ∃ y' μ', levin_Auto_L1 [.s x, .s (.int .i64 ((n : Nat) : Int))] [.s y, .s (.int .i64 k)] μ = some (.exit 0, [.s y'], μ') ∧ Same μ0 μ' ∧ OwnRow μ0.next μ' .i64 3 y' ((List.range n).map (dotZ zs))
  | 0, k, μ, y, h, hs, hy => by
    have h1 : ¬ (k : Int) < ((n : Nat) : Int) := by omega
    rw [levin_Auto_L1_eq, levin_Auto_L1_B_eq]
    obtain rfl : k = n := by omega
    simp only [h1, Option.bind_some, decide_true, decide_false, cond_true, cond_false, seqJ_n, seqJ_r, seqJ_e, headK_c, asB_bool, asI_int, asS_s, asN_int, Bool.not_true, Bool.not_false, Nat.beq_refl]
    exact ⟨y, μ, rfl, hs, hy⟩
  | j + 1, k, μ, y, h, hs, hy => by
    have h1 : (k : Int) < ((n : Nat) : Int) := by omega
    have e1 : IntKind.wrap .i64 ((k : Int) + 1) = ((k + 1 : Nat) : Int) := by rw [wr (by omega)]; omega
    have hsum := auto_sum (y := y) (hx.same hs) hz hl k (((n : Nat) : Int)) (max k zs.length - k) 0 (by omega)
    have e0 : ((k + 0 : Nat) : Int) = (k : Int) := rfl
    rw [e0] at hsum
    obtain ⟨y', μ', p1, p2, p3, p4, p5, p6⟩ := OwnRow.push (B := 8) (a := 2) (b := 3) (n := 5) (q := some 1) hs.wf hy (dotZ zs k) (by omega) (by simp; omega) hs.next (by omega) (by omega) (by omega)
    have hr : (List.range (k + 1)).map (dotZ zs) = (List.range k).map (dotZ zs) ++ [dotZ zs k] := by rw [List.range_succ, List.map_append]; rfl
    rw [← hr] at p2
    have ih := auto_rows h0 hx hz hl hn j (k + 1) μ' y' (by omega) (Same.push h0 hs hy p3 p4 p5) p2
    rw [levin_Auto_L1_eq, levin_Auto_L1_B_eq]
    simp only [h1, Option.bind_some, decide_true, decide_false, cond_true, cond_false, seqJ_n, seqJ_r, seqJ_e, headK_c, asB_bool, asI_int, asS_s, asN_int, Bool.not_true, Bool.not_false, Nat.beq_refl]
    rw [show levin_Auto_L2 [.s x, .s y, .s (.int .i64 k), .s (.int .i64 (((n : Nat) : Int))), .s (.int .i64 k)] [.s (.int .i64 0), .s (.int .i64 (k : Int))] μ = _ from hsum]
    simp only [Option.bind_some, decide_true, decide_false, cond_true, cond_false, seqJ_n, seqJ_r, seqJ_e, headK_c, asB_bool, asI_int, asS_s, asN_int, Bool.not_true, Bool.not_false, Nat.beq_refl]
    have hd : asum zs k (zs.length - k) = dotZ zs k := rfl
    rw [hd, p1]
    simp only [e1, Option.bind_some, decide_true, decide_false, cond_true, cond_false, seqJ_n, seqJ_r, seqJ_e, headK_c, asB_bool, asI_int, asS_s, asN_int, Bool.not_true, Bool.not_false, Nat.beq_refl]
    exact ih
theorem auto_is {μ : AMem} (h0 : WF μ) {x : SV} {zs : List Int} (hx : IsRow μ .i64 x zs) (hb : zs.length ≤ 4611686018427387904) {lags : Int} (hlg : -9223372036854775808 ≤ lags ∧ lags ≤ 9223372036854775807) :
    ∃ y μ', levin_Auto [.s x, .s (.int .i64 lags)] μ = some (.tuple [.s y, .s (.int .i64 (autoE zs lags))], μ') ∧ Same μ μ' ∧ OwnRow μ.next μ' .i64 3 y (autoZ zs lags) := by
  rw [levin_Auto_eq]
  unfold autoE autoZ
  by_cases c1 : lags < 0
  · simp only [c1, true_or, if_true, Option.bind_some, decide_true, decide_false, cond_true, cond_false, seqJ_n, seqJ_r, seqJ_e, headK_c, asB_bool, asI_int, asS_s, asN_int, Bool.not_true, Bool.not_false, Nat.beq_refl]
    exact ⟨_, _, rfl, Keep.refl h0, OwnRow.nil _ _ _ _⟩
  · by_cases c2 : lags > 12
    · simp only [c1, c2, or_true, if_true, Option.bind_some, decide_true, decide_false, cond_true, cond_false, seqJ_n, seqJ_r, seqJ_e, headK_c, asB_bool, asI_int, asS_s, asN_int, Bool.not_true, Bool.not_false, Nat.beq_refl]
      exact ⟨_, _, rfl, Keep.refl h0, OwnRow.nil _ _ _ _⟩
    · simp only [c1, c2, or_false, if_false, check_is hx hb, Option.bind_some, decide_true, decide_false, cond_true, cond_false, seqJ_n, seqJ_r, seqJ_e, headK_c, asB_bool, asI_int, asS_s, asN_int, Bool.not_true, Bool.not_false, Nat.beq_refl]
      by_cases c3 : checkZ zs = 0
      · have hc : (checkZ zs != 0) = false := by simp [c3]
        obtain ⟨hz, hl⟩ := checkZ_ok c3
        obtain ⟨n, hn⟩ : ∃ n : Nat, lags = n := ⟨lags.toNat, by omega⟩
        subst hn
        have hw : IntKind.wrap .i64 ((n : Int) + 1) = ((n + 1 : Nat) : Int) := by rw [wr (by omega)]; omega
        obtain ⟨y, μ', g1, g2, g3⟩ := auto_rows h0 hx hz hl (n := n + 1) (by omega) (n + 1) 0 μ .nilSlice (by omega) (Keep.refl h0) (OwnRow.nil _ _ _ _)
        have e0 : ((0 : Nat) : Int) = 0 := rfl
        rw [e0] at g1
        have e2 : ((n : Nat) : Int).toNat = n := by omega
        simp only [hc, c3, ne_eq, not_true_eq_false, if_false, e2, Option.bind_some, decide_true, decide_false, cond_true, cond_false, seqJ_n, seqJ_r, seqJ_e, headK_c, asB_bool, asI_int, asS_s, asN_int, Bool.not_true, Bool.not_false, Nat.beq_refl]
        rw [hw, g1]
        simp only [Option.bind_some, decide_true, decide_false, cond_true, cond_false, seqJ_n, seqJ_r, seqJ_e, headK_c, asB_bool, asI_int, asS_s, asN_int, Bool.not_true, Bool.not_false, Nat.beq_refl]
        exact ⟨_, _, rfl, g2, g3⟩
      · have hc : (checkZ zs != 0) = true := by simp [c3]
        simp only [hc, c3, ne_eq, not_false_eq_true, if_true, Option.bind_some, decide_true, decide_false, cond_true, cond_false, seqJ_n, seqJ_r, seqJ_e, headK_c, asB_bool, asI_int, asS_s, asN_int, Bool.not_true, Bool.not_false, Nat.beq_refl]
        exact ⟨_, _, rfl, Keep.refl h0, OwnRow.nil _ _ _ _⟩

theorem refAuto_sum {μ : AMem} {x y : SV} {zs : List Int} (hx : IsRow μ .i64 x zs) (hz : ∀ v ∈ zs, -8388608 ≤ v ∧ v ≤ 8388607) (hl : zs.length ≤ 64) (k : Nat) (m : Int) :
    ∀ j i : Nat, k + i + j = max k zs.length → overdubref05_Auto_L2 [.s x, .s (.int .i64 m), .s y, .s (.int .i64 k)] [.s (.int .i64 (asum zs k i)), .s (.int .i64 ((k + i : Nat) : Int))] μ = some (.exit 2, [.s x, .s (.int .i64 m), .s y, .s (.int .i64 k), .s (.int .i64 (asum zs k (zs.length - k)))], μ)
  | 0, i, h => by
    have h1 : ¬ ((k + i : Nat) : Int) < (zs.length : Int) := by omega
    have hi : asum zs k i = asum zs k (zs.length - k) ∨ i = zs.length - k := by right; omega
    rw [overdubref05_Auto_L2_eq, overdubref05_Auto_L2_B_eq, hx.len]
    obtain rfl : i = zs.length - k := by omega
    simp only [h1, Option.bind_some, decide_true, decide_false, cond_true, cond_false, seqJ_n, seqJ_r, seqJ_e, headK_c, asB_bool, asI_int, asS_s, asN_int, Bool.not_true, Bool.not_false, Nat.beq_refl]
  | j + 1, i, h => by
    have ih := refAuto_sum (y := y) hx hz hl k m j (i + 1) (by omega)
    have h1 : ((k + i : Nat) : Int) < (zs.length : Int) := by omega
    have hki : k + i < zs.length := by omega
    have hi : i < zs.length := by omega
    have g1 := getD_memA zs hki
    have g2 := getD_memA zs hi
    have b1 := hz _ g1
    have b2 := hz _ g2
    have hs := asum_le hz k i
    have hp := prod_le (a := zs.getD (k + i) 0) (b := zs.getD i 0) (A := 8388608) (B := 8388608) (by omega) (by omega) (by omega) (by omega)
    have e1 : IntKind.wrap .i64 (((k + i : Nat) : Int) + 1) = ((k + (i + 1) : Nat) : Int) := by rw [wr (by omega)]; omega
    have e2 : IntKind.wrap .i64 (((k + i : Nat) : Int) - (k : Int)) = ((i : Nat) : Int) := by rw [wr (by omega)]; omega
    have e3 : (((k + i : Nat) : Int)).toNat = k + i := by omega
    have e4 : (((i : Nat) : Int)).toNat = i := by omega
    have e5 : IntKind.wrap .i64 (asum zs k i + IntKind.wrap .i64 (zs.getD (k + i) 0 * zs.getD i 0)) = asum zs k (i + 1) := by
      show _ = asum zs k i + zs.getD (k + i) 0 * zs.getD i 0
      rw [wr (n := zs.getD (k + i) 0 * zs.getD i 0) (by omega), wr (by omega)]
    rw [overdubref05_Auto_L2_eq, overdubref05_Auto_L2_B_eq, hx.len]
    simp only [h1, Option.bind_some, decide_true, decide_false, cond_true, cond_false, seqJ_n, seqJ_r, seqJ_e, headK_c, asB_bool, asI_int, asS_s, asN_int, Bool.not_true, Bool.not_false, Nat.beq_refl]
    rw [hx.ind (by omega) h1, hx.load (by omega) h1, asI_int, e2, hx.ind (by omega) (by omega), hx.load (by omega) (by omega), asI_int, e3, e4, e5, e1]
    simp only [Option.bind_some, decide_true, decide_false, cond_true, cond_false, seqJ_n, seqJ_r, seqJ_e, headK_c, asB_bool, asI_int, asS_s, asN_int, Bool.not_true, Bool.not_false, Nat.beq_refl]
    exact ih
theorem refAuto_rows {μ0 : AMem} (h0 : WF μ0) {x : SV} {zs : List Int} (hx : IsRow μ0 .i64 x zs) (hz : ∀ v ∈ zs, -8388608 ≤ v ∧ v ≤ 8388607) (hl : zs.length ≤ 64) {n : Nat} (hn : n ≤ 13) :
    ∀ (j k : Nat) (μ : AMem) (y : SV), k + j = n → Same μ0 μ → OwnRow μ0.next μ .i64 3 y ((List.range k).map (dotZ zs)) →
      ∃ y' μ', overdubref05_Auto_L1 [.s x, .s (.int .i64 (((n : Nat) : Int) - 1))] [.s y, .s (.int .i64 k)] μ = some (.exit 0, [.s y'], μ') ∧ Same μ0 μ' ∧ OwnRow μ0.next μ' .i64 3 y' ((List.range n).map (dotZ zs))
  | 0, k, μ, y, h, hs, hy => by
    have h1 : ¬ (k : Int) ≤ ((n : Nat) : Int) - 1 := by omega
    rw [overdubref05_Auto_L1_eq, overdubref05_Auto_L1_B_eq]
    obtain rfl : k = n := by omega
    simp only [h1, Option.bind_some, decide_true, decide_false, cond_true, cond_false, seqJ_n, seqJ_r, seqJ_e, headK_c, asB_bool, asI_int, asS_s, asN_int, Bool.not_true, Bool.not_false, Nat.beq_refl]
    exact ⟨y, μ, rfl, hs, hy⟩
  | j + 1, k, μ, y, h, hs, hy => by
    have h1 : (k : Int) ≤ ((n : Nat) : Int) - 1 := by omega
    have e1 : IntKind.wrap .i64 ((k : Int) + 1) = ((k + 1 : Nat) : Int) := by rw [wr (by omega)]; omega
    have hsum := refAuto_sum (y := y) (hx.same hs) hz hl k (((n : Nat) : Int) - 1) (max k zs.length - k) 0 (by omega)
    have e0 : ((k + 0 : Nat) : Int) = (k : Int) := rfl
    rw [e0] at hsum
    obtain ⟨y', μ', p1, p2, p3, p4, p5, p6⟩ := OwnRow.push (B := 8) (a := 2) (b := 3) (n := 5) (q := some 1) hs.wf hy (dotZ zs k) (by omega) (by simp; omega) hs.next (by omega) (by omega) (by omega)
    have hr : (List.range (k + 1)).map (dotZ zs) = (List.range k).map (dotZ zs) ++ [dotZ zs k] := by rw [List.range_succ, List.map_append]; rfl
    rw [← hr] at p2
    have ih := refAuto_rows h0 hx hz hl hn j (k + 1) μ' y' (by omega) (Same.push h0 hs hy p3 p4 p5) p2
    rw [overdubref05_Auto_L1_eq, overdubref05_Auto_L1_B_eq]
    simp only [h1, Option.bind_some, decide_true, decide_false, cond_true, cond_false, seqJ_n, seqJ_r, seqJ_e, headK_c, asB_bool, asI_int, asS_s, asN_int, Bool.not_true, Bool.not_false, Nat.beq_refl]
    rw [show overdubref05_Auto_L2 [.s x, .s (.int .i64 (((n : Nat) : Int) - 1)), .s y, .s (.int .i64 k)] [.s (.int .i64 0), .s (.int .i64 (k : Int))] μ = _ from hsum]
    simp only [Option.bind_some, decide_true, decide_false, cond_true, cond_false, seqJ_n, seqJ_r, seqJ_e, headK_c, asB_bool, asI_int, asS_s, asN_int, Bool.not_true, Bool.not_false, Nat.beq_refl]
    have hd : asum zs k (zs.length - k) = dotZ zs k := rfl
    rw [hd, p1]
    simp only [e1, Option.bind_some, decide_true, decide_false, cond_true, cond_false, seqJ_n, seqJ_r, seqJ_e, headK_c, asB_bool, asI_int, asS_s, asN_int, Bool.not_true, Bool.not_false, Nat.beq_refl]
    exact ih
theorem refAuto_is {μ : AMem} (h0 : WF μ) {x : SV} {zs : List Int} (hx : IsRow μ .i64 x zs) (hb : zs.length ≤ 4611686018427387904) {lags : Int} (hlg : -9223372036854775808 ≤ lags ∧ lags ≤ 9223372036854775807) :
    ∃ y μ', overdubref05_Auto [.s x, .s (.int .i64 lags)] μ = some (.tuple [.s y, .s (.int .i64 (autoE zs lags))], μ') ∧ Same μ μ' ∧ OwnRow μ.next μ' .i64 3 y (autoZ zs lags) := by
  rw [overdubref05_Auto_eq]
  unfold autoE autoZ
  by_cases c1 : lags < 0
  · simp only [c1, true_or, if_true, Option.bind_some, decide_true, decide_false, cond_true, cond_false, seqJ_n, seqJ_r, seqJ_e, headK_c, asB_bool, asI_int, asS_s, asN_int, Bool.not_true, Bool.not_false, Nat.beq_refl]
    exact ⟨_, _, rfl, Keep.refl h0, OwnRow.nil _ _ _ _⟩
  · by_cases c2 : lags > 12
    · simp only [c1, c2, or_true, if_true, Option.bind_some, decide_true, decide_false, cond_true, cond_false, seqJ_n, seqJ_r, seqJ_e, headK_c, asB_bool, asI_int, asS_s, asN_int, Bool.not_true, Bool.not_false, Nat.beq_refl]
      exact ⟨_, _, rfl, Keep.refl h0, OwnRow.nil _ _ _ _⟩
    · simp only [c1, c2, or_false, if_false, refMay_is hx hb, Option.bind_some, decide_true, decide_false, cond_true, cond_false, seqJ_n, seqJ_r, seqJ_e, headK_c, asB_bool, asI_int, asS_s, asN_int, Bool.not_true, Bool.not_false, Nat.beq_refl]
      by_cases c3 : checkZ zs = 0
      · have hc : (checkZ zs != 0) = false := by simp [c3]
        obtain ⟨hz, hl⟩ := checkZ_ok c3
        obtain ⟨n, hn⟩ : ∃ n : Nat, lags = n := ⟨lags.toNat, by omega⟩
        subst hn
        have hw : ((n + 1 : Nat) : Int) - 1 = (n : Int) := by omega
        obtain ⟨y, μ', g1, g2, g3⟩ := refAuto_rows h0 hx hz hl (n := n + 1) (by omega) (n + 1) 0 μ .nilSlice (by omega) (Keep.refl h0) (OwnRow.nil _ _ _ _)
        have e0 : ((0 : Nat) : Int) = 0 := rfl
        rw [e0] at g1
        have e2 : ((n : Nat) : Int).toNat = n := by omega
        simp only [hc, c3, ne_eq, not_true_eq_false, if_false, e2, Option.bind_some, decide_true, decide_false, cond_true, cond_false, seqJ_n, seqJ_r, seqJ_e, headK_c, asB_bool, asI_int, asS_s, asN_int, Bool.not_true, Bool.not_false, Nat.beq_refl]
        rw [← hw, g1]
        simp only [Option.bind_some, decide_true, decide_false, cond_true, cond_false, seqJ_n, seqJ_r, seqJ_e, headK_c, asB_bool, asI_int, asS_s, asN_int, Bool.not_true, Bool.not_false, Nat.beq_refl]
        exact ⟨_, _, rfl, g2, g3⟩
      · have hc : (checkZ zs != 0) = true := by simp [c3]
        simp only [hc, c3, ne_eq, not_false_eq_true, if_true, Option.bind_some, decide_true, decide_false, cond_true, cond_false, seqJ_n, seqJ_r, seqJ_e, headK_c, asB_bool, asI_int, asS_s, asN_int, Bool.not_true, Bool.not_false, Nat.beq_refl]
        exact ⟨_, _, rfl, Keep.refl h0, OwnRow.nil _ _ _ _⟩
end Go.Proofs.YtnjenjbodcihmaaGreat
namespace Go.Proofs.YtnjenjbodcihmaaGreat
open Go Go.Proofs.YtnjenjbodcihmaaGreat.E
set_option linter.unusedVariables false
set_option linter.unusedSimpArgs false
theorem down_is (a b : Int) (hb : 1 ≤ b) (ha : -4611686018427387904 ≤ a ∧ a ≤ 4611686018427387904) (μ : AMem) :
    overdubref05_down [.s (.int .i64 a), .s (.int .i64 b)] μ = some (.s (.int .i64 (a / b)), μ) := by
  rw [overdubref05_down_eq]
  have h2 : ¬ b = 0 := by omega
  have hd := Int.mul_ediv_add_emod a b
  have hlt := Int.emod_lt_of_pos a (show 0 < b by omega)
  have hge := Int.emod_nonneg a h2
  have hq : -4611686018427387904 ≤ a / b ∧ a / b ≤ 4611686018427387904 := by
    constructor
    · have : -4611686018427387904 * b ≤ a := by have := Int.mul_le_mul_of_nonneg_left hb (show (0 : Int) ≤ 4611686018427387904 by omega); omega
      exact (Int.le_ediv_iff_mul_le (by omega)).mpr this
    · rcases Int.lt_or_le a 0 with h | h
      · have := Int.ediv_neg_of_neg_of_pos h (show 0 < b by omega); omega
      · have := Int.ediv_le_self b h; omega
  have hdiv : a.tdiv b = if 0 ≤ a ∨ a % b = 0 then a / b else a / b + 1 := by
    rw [Int.tdiv_eq_ediv]
    by_cases h : 0 ≤ a
    · simp [h]
    · by_cases h3 : a % b = 0
      · have : b ∣ a := Int.dvd_of_emod_eq_zero h3
        simp [h3, this]
      · have : ¬ b ∣ a := fun hd => h3 (Int.emod_eq_zero_of_dvd hd)
        have hs : b.sign = 1 := Int.sign_eq_one_of_pos (by omega)
        simp [h, this, h3, hs]
  have hmod : (a.tmod b != 0) = decide (a % b ≠ 0) := by
    rw [Int.tmod_eq_emod]
    by_cases h : 0 ≤ a
    · simp [h, bne]
      cases hz : decide (a % b = 0) <;> simp_all
    · by_cases h3 : a % b = 0
      · have : b ∣ a := Int.dvd_of_emod_eq_zero h3
        simp [h3, this]
      · have : ¬ b ∣ a := fun hd => h3 (Int.emod_eq_zero_of_dvd hd)
        simp [h, this, h3]; omega
  rw [if_neg h2, if_neg h2, hmod, hdiv]
  by_cases h3 : a % b = 0
  · simp only [h3, ne_eq, not_true_eq_false, decide_false, cond_false, seqJ_n, headK_c, asB_bool, asI_int, or_true, if_true]
    rw [wr (by omega)]
  · by_cases h : 0 ≤ a
    · have : ¬ a < 0 := by omega
      simp only [h3, h, this, ne_eq, not_false_eq_true, decide_true, decide_false, cond_true, cond_false, seqJ_n, headK_c, asB_bool, asI_int, true_or, if_true]
      rw [wr (by omega)]
    · have : a < 0 := by omega
      simp only [h3, h, this, ne_eq, not_false_eq_true, decide_true, cond_true, seqJ_n, headK_c, asB_bool, asI_int, or_false, if_false]
      rw [wr (n := a / b + 1) (by omega), wr (by omega)]
      congr 4; omega
theorem quot_wide {a b : Int} (hb : 1 ≤ b) (ha : -9223372036854775808 ≤ a ∧ a ≤ 9223372036854775807) : (-9223372036854775808 ≤ a / b ∧ a / b ≤ 9223372036854775807) ∧ (a % b ≠ 0 → a < 0 → a / b + 1 ≤ 0) ∧
    (a.tdiv b = if 0 ≤ a ∨ a % b = 0 then a / b else a / b + 1) ∧ (a.tmod b = if 0 ≤ a ∨ a % b = 0 then a % b else a % b - b) := by
  have h2 : ¬ b = 0 := by omega
  have hlt := Int.emod_lt_of_pos a (show 0 < b by omega)
  have hge := Int.emod_nonneg a h2
  refine ⟨⟨?_, ?_⟩, fun _ h => ?_, ?_, ?_⟩
  · have : -9223372036854775808 * b ≤ a := by have := Int.mul_le_mul_of_nonneg_left hb (show (0 : Int) ≤ 9223372036854775808 by omega); omega
    exact (Int.le_ediv_iff_mul_le (by omega)).mpr this
  · rcases Int.lt_or_le a 0 with h | h
    · have := Int.ediv_neg_of_neg_of_pos h (show 0 < b by omega); omega
    · have := Int.ediv_le_self b h; omega
  · have := Int.ediv_neg_of_neg_of_pos h (show 0 < b by omega); omega
  · rw [Int.tdiv_eq_ediv]
    by_cases h : 0 ≤ a
    · simp [h]
    · by_cases h3 : a % b = 0
      · have : b ∣ a := Int.dvd_of_emod_eq_zero h3
        simp [h3, this]
      · have : ¬ b ∣ a := fun hd => h3 (Int.emod_eq_zero_of_dvd hd)
        have hs : b.sign = 1 := Int.sign_eq_one_of_pos (by omega)
        simp [h, this, h3, hs]
  · rw [Int.tmod_eq_emod]
    by_cases h : 0 ≤ a
    · simp [h]
    · by_cases h3 : a % b = 0
      · have : b ∣ a := Int.dvd_of_emod_eq_zero h3
        simp [h3, this]
      · have : ¬ b ∣ a := fun hd => h3 (Int.emod_eq_zero_of_dvd hd)
        simp [h, this, h3]; omega
theorem down_wide (a b : Int) (hb : 1 ≤ b) (ha : -9223372036854775808 ≤ a ∧ a ≤ 9223372036854775807) (μ : AMem) :
    overdubref05_down [.s (.int .i64 a), .s (.int .i64 b)] μ = some (.s (.int .i64 (a / b)), μ) := by
  obtain ⟨hq, hn, hdiv, hmod⟩ := quot_wide hb ha
  have h2 : ¬ b = 0 := by omega
  have hlt := Int.emod_lt_of_pos a (show 0 < b by omega)
  have hge := Int.emod_nonneg a h2
  rw [overdubref05_down_eq, if_neg h2, if_neg h2, hmod, hdiv]
  by_cases h3 : a % b = 0
  · have c1 : 0 ≤ a ∨ a % b = 0 := .inr h3
    rw [if_pos c1, if_pos c1]
    simp -implicitDefEqProofs (disch := omega) only [sw, ss, h3]
  · by_cases h : 0 ≤ a
    · have c1 : 0 ≤ a ∨ a % b = 0 := .inl h
      rw [if_pos c1, if_pos c1]
      simp -implicitDefEqProofs (disch := omega) only [sw, ss]
    · have c1 : ¬ (0 ≤ a ∨ a % b = 0) := fun hh => hh.elim h h3
      rw [if_neg c1, if_neg c1]
      have := hn h3 (by omega)
      simp -implicitDefEqProofs (disch := omega) only [sw, ss]
      rw [show a / b + 1 - 1 = a / b by omega]
end Go.Proofs.YtnjenjbodcihmaaGreat
namespace Go.Proofs.YtnjenjbodcihmaaGreat
open Go Go.Proofs.YtnjenjbodcihmaaGreat.E
set_option linter.unusedVariables false
set_option linter.unusedSimpArgs false
def farB (v : Int) : Bool := decide (v < -1152921504606846976) || decide (v > 1152921504606846976)
def scaleF (r : Int) : Nat → Nat → Nat
  | 0, s => s
  | f + 1, s => if r / 2 ^ s ≥ 1073741824 then scaleF r f (s + 1) else s
def scaleS (r : Int) : Nat := scaleF r 40 0
def noScale (zs : List Int) : Bool := zs.isEmpty || decide (zs.getD 0 0 < 0) || zs.any farB
def scaledE (zs : List Int) : Nat := if noScale zs then 0 else scaleS (zs.getD 0 0)
def scaledZ (zs : List Int) : List Int := if noScale zs then [] else zs.map fun v => v / 2 ^ scaledE zs
theorem scaleF_le (r : Int) : ∀ f s, scaleF r f s ≤ s + f
  | 0, s => Nat.le_refl _
  | f + 1, s => by
    unfold scaleF; split
    · have := scaleF_le r f (s + 1); omega
    · omega
theorem scaledE_le (zs : List Int) : scaledE zs ≤ 40 := by
  unfold scaledE scaleS; split
  · omega
  · have := scaleF_le (zs.getD 0 0) 40 0; omega
theorem fdivp (z : Int) (n : Nat) : Int.fdiv z (2 ^ n) = z / 2 ^ n := Int.fdiv_eq_ediv_of_nonneg _ (Int.le_of_lt (Int.pow_pos (by omega)))
theorem end40 {r : Int} (h0 : 0 ≤ r) (h1 : r ≤ 1152921504606846976) : ¬ r / 2 ^ (40 : Nat) ≥ 1073741824 := by
  have : r / 2 ^ (40 : Nat) ≤ 1152921504606846976 / 2 ^ (40 : Nat) := Int.ediv_le_ediv (by decide) h1
  have h2 : (1152921504606846976 : Int) / 2 ^ (40 : Nat) = 1048576 := by decide
  omega
theorem min40 {s : Nat} (h : s ≤ 40) : min (Int.toNat (s : Int)) (IntKind.bits .i64) = s := by show min (Int.toNat (s : Int)) 64 = s; omega
theorem u64_nat {s : Nat} (h : s ≤ 40) : IntKind.wrap .u64 (s : Int) = s := by simp [IntKind.wrap, IntKind.signed, IntKind.bits]; omega
theorem pow40 {s : Nat} (h : s ≤ 40) : (1 : Int) ≤ 2 ^ s ∧ (2 : Int) ^ s ≤ 1099511627776 := by
  have h1 : (2 : Nat) ^ s ≤ 2 ^ 40 := Nat.pow_le_pow_right (by omega) h
  have h2 : 1 ≤ (2 : Nat) ^ s := Nat.one_le_two_pow
  have e : ((2 : Int) ^ s) = ((2 ^ s : Nat) : Int) := by simp
  rw [e]
  have h3 : (2 : Nat) ^ 40 = 1099511627776 := by decide
  omega
theorem scaled_far {μ : AMem} {x : SV} {zs : List Int} (hx : IsRow μ .i64 x zs) (hb : zs.length ≤ 4611686018427387904) :
    ∀ k i : Nat, i + k = zs.length → levin_Scaled_L1 [.s x, .s x, .s (.int .i64 zs.length)] [.s (.int .i64 i)] μ = if (zs.drop i).any farB then some (.ret, [.s .nilSlice, .s (.int .i64 0)], μ) else some (.exit 0, [.s x], μ)
  | 0, i, h => by
    have h1 : ¬ (i : Int) < (zs.length : Int) := by omega
    rw [levin_Scaled_L1_eq, levin_Scaled_L1_B_eq, List.drop_eq_nil_of_le (by omega)]
    simp only [h1, List.any_nil, Bool.false_eq_true, if_false, ss]
  | k + 1, i, h => by
    have ih := scaled_far hx hb k (i + 1) (by omega)
    have h1 : (i : Int) < (zs.length : Int) := by omega
    have e1 : IntKind.wrap .i64 ((i : Int) + 1) = ((i + 1 : Nat) : Int) := by rw [wr (by omega)]; omega
    have e3 : (((i : Nat) : Int)).toNat = i := by omega
    have hi : i < zs.length := by omega
    have g1 : zs.getD i 0 = zs[i] := by rw [List.getD_eq_getElem?_getD, List.getElem?_eq_getElem hi]; rfl
    rw [levin_Scaled_L1_eq, levin_Scaled_L1_B_eq, List.drop_eq_getElem_cons hi]
    simp only [h1, ss]
    rw [hx.ind (by omega) h1, hx.load (by omega) h1, asI_int, e3, g1]
    simp only [List.any_cons]
    by_cases c1 : zs[i] < -1152921504606846976
    · have ho : farB zs[i] = true := by simp [farB]; omega
      simp only [c1, ho, Bool.true_or, if_true, ss]
    · by_cases c2 : zs[i] > 1152921504606846976
      · have ho : farB zs[i] = true := by simp [farB]; omega
        simp only [c1, c2, ho, Bool.true_or, if_true, ss]
      · have ho : farB zs[i] = false := by simp [farB]; omega
        simp only [c1, c2, ho, Bool.false_or, e1, ss]
        exact ih
theorem refScaled_far {μ : AMem} {x : SV} {zs : List Int} (hx : IsRow μ .i64 x zs) (hb : zs.length ≤ 4611686018427387904) :
    ∀ k i : Nat, i + k = zs.length → overdubref05_Scaled_L1 [.s x, .s (.int .i64 zs.length)] [.s (.int .i64 i)] μ = if (zs.drop i).any farB then some (.ret, [.s .nilSlice, .s (.int .i64 0)], μ) else some (.exit 0, [.s x], μ)
  | 0, i, h => by
    have h1 : ¬ (i : Int) < (zs.length : Int) := by omega
    rw [overdubref05_Scaled_L1_eq, overdubref05_Scaled_L1_B_eq, List.drop_eq_nil_of_le (by omega)]
    simp only [h1, List.any_nil, Bool.false_eq_true, if_false, ss]
  | k + 1, i, h => by
    have ih := refScaled_far hx hb k (i + 1) (by omega)
    have h1 : (i : Int) < (zs.length : Int) := by omega
    have e1 : IntKind.wrap .i64 ((i : Int) + 1) = ((i + 1 : Nat) : Int) := by rw [wr (by omega)]; omega
    have e3 : (((i : Nat) : Int)).toNat = i := by omega
    have hi : i < zs.length := by omega
    have g1 : zs.getD i 0 = zs[i] := by rw [List.getD_eq_getElem?_getD, List.getElem?_eq_getElem hi]; rfl
    rw [overdubref05_Scaled_L1_eq, overdubref05_Scaled_L1_B_eq, List.drop_eq_getElem_cons hi]
    simp only [h1, ss]
    rw [hx.ind (by omega) h1, hx.load (by omega) h1, asI_int, hx.ind (by omega) h1, hx.load (by omega) h1, asI_int, e3, g1]
    simp only [List.any_cons]
    by_cases c1 : zs[i] < -1152921504606846976
    · have ho : farB zs[i] = true := by simp [farB]; omega
      simp only [c1, ho, Bool.true_or, if_true, ss]
    · by_cases c2 : zs[i] > 1152921504606846976
      · have ho : farB zs[i] = true := by simp [farB]; omega
        simp only [c1, c2, ho, Bool.true_or, if_true, ss]
      · have ho : farB zs[i] = false := by simp [farB]; omega
        simp only [c1, c2, ho, Bool.false_or, e1, ss]
        exact ih
theorem scaled_shift {μ : AMem} {x : SV} {zs : List Int} (hx : IsRow μ .i64 x zs) (hp : 0 < zs.length) (h0 : 0 ≤ zs.getD 0 0) (h1 : zs.getD 0 0 ≤ 1152921504606846976) :
    ∀ f s : Nat, s + f = 40 → levin_Scaled_L2 [.s x] [.s (.int .i64 s)] μ = some (.exit 2, [.s x, .s (.int .i64 (scaleF (zs.getD 0 0) f s : Nat))], μ)
  | 0, s, h => by
    obtain rfl : s = 40 := by omega
    have h2 := end40 h0 h1
    have h3 : ¬ (((40 : Nat) : Int)) < 0 := by omega
    rw [levin_Scaled_L2_eq, levin_Scaled_L2_B_eq, hx.ind (by omega) (by omega), hx.load (by omega) (by omega), asI_int, if_neg h3]
    simp only [Int.toNat_zero, min40 (Nat.le_refl 40), fdivp, h2, scaleF, ss]
  | f + 1, s, h => by
    have ih := scaled_shift hx hp h0 h1 f (s + 1) (by omega)
    have h3 : ¬ ((s : Nat) : Int) < 0 := by omega
    have e1 : IntKind.wrap .i64 ((s : Int) + 1) = ((s + 1 : Nat) : Int) := by rw [wr (by omega)]; omega
    rw [levin_Scaled_L2_eq, levin_Scaled_L2_B_eq, hx.ind (by omega) (by omega), hx.load (by omega) (by omega), asI_int, if_neg h3]
    simp only [Int.toNat_zero, min40 (show s ≤ 40 by omega), fdivp, scaleF, e1]
    by_cases c : zs.getD 0 0 / 2 ^ s ≥ 1073741824
    · simp only [c, if_true, ss]; exact ih
    · simp only [c, if_false, ss]
theorem refScaled_shift {μ : AMem} {x : SV} {zs : List Int} (hx : IsRow μ .i64 x zs) (hp : 0 < zs.length) (h0 : 0 ≤ zs.getD 0 0) (h1 : zs.getD 0 0 ≤ 1152921504606846976) :
    ∀ f s : Nat, s + f = 40 → overdubref05_Scaled_L2 [.s x] [.s (.int .i64 s)] μ = some (.exit 2, [.s x, .s (.int .i64 (scaleF (zs.getD 0 0) f s : Nat))], μ)
  | 0, s, h => by
    obtain rfl : s = 40 := by omega
    have h2 := end40 h0 h1
    have h3 : ¬ (((40 : Nat) : Int)) < 0 := by omega
    have hp2 := pow40 (Nat.le_refl 40)
    rw [overdubref05_Scaled_L2_eq, overdubref05_Scaled_L2_B_eq, hx.ind (by omega) (by omega), hx.load (by omega) (by omega), asI_int, u64_nat (Nat.le_refl 40), if_neg h3, min40 (Nat.le_refl 40), Int.one_mul,
      wr (n := (2 : Int) ^ (40 : Nat)) (by omega), down_is _ _ hp2.1 (by rw [Int.toNat_zero]; omega)]
    simp only [Int.toNat_zero, h2, scaleF, ss]
  | f + 1, s, h => by
    have ih := refScaled_shift hx hp h0 h1 f (s + 1) (by omega)
    have h3 : ¬ ((s : Nat) : Int) < 0 := by omega
    have e1 : IntKind.wrap .i64 ((s : Int) + 1) = ((s + 1 : Nat) : Int) := by rw [wr (by omega)]; omega
    have hs : s ≤ 40 := by omega
    have hp2 := pow40 hs
    rw [overdubref05_Scaled_L2_eq, overdubref05_Scaled_L2_B_eq, hx.ind (by omega) (by omega), hx.load (by omega) (by omega), asI_int, u64_nat hs, if_neg h3, min40 hs, Int.one_mul,
      wr (n := (2 : Int) ^ s) (by omega), down_is _ _ hp2.1 (by rw [Int.toNat_zero]; omega)]
    simp only [Int.toNat_zero, scaleF, e1, ss]
    by_cases c : zs.getD 0 0 / 2 ^ s ≥ 1073741824
    · simp only [c, if_true, ss]; exact ih
    · simp only [c, if_false, ss]
theorem scaled_rows {μ0 : AMem} (h0 : WF μ0) {x : SV} {zs : List Int} (hx : IsRow μ0 .i64 x zs) (hb : zs.length ≤ 1000000) {s : Nat} (hs : s ≤ 40) :
    ∀ (j k : Nat) (μ : AMem) (y : SV), k + j = zs.length → Same μ0 μ → OwnRow μ0.next μ .i64 3 y ((zs.take k).map fun v => v / 2 ^ s) →
      ∃ y' μ', levin_Scaled_L3 [.s (.int .i64 s), .s x, .s (.int .i64 zs.length)] [.s y, .s (.int .i64 k)] μ = some (.exit 4, [.s (.int .i64 s), .s y'], μ') ∧ Same μ0 μ' ∧ OwnRow μ0.next μ' .i64 3 y' (zs.map fun v => v / 2 ^ s)
  | 0, k, μ, y, h, hsm, hy => by
    have h1 : ¬ (k : Int) < (zs.length : Int) := by omega
    rw [levin_Scaled_L3_eq, levin_Scaled_L3_B_eq]
    rw [List.take_of_length_le (by omega)] at hy
    simp only [h1, ss]
    exact ⟨y, μ, rfl, hsm, hy⟩
  | j + 1, k, μ, y, h, hsm, hy => by
    have hx' := hx.same hsm
    have h1 : (k : Int) < (zs.length : Int) := by omega
    have hi : k < zs.length := by omega
    have h3 : ¬ ((s : Nat) : Int) < 0 := by omega
    have e1 : IntKind.wrap .i64 ((k : Int) + 1) = ((k + 1 : Nat) : Int) := by rw [wr (by omega)]; omega
    have e3 : (((k : Nat) : Int)).toNat = k := by omega
    have g1 : zs.getD k 0 = zs[k] := by rw [List.getD_eq_getElem?_getD, List.getElem?_eq_getElem hi]; rfl
    have htake : (zs.take (k + 1)).map (fun v => v / 2 ^ s) = (zs.take k).map (fun v => v / 2 ^ s) ++ [zs[k] / 2 ^ s] := by
      rw [List.take_add_one, List.getElem?_eq_getElem hi, List.map_append]; rfl
    have hlen : ((zs.take k).map (fun v => v / 2 ^ s)).length = k := by simp; omega
    obtain ⟨y', μ', p1, p2, p3, p4, p5, p6⟩ := OwnRow.push (B := 8) (a := 4) (b := 5) (n := 7) (q := some 1) hsm.wf hy (zs[k] / 2 ^ s) (by omega) (by rw [hlen]; omega) hsm.next (by omega) (by omega) (by omega)
    rw [← htake] at p2
    have ih := scaled_rows h0 hx hb hs j (k + 1) μ' y' (by omega) (Same.push h0 hsm hy p3 p4 p5) p2
    rw [levin_Scaled_L3_eq, levin_Scaled_L3_B_eq]
    simp only [h1, ss]
    rw [hx'.ind (by omega) h1, hx'.load (by omega) h1, asI_int, e3, g1, if_neg h3, min40 hs, fdivp, p1]
    simp only [e1, ss]
    exact ih
theorem refScaled_rows {μ0 : AMem} (h0 : WF μ0) {x : SV} {zs : List Int} (hx : IsRow μ0 .i64 x zs) (hb : zs.length ≤ 1000000) (hz : ∀ v ∈ zs, -1152921504606846976 ≤ v ∧ v ≤ 1152921504606846976) {s : Nat} (hs : s ≤ 40) :
    ∀ (j k : Nat) (μ : AMem) (y : SV), k + j = zs.length → Same μ0 μ → OwnRow μ0.next μ .i64 3 y ((zs.take k).map fun v => v / 2 ^ s) →
      ∃ y' μ', overdubref05_Scaled_L3 [.s x, .s (.int .i64 s), .s (.int .i64 zs.length)] [.s y, .s (.int .i64 k)] μ = some (.exit 4, [.s (.int .i64 s), .s y'], μ') ∧ Same μ0 μ' ∧ OwnRow μ0.next μ' .i64 3 y' (zs.map fun v => v / 2 ^ s)
  | 0, k, μ, y, h, hsm, hy => by
    have h1 : ¬ (k : Int) < (zs.length : Int) := by omega
    rw [overdubref05_Scaled_L3_eq, overdubref05_Scaled_L3_B_eq]
    rw [List.take_of_length_le (by omega)] at hy
    simp only [h1, ss]
    exact ⟨y, μ, rfl, hsm, hy⟩
  | j + 1, k, μ, y, h, hsm, hy => by
    have hx' := (hx.same hsm).same (Keep.bump hsm.wf 12)
    have h1 : (k : Int) < (zs.length : Int) := by omega
    have hi : k < zs.length := by omega
    have h3 : ¬ ((s : Nat) : Int) < 0 := by omega
    have hp2 := pow40 hs
    have e1 : IntKind.wrap .i64 ((k : Int) + 1) = ((k + 1 : Nat) : Int) := by rw [wr (by omega)]; omega
    have e3 : (((k : Nat) : Int)).toNat = k := by omega
    have g1 : zs.getD k 0 = zs[k] := by rw [List.getD_eq_getElem?_getD, List.getElem?_eq_getElem hi]; rfl
    have hv := hz _ (List.getElem_mem hi)
    have htake : (zs.take (k + 1)).map (fun v => v / 2 ^ s) = (zs.take k).map (fun v => v / 2 ^ s) ++ [zs[k] / 2 ^ s] := by
      rw [List.take_add_one, List.getElem?_eq_getElem hi, List.map_append]; rfl
    have hlen : ((zs.take k).map (fun v => v / 2 ^ s)).length = k := by simp; omega
    obtain ⟨y', μ', p1, p2, p3, p4, p5, p6⟩ := OwnRow.push (B := 8) (a := 9) (b := 10) (n := 12) (q := some 1) hsm.wf hy (zs[k] / 2 ^ s) (by omega) (by rw [hlen]; omega) hsm.next (by omega) (by omega) (by omega)
    rw [← htake] at p2
    have ih := refScaled_rows h0 hx hb hz hs j (k + 1) μ' y' (by omega) (Same.push h0 hsm hy p3 p4 p5) p2
    rw [overdubref05_Scaled_L3_eq, overdubref05_Scaled_L3_B_eq]
    simp only [h1, ss]
    rw [hx'.ind (by omega) h1, hx'.load (by omega) h1, asI_int, e3, g1, u64_nat hs, if_neg h3, min40 hs, Int.one_mul, wr (n := (2 : Int) ^ s) (by omega), down_is _ _ hp2.1 (by omega)]
    simp only [ss]
    rw [p1]
    simp only [e1, ss]
    exact ih
theorem noScale_no {zs : List Int} (h : noScale zs = false) : 0 < zs.length ∧ 0 ≤ zs.getD 0 0 ∧ zs.getD 0 0 ≤ 1152921504606846976 ∧ zs.any farB = false ∧ ∀ v ∈ zs, -1152921504606846976 ≤ v ∧ v ≤ 1152921504606846976 := by
  simp only [noScale, Bool.or_eq_false_iff, decide_eq_false_iff_not] at h
  obtain ⟨⟨h1, h2⟩, h3⟩ := h
  have hp : 0 < zs.length := by cases zs with | nil => simp at h1 | cons a l => simp
  have hz : ∀ v ∈ zs, -1152921504606846976 ≤ v ∧ v ≤ 1152921504606846976 := by
    intro v hv
    have := List.any_eq_false.mp h3 v hv
    simp [farB] at this; omega
  have hm : zs.getD 0 0 ∈ zs := by rw [List.getD_eq_getElem?_getD, List.getElem?_eq_getElem hp]; exact List.getElem_mem hp
  exact ⟨hp, by omega, (hz _ hm).2, h3, hz⟩
theorem scaled_is {μ : AMem} (h0 : WF μ) {x : SV} {zs : List Int} (hx : IsRow μ .i64 x zs) (hb : zs.length ≤ 1000000) :
    ∃ y μ', levin_Scaled [.s x] μ = some (.tuple [.s y, .s (.int .i64 (scaledE zs))], μ') ∧ Same μ μ' ∧ OwnRow μ.next μ' .i64 3 y (scaledZ zs) := by
  rw [levin_Scaled_eq, hx.len]
  unfold scaledZ
  have e00 : ((0 : Nat) : Int) = 0 := rfl
  by_cases c0 : zs = []
  · subst c0
    have hn : noScale [] = true := rfl
    have he : scaledE [] = 0 := rfl
    simp only [List.length_nil, hn, he, e00, if_true, beq_self_eq_true, ss]
    exact ⟨_, _, rfl, Keep.refl h0, OwnRow.nil _ _ _ _⟩
  · have hp : 0 < zs.length := List.length_pos_iff.mpr c0
    have hl : (((zs.length : Nat) : Int) == 0) = false := by simp [c0]
    simp only [hl, ss]
    rw [hx.ind (by omega) (by omega), hx.load (by omega) (by omega), asI_int, Int.toNat_zero]
    by_cases c1 : zs.getD 0 0 < 0
    · have hn : noScale zs = true := by unfold noScale; rw [decide_eq_true c1]; simp
      have he : scaledE zs = 0 := by unfold scaledE; rw [if_pos hn]
      simp only [c1, hn, he, e00, if_true, ss]
      exact ⟨_, _, rfl, Keep.refl h0, OwnRow.nil _ _ _ _⟩
    · have hfar := scaled_far hx (by omega) _ 0 (Nat.zero_add _)
      rw [e00, List.drop_zero] at hfar
      simp only [c1, hfar, hx.len, ss]
      by_cases c2 : zs.any farB = true
      · have hn : noScale zs = true := by simp [noScale, c2]
        have he : scaledE zs = 0 := by unfold scaledE; rw [if_pos hn]
        simp only [c2, hn, he, e00, if_true, ss]
        exact ⟨_, _, rfl, Keep.refl h0, OwnRow.nil _ _ _ _⟩
      · have c2' : zs.any farB = false := by simpa using c2
        have hemp : zs.isEmpty = false := by cases zs with | nil => exact absurd rfl c0 | cons a l => rfl
        have hn : noScale zs = false := by unfold noScale; rw [hemp, c2', decide_eq_false c1]; rfl
        obtain ⟨g1, g2, g3, g4, g5⟩ := noScale_no hn
        have hsh := scaled_shift hx g1 g2 g3 40 0 rfl
        rw [e00] at hsh
        have he : scaledE zs = scaleF (zs.getD 0 0) 40 0 := by unfold scaledE scaleS; rw [if_neg (by simp [hn])]
        rw [← he] at hsh
        obtain ⟨y, μ', r1, r2, r3⟩ := scaled_rows h0 hx hb (scaledE_le zs) zs.length 0 μ .nilSlice (by omega) (Keep.refl h0) (by simpa using OwnRow.nil _ _ _ _)
        rw [e00] at r1
        simp only [c2', hn, Bool.false_eq_true, if_false, hsh, hx.len, r1, ss]
        exact ⟨_, _, rfl, r2, r3⟩
theorem refScaled_is {μ : AMem} (h0 : WF μ) {x : SV} {zs : List Int} (hx : IsRow μ .i64 x zs) (hb : zs.length ≤ 1000000) :
    ∃ y μ', overdubref05_Scaled [.s x] μ = some (.tuple [.s y, .s (.int .i64 (scaledE zs))], μ') ∧ Same μ μ' ∧ OwnRow μ.next μ' .i64 3 y (scaledZ zs) := by
  rw [overdubref05_Scaled_eq, hx.len]
  unfold scaledZ
  have e00 : ((0 : Nat) : Int) = 0 := rfl
  by_cases c0 : zs = []
  · subst c0
    have hn : noScale [] = true := rfl
    have he : scaledE [] = 0 := rfl
    simp only [List.length_nil, hn, he, e00, if_true, beq_self_eq_true, ss]
    exact ⟨_, _, rfl, Keep.refl h0, OwnRow.nil _ _ _ _⟩
  · have hp : 0 < zs.length := List.length_pos_iff.mpr c0
    have hl : (((zs.length : Nat) : Int) == 0) = false := by simp [c0]
    simp only [hl, ss]
    rw [hx.ind (by omega) (by omega), hx.load (by omega) (by omega), asI_int, Int.toNat_zero]
    by_cases c1 : zs.getD 0 0 < 0
    · have hn : noScale zs = true := by unfold noScale; rw [decide_eq_true c1]; simp
      have he : scaledE zs = 0 := by unfold scaledE; rw [if_pos hn]
      simp only [c1, hn, he, e00, if_true, ss]
      exact ⟨_, _, rfl, Keep.refl h0, OwnRow.nil _ _ _ _⟩
    · have hfar := refScaled_far hx (by omega) _ 0 (Nat.zero_add _)
      rw [e00, List.drop_zero] at hfar
      simp only [c1, hfar, hx.len, ss]
      by_cases c2 : zs.any farB = true
      · have hn : noScale zs = true := by simp [noScale, c2]
        have he : scaledE zs = 0 := by unfold scaledE; rw [if_pos hn]
        simp only [c2, hn, he, e00, if_true, ss]
        exact ⟨_, _, rfl, Keep.refl h0, OwnRow.nil _ _ _ _⟩
      · have c2' : zs.any farB = false := by simpa using c2
        have hemp : zs.isEmpty = false := by cases zs with | nil => exact absurd rfl c0 | cons a l => rfl
        have hn : noScale zs = false := by unfold noScale; rw [hemp, c2', decide_eq_false c1]; rfl
        obtain ⟨g1, g2, g3, g4, g5⟩ := noScale_no hn
        have hsh := refScaled_shift hx g1 g2 g3 40 0 rfl
        rw [e00] at hsh
        have he : scaledE zs = scaleF (zs.getD 0 0) 40 0 := by unfold scaledE scaleS; rw [if_neg (by simp [hn])]
        rw [← he] at hsh
        obtain ⟨y, μ', r1, r2, r3⟩ := refScaled_rows h0 hx hb g5 (scaledE_le zs) zs.length 0 μ .nilSlice (by omega) (Keep.refl h0) (by simpa using OwnRow.nil _ _ _ _)
        rw [e00] at r1
        simp only [c2', hn, Bool.false_eq_true, if_false, hsh, hx.len, r1, ss]
        exact ⟨_, _, rfl, r2, r3⟩
end Go.Proofs.YtnjenjbodcihmaaGreat
namespace Go.Proofs.YtnjenjbodcihmaaGreat
open Go Go.Proofs.YtnjenjbodcihmaaGreat.E
set_option linter.unusedVariables false
set_option linter.unusedSimpArgs false
def coefB (p : Int) : Bool := decide (-32768 ≤ p) && decide (p ≤ 32767)
def mayC (cs : List Int) : Bool := cs.all coefB && (decide (1 ≤ cs.length) && decide (cs.length ≤ 12))
theorem mayC_spec {cs : List Int} (h : mayC cs = true) : 1 ≤ cs.length ∧ cs.length ≤ 12 := by
  unfold mayC at h
  simp only [Bool.and_eq_true, decide_eq_true_eq] at h
  exact h.2
end Go.Proofs.YtnjenjbodcihmaaGreat
namespace Go.Proofs.YtnjenjbodcihmaaGreat
open Go Go.Proofs.YtnjenjbodcihmaaGreat.E
set_option linter.unusedVariables false
set_option linter.unusedSimpArgs false
theorem refMayC_loop {μ : AMem} {x : SV} {zs : List Int} (hx : IsRow μ .i64 x zs) (hb : zs.length ≤ 1000000000000) :
    ∀ k i : Nat, i + k = zs.length → overdubref05_MayCoefs_L1 [.s x, .s (.int .i64 zs.length)] [.s (.int .i64 i)] μ = if (zs.drop i).all coefB then some (.exit 0, [.s x], μ) else some (.ret, [.s (.bool false)], μ)
  | 0, i, h => by
    rw [overdubref05_MayCoefs_L1_eq, overdubref05_MayCoefs_L1_B_eq, List.drop_eq_nil_of_le (by omega)]
    simp -implicitDefEqProofs (disch := omega) only [sw, ss, List.all_nil, if_true]
  | k + 1, i, h => by
    have ih := refMayC_loop hx hb k (i + 1) (by omega)
    rw [nsu] at ih
    rw [overdubref05_MayCoefs_L1_eq, overdubref05_MayCoefs_L1_B_eq, drop_cons (i := i) (by omega)]
    by_cases h1 : zs.getD i 0 < -32768
    · have hc : coefB (zs.getD i 0) = false := by unfold coefB; rw [decide_eq_false (by omega)]; rfl
      simp -implicitDefEqProofs (disch := omega) only [sw, ss, hx.ind, hx.load, nat_toNat, hc, List.all_cons, Bool.false_and, Bool.false_eq_true, if_false]
    · by_cases h2 : zs.getD i 0 > 32767
      · have hc : coefB (zs.getD i 0) = false := by unfold coefB; rw [decide_eq_false (p := zs.getD i 0 ≤ 32767) (by omega), Bool.and_false]
        simp -implicitDefEqProofs (disch := omega) only [sw, ss, hx.ind, hx.load, nat_toNat, hc, List.all_cons, Bool.false_and, Bool.false_eq_true, if_false]
      · have hc : coefB (zs.getD i 0) = true := by unfold coefB; rw [decide_eq_true (p := zs.getD i 0 ≤ 32767) (by omega), decide_eq_true (by omega)]; rfl
        simp -implicitDefEqProofs (disch := omega) only [sw, ss, hx.ind, hx.load, nat_toNat, hc, List.all_cons, Bool.true_and]
        exact ih
theorem refMayC_is {μ : AMem} {x : SV} {zs : List Int} (hx : IsRow μ .i64 x zs) (hb : zs.length ≤ 1000000000000) : overdubref05_MayCoefs [.s x] μ = some (.s (.bool (mayC zs)), μ) := by
  have := refMayC_loop hx hb _ 0 (Nat.zero_add _)
  rw [n0, List.drop_zero] at this
  rw [overdubref05_MayCoefs_eq, hx.len]
  unfold mayC
  cases hc : zs.all coefB
  · rw [hc] at this
    simp only [Bool.false_eq_true, if_false] at this
    simp -implicitDefEqProofs (disch := omega) only [sw, ss, this, Bool.false_and]
  · rw [hc] at this
    simp only [if_true] at this
    by_cases h1 : 1 ≤ zs.length
    · by_cases h2 : zs.length ≤ 12
      · simp -implicitDefEqProofs (disch := omega) only [sw, ss, this, hx.len, Bool.true_and, h1, h2, decide_true, Bool.and_self]
      · simp -implicitDefEqProofs (disch := omega) only [sw, ss, this, hx.len, Bool.true_and, h1, h2, decide_true, decide_false, Bool.and_false]
    · simp -implicitDefEqProofs (disch := omega) only [sw, ss, this, hx.len, Bool.true_and, h1, decide_false, Bool.false_and]
end Go.Proofs.YtnjenjbodcihmaaGreat
namespace Go.Proofs.YtnjenjbodcihmaaGreat
open Go Go.Proofs.YtnjenjbodcihmaaGreat.E
set_option linter.unusedVariables false
set_option linter.unusedSimpArgs false
abbrev w6 (n : Int) : Int := IntKind.wrap .i64 n
theorem w6_le (n : Int) : -9223372036854775808 ≤ w6 n ∧ w6 n ≤ 9223372036854775807 := by unfold w6; rw [IntKind.wrap_i64]; omega
def upd (old : List Int) (k : Int) (i : Nat) : Nat → Nat → List Int → List Int
  | 0, j, l => l
  | n + 1, j, l => upd old k i n (j + 1) (l.set j (w6 (old.getD j 0 - w6 (k * old.getD (i - j) 0) / 4096)))
def numZ (R A : List Int) (i : Nat) : Nat → Nat → Int → Int
  | 0, j, s => s
  | n + 1, j, s => numZ R A i n (j + 1) (w6 (s - w6 (A.getD j 0 * R.getD (i - j) 0)))
def clampZ (q : Int) : Int := if q < -4095 then -4095 else if 4095 < q then 4095 else q
def kZ (R A : List Int) (i : Nat) (e : Int) : Int := clampZ (numZ R A i (i - 1) 1 (w6 (R.getD i 0 * 4096)) / e)
def nextE (k e : Int) : Int := w6 (e - w6 (w6 (k * k) / 4096 * e) / 4096)
def coefL (R : List Int) : Nat → Nat → Int → List Int → Option (List Int)
  | 0, i, e, A => some A
  | n + 1, i, e, A => if e < 1 then none else coefL R n (i + 1) (nextE (kZ R A i e) e) ((upd A (kZ R A i e) i (i - 1) 1 A).set i (kZ R A i e))
theorem clampZ_le (q : Int) : -4095 ≤ clampZ q ∧ clampZ q ≤ 4095 := by unfold clampZ; split <;> (try split) <;> omega
theorem upd_len (old : List Int) (k : Int) (i : Nat) : ∀ (n j : Nat) (l : List Int), (upd old k i n j l).length = l.length
  | 0, j, l => rfl
  | n + 1, j, l => by rw [upd, upd_len old k i n (j + 1)]; simp
theorem numZ_le (R A : List Int) (i : Nat) : ∀ (n j : Nat) (s : Int), (-9223372036854775808 ≤ s ∧ s ≤ 9223372036854775807) → -9223372036854775808 ≤ numZ R A i n j s ∧ numZ R A i n j s ≤ 9223372036854775807
  | 0, j, s, h => h
  | n + 1, j, s, h => numZ_le R A i n (j + 1) _ (w6_le _)
theorem floor_is (a b : Int) (hb : 1 ≤ b) (ha : -9223372036854775808 ≤ a ∧ a ≤ 9223372036854775807) (μ : AMem) :
    levin_floor [.s (.int .i64 a), .s (.int .i64 b)] μ = some (.s (.int .i64 (a / b)), μ) := by
  obtain ⟨hq, hn, hdiv, hmod⟩ := quot_wide hb ha
  have h2 : ¬ b = 0 := by omega
  have hlt := Int.emod_lt_of_pos a (show 0 < b by omega)
  have hge := Int.emod_nonneg a h2
  rw [levin_floor_eq, if_neg h2, if_neg h2, hmod, hdiv]
  by_cases c1 : 0 ≤ a ∨ a % b = 0
  · rw [if_pos c1, if_pos c1]
    simp -implicitDefEqProofs (disch := omega) only [sw, ss]
  · rw [if_neg c1, if_neg c1]
    have := hn (fun h => c1 (.inr h)) (by omega)
    simp -implicitDefEqProofs (disch := omega) only [sw, ss]
    rw [show a / b + 1 - 1 = a / b by omega]
theorem div4096 (z : Int) : Int.fdiv z (2 ^ (12 : Nat)) = z / 4096 := by rw [fdivp]; rfl
theorem clamp1 (q : Int) : (if (if 4095 < q then 4095 else q) > (-4095) then (if 4095 < q then 4095 else q) else (-4095)) = clampZ q := by
  unfold clampZ; split <;> split <;> (try split) <;> omega
theorem clamp2 (q : Int) : (if 4095 < (if (-4095) > q then (-4095) else q) then 4095 else (if (-4095) > q then (-4095) else q)) = clampZ q := by
  unfold clampZ; split <;> split <;> (try split) <;> omega
theorem num_loop {m : AMem} {r a : SV} {R A : List Int} {p e : Int} {i : Nat} (hr : IsRow m .i64 r R) (ha : IsRow m .i64 a A) (hR : i < R.length) (hA : i ≤ A.length) (hb : i ≤ 1000) :
    ∀ (n j : Nat) (s : Int), j + n = i → levin_Coefficients_L3 [.s (.int .i64 p), .s r, .s (.int .i64 e), .s a, .s (.int .i64 i)] [.s (.int .i64 s), .s (.int .i64 j)] m = some (.exit 2, [.s (.int .i64 p), .s r, .s (.int .i64 e), .s a, .s (.int .i64 i), .s (.int .i64 (numZ R A i n j s))], m)
  | 0, j, s, h => by
    rw [levin_Coefficients_L3_eq, levin_Coefficients_L3_B_eq]
    simp -implicitDefEqProofs (disch := omega) only [sw, ss]
    rfl
  | n + 1, j, s, h => by
    have ih := num_loop (p := p) (e := e) hr ha hR hA hb n (j + 1) (w6 (s - w6 (A.getD j 0 * R.getD (i - j) 0))) (by omega)
    rw [nsu] at ih
    have e1 : ((i : Int) - (j : Int)).toNat = i - j := by omega
    rw [levin_Coefficients_L3_eq, levin_Coefficients_L3_B_eq]
    simp -implicitDefEqProofs (disch := omega) only [sw, ss, ha.ind, ha.load, hr.ind, hr.load, nat_toNat, e1]
    exact ih
theorem refNum_loop {m : AMem} {r a : SV} {R A : List Int} {p e : Int} {i : Nat} (hr : IsRow m .i64 r R) (ha : IsRow m .i64 a A) (hR : i < R.length) (hA : i ≤ A.length) (hb : i ≤ 1000) :
    ∀ (n j : Nat) (s : Int), j + n = i → overdubref05_Coefficients_L2 [.s (.int .i64 p), .s r, .s (.int .i64 e), .s a, .s (.int .i64 i)] [.s (.int .i64 s), .s (.int .i64 j)] m = some (.exit 2, [.s (.int .i64 p), .s r, .s (.int .i64 e), .s a, .s (.int .i64 i), .s (.int .i64 (numZ R A i n j s))], m)
  | 0, j, s, h => by
    rw [overdubref05_Coefficients_L2_eq, overdubref05_Coefficients_L2_B_eq]
    simp -implicitDefEqProofs (disch := omega) only [sw, ss]
    rfl
  | n + 1, j, s, h => by
    have ih := refNum_loop (p := p) (e := e) hr ha hR hA hb n (j + 1) (w6 (s - w6 (A.getD j 0 * R.getD (i - j) 0))) (by omega)
    rw [nsu] at ih
    have e1 : ((i : Int) - (j : Int)).toNat = i - j := by omega
    rw [overdubref05_Coefficients_L2_eq, overdubref05_Coefficients_L2_B_eq]
    simp -implicitDefEqProofs (disch := omega) only [sw, ss, ha.ind, ha.load, hr.ind, hr.load, nat_toNat, e1]
    exact ih
theorem upd_loop {μ0 : AMem} (h0 : WF μ0) {r a o : SV} {O : List Int} {p e k : Int} {i : Nat} (hO : i < O.length) (hb : i ≤ 1000) (hao : Apart a o) :
    ∀ (n j : Nat) (m : AMem) (L : List Int), j + n = i → 1 ≤ j → i ≤ L.length → Same μ0 m → OwnRow μ0.next m .i64 3 a L → IsRow m .i64 o O →
      ∃ m', levin_Coefficients_L4 [.s (.int .i64 p), .s r, .s (.int .i64 e), .s a, .s (.int .i64 i), .s (.int .i64 k), .s o] [.s (.int .i64 j)] m = some (.exit 4, [.s (.int .i64 p), .s r, .s (.int .i64 e), .s a, .s (.int .i64 i), .s (.int .i64 k)], m') ∧ Same μ0 m' ∧ OwnRow μ0.next m' .i64 3 a (upd O k i n j L)
  | 0, j, m, L, h, h1, hL, hs, ha, ho => by
    rw [levin_Coefficients_L4_eq, levin_Coefficients_L4_B_eq]
    simp -implicitDefEqProofs (disch := omega) only [sw, ss]
    exact ⟨m, rfl, hs, ha⟩
  | n + 1, j, m, L, h, h1, hL, hs, ha, ho => by
    obtain ⟨m1, s1, s2, s3, s4, s5, s6⟩ := storeS h0 hs ha (i := j) (by omega) (w6 (O.getD j 0 - w6 (k * O.getD (i - j) 0) / 4096))
    obtain ⟨m', q1, q2, q3⟩ := upd_loop (r := r) (p := p) (e := e) (k := k) h0 hO hb hao n (j + 1) m1 _ (by omega) (by omega) (by simp; omega) s2 s3 (rowOther ho hao s5)
    rw [nsu] at q1
    have e1 : ((i : Int) - (j : Int)).toNat = i - j := by omega
    refine ⟨m', ?_, q2, q3⟩
    rw [levin_Coefficients_L4_eq, levin_Coefficients_L4_B_eq]
    simp -implicitDefEqProofs (disch := omega) only [sw, ss, ho.ind, ho.load, ha.row.ind, nat_toNat, e1, div4096, s1]
    exact q1
theorem refUpd_loop {μ0 : AMem} (h0 : WF μ0) {r a o : SV} {O : List Int} {p e k : Int} {i : Nat} (hO : i < O.length) (hb : i ≤ 1000) (hao : Apart a o) :
    ∀ (n j : Nat) (m : AMem) (L : List Int), j + n = i → 1 ≤ j → i ≤ L.length → Same μ0 m → OwnRow μ0.next m .i64 3 a L → IsRow m .i64 o O →
      ∃ m', overdubref05_Coefficients_L3 [.s (.int .i64 p), .s r, .s (.int .i64 e), .s a, .s (.int .i64 i), .s (.int .i64 k), .s o] [.s (.int .i64 j)] m = some (.exit 4, [.s (.int .i64 p), .s r, .s (.int .i64 e), .s a, .s (.int .i64 i), .s (.int .i64 k)], m') ∧ Same μ0 m' ∧ OwnRow μ0.next m' .i64 3 a (upd O k i n j L)
  | 0, j, m, L, h, h1, hL, hs, ha, ho => by
    rw [overdubref05_Coefficients_L3_eq, overdubref05_Coefficients_L3_B_eq]
    simp -implicitDefEqProofs (disch := omega) only [sw, ss]
    exact ⟨m, rfl, hs, ha⟩
  | n + 1, j, m, L, h, h1, hL, hs, ha, ho => by
    obtain ⟨m1, s1, s2, s3, s4, s5, s6⟩ := storeS h0 hs ha (i := j) (by omega) (w6 (O.getD j 0 - w6 (k * O.getD (i - j) 0) / 4096))
    obtain ⟨m', q1, q2, q3⟩ := refUpd_loop (r := r) (p := p) (e := e) (k := k) h0 hO hb hao n (j + 1) m1 _ (by omega) (by omega) (by simp; omega) s2 s3 (rowOther ho hao s5)
    rw [nsu] at q1
    have e1 : ((i : Int) - (j : Int)).toNat = i - j := by omega
    have hd := down_wide (IntKind.wrap .i64 (k * O.getD (i - j) 0)) 4096 (by omega) (w6_le _) m
    refine ⟨m', ?_, q2, q3⟩
    rw [overdubref05_Coefficients_L3_eq, overdubref05_Coefficients_L3_B_eq]
    simp -implicitDefEqProofs (disch := omega) only [sw, ss, ho.ind, ho.load, ha.row.ind, nat_toNat, e1, hd, s1]
    exact q1
end Go.Proofs.YtnjenjbodcihmaaGreat
namespace Go.Proofs.YtnjenjbodcihmaaGreat
open Go Go.Proofs.YtnjenjbodcihmaaGreat.E
set_option linter.unusedVariables false
set_option linter.unusedSimpArgs false
theorem lev_loop {μ0 : AMem} (h0 : WF μ0) {r a : SV} {R : List Int} {p : Nat} (hp : p ≤ 12) (hr : IsRow μ0 .i64 r R) (hR : R.length = p + 1) :
    ∀ (n i : Nat) (e : Int) (m : AMem) (A : List Int), i + n = p + 1 → 1 ≤ i → A.length = p + 1 → (-9223372036854775808 ≤ e ∧ e ≤ 9223372036854775807) → Same μ0 m → OwnRow μ0.next m .i64 3 a A →
      (coefL R n i e A = none → ∃ m', levin_Coefficients_L1 [.s (.int .i64 p), .s r, .s a] [.s (.int .i64 e), .s (.int .i64 i)] m = some (.ret, [.s .nilSlice, .s (.bool false)], m') ∧ Same μ0 m') ∧
      (∀ B, coefL R n i e A = some B → ∃ m', levin_Coefficients_L1 [.s (.int .i64 p), .s r, .s a] [.s (.int .i64 e), .s (.int .i64 i)] m = some (.exit 0, [.s a], m') ∧ Same μ0 m' ∧ OwnRow μ0.next m' .i64 3 a B ∧ B.length = p + 1)
  | 0, i, e, m, A, h, h1, hA, he, hs, ha => by
    rw [levin_Coefficients_L1_eq, levin_Coefficients_L1_B_eq]
    refine ⟨fun h => by simp [coefL] at h, fun B hB => ?_⟩
    simp only [coefL, Option.some.injEq] at hB
    subst hB
    simp -implicitDefEqProofs (disch := omega) only [sw, ss]
    exact ⟨m, rfl, hs, ha, hA⟩
  | n + 1, i, e, m, A, h, h1, hA, he, hs, ha => by
    rw [levin_Coefficients_L1_eq, levin_Coefficients_L1_B_eq, coefL]
    by_cases c1 : e < 1
    · rw [if_pos c1]
      refine ⟨fun _ => ?_, fun B hB => by cases hB⟩
      simp -implicitDefEqProofs (disch := omega) only [sw, ss]
      exact ⟨m, rfl, hs⟩
    · rw [if_neg c1]
      have hr1 := hr.same hs
      have hnum := num_loop (p := (p : Int)) (e := e) (i := i) hr1 ha.row (by omega) (by omega) (by omega) (i - 1) 1 (IntKind.wrap .i64 (R.getD i 0 * 4096)) (by omega)
      rw [show ((1 : Nat) : Int) = 1 from rfl] at hnum
      have hfl := floor_is (numZ R A i (i - 1) 1 (IntKind.wrap .i64 (R.getD i 0 * 4096))) e (by omega) (numZ_le _ _ _ _ _ _ (w6_le _)) m
      have hkz : clampZ (numZ R A i (i - 1) 1 (IntKind.wrap .i64 (R.getD i 0 * 4096)) / e) = kZ R A i e := rfl
      have hkl := clampZ_le (numZ R A i (i - 1) 1 (IntKind.wrap .i64 (R.getD i 0 * 4096)) / e)
      rw [hkz] at hkl
      obtain ⟨o, m1, g1, g2, g3⟩ := copyS (e := 3) (B := 8) (b := 1) (n := 3) hs.wf (Keep.refl hs.wf) ha.row (by omega) (by omega) (by omega)
      have ha1 : OwnRow μ0.next m1 .i64 3 a A := ha.old fun id o ho _ => g2.old id o ho fun h => h
      have hao : Apart a o := (apart_old hs.wf g3 ha.row).symm
      obtain ⟨m2, u1, u2, u3⟩ := upd_loop (r := r) (p := (p : Int)) (e := e) (k := kZ R A i e) (i := i) h0 (by omega) (by omega) hao (i - 1) 1 m1 A (by omega) (by omega) (by omega) (hs.trans g2) ha1 g3.row
      rw [show ((1 : Nat) : Int) = 1 from rfl] at u1
      have hul := upd_len A (kZ R A i e) i (i - 1) 1 A
      obtain ⟨m3, s1, s2, s3, _⟩ := storeS h0 u2 u3 (i := i) (by omega) (kZ R A i e)
      obtain ⟨i1, i2⟩ := lev_loop h0 hp hr hR n (i + 1) (nextE (kZ R A i e) e) m3 _ (by omega) (by omega) (by simp; omega) (w6_le _) s2 s3
      rw [nsu] at i1 i2
      refine ⟨fun h => ?_, fun B hB => ?_⟩
      · obtain ⟨m', q1, q2⟩ := i1 h
        refine ⟨m', ?_, q2⟩
        simp -implicitDefEqProofs (disch := omega) only [sw, ss, hr1.ind, hr1.load, nat_toNat, hnum, hfl, g1, clamp1, hkz, u1, u3.row.ind, s1, div4096]
        exact q1
      · obtain ⟨m', q1, q2⟩ := i2 B hB
        refine ⟨m', ?_, q2⟩
        simp -implicitDefEqProofs (disch := omega) only [sw, ss, hr1.ind, hr1.load, nat_toNat, hnum, hfl, g1, clamp1, hkz, u1, u3.row.ind, s1, div4096]
        exact q1
theorem refLev_loop {μ0 : AMem} (h0 : WF μ0) {r a : SV} {R : List Int} {p : Nat} (hp : p ≤ 12) (hr : IsRow μ0 .i64 r R) (hR : R.length = p + 1) :
    ∀ (n i : Nat) (e : Int) (m : AMem) (A : List Int), i + n = p + 1 → 1 ≤ i → A.length = p + 1 → (-9223372036854775808 ≤ e ∧ e ≤ 9223372036854775807) → Same μ0 m → OwnRow μ0.next m .i64 3 a A →
      (coefL R n i e A = none → ∃ m', overdubref05_Coefficients_L1 [.s (.int .i64 p), .s r, .s a] [.s (.int .i64 e), .s (.int .i64 i)] m = some (.ret, [.s .nilSlice, .s (.bool false)], m') ∧ Same μ0 m') ∧
      (∀ B, coefL R n i e A = some B → ∃ m', overdubref05_Coefficients_L1 [.s (.int .i64 p), .s r, .s a] [.s (.int .i64 e), .s (.int .i64 i)] m = some (.exit 0, [.s a], m') ∧ Same μ0 m' ∧ OwnRow μ0.next m' .i64 3 a B ∧ B.length = p + 1)
  | 0, i, e, m, A, h, h1, hA, he, hs, ha => by
    rw [overdubref05_Coefficients_L1_eq, overdubref05_Coefficients_L1_B_eq]
    refine ⟨fun h => by simp [coefL] at h, fun B hB => ?_⟩
    simp only [coefL, Option.some.injEq] at hB
    subst hB
    simp -implicitDefEqProofs (disch := omega) only [sw, ss]
    exact ⟨m, rfl, hs, ha, hA⟩
  | n + 1, i, e, m, A, h, h1, hA, he, hs, ha => by
    rw [overdubref05_Coefficients_L1_eq, overdubref05_Coefficients_L1_B_eq, coefL]
    by_cases c1 : e < 1
    · rw [if_pos c1]
      refine ⟨fun _ => ?_, fun B hB => by cases hB⟩
      simp -implicitDefEqProofs (disch := omega) only [sw, ss]
      exact ⟨m, rfl, hs⟩
    · rw [if_neg c1]
      have hr1 := hr.same hs
      have hnum := refNum_loop (p := (p : Int)) (e := e) (i := i) hr1 ha.row (by omega) (by omega) (by omega) (i - 1) 1 (IntKind.wrap .i64 (R.getD i 0 * 4096)) (by omega)
      rw [show ((1 : Nat) : Int) = 1 from rfl] at hnum
      have hfl := down_wide (numZ R A i (i - 1) 1 (IntKind.wrap .i64 (R.getD i 0 * 4096))) e (by omega) (numZ_le _ _ _ _ _ _ (w6_le _)) m
      have hkz : clampZ (numZ R A i (i - 1) 1 (IntKind.wrap .i64 (R.getD i 0 * 4096)) / e) = kZ R A i e := rfl
      have hkl := clampZ_le (numZ R A i (i - 1) 1 (IntKind.wrap .i64 (R.getD i 0 * 4096)) / e)
      rw [hkz] at hkl
      obtain ⟨o, m1, g1, g2, g3⟩ := copyS (e := 3) (B := 8) (b := 1) (n := 3) hs.wf (Keep.refl hs.wf) ha.row (by omega) (by omega) (by omega)
      have ha1 : OwnRow μ0.next m1 .i64 3 a A := ha.old fun id o ho _ => g2.old id o ho fun h => h
      have hao : Apart a o := (apart_old hs.wf g3 ha.row).symm
      obtain ⟨m2, u1, u2, u3⟩ := refUpd_loop (r := r) (p := (p : Int)) (e := e) (k := kZ R A i e) (i := i) h0 (by omega) (by omega) hao (i - 1) 1 m1 A (by omega) (by omega) (by omega) (hs.trans g2) ha1 g3.row
      rw [show ((1 : Nat) : Int) = 1 from rfl] at u1
      have hul := upd_len A (kZ R A i e) i (i - 1) 1 A
      obtain ⟨m3, s1, s2, s3, _⟩ := storeS h0 u2 u3 (i := i) (by omega) (kZ R A i e)
      obtain ⟨i1, i2⟩ := refLev_loop h0 hp hr hR n (i + 1) (nextE (kZ R A i e) e) m3 _ (by omega) (by omega) (by simp; omega) (w6_le _) s2 s3
      rw [nsu] at i1 i2
      have d1 := down_wide (IntKind.wrap .i64 (kZ R A i e * kZ R A i e)) 4096 (by omega) (w6_le _) m3
      have d2 := down_wide (IntKind.wrap .i64 (IntKind.wrap .i64 (kZ R A i e * kZ R A i e) / 4096 * e)) 4096 (by omega) (w6_le _) m3
      refine ⟨fun h => ?_, fun B hB => ?_⟩
      · obtain ⟨m', q1, q2⟩ := i1 h
        refine ⟨m', ?_, q2⟩
        simp -implicitDefEqProofs (disch := omega) only [sw, ss, hr1.ind, hr1.load, nat_toNat, hnum, hfl, g1, clamp2, hkz, u1, u3.row.ind, s1, d1, d2]
        exact q1
      · obtain ⟨m', q1, q2⟩ := i2 B hB
        refine ⟨m', ?_, q2⟩
        simp -implicitDefEqProofs (disch := omega) only [sw, ss, hr1.ind, hr1.load, nat_toNat, hnum, hfl, g1, clamp2, hkz, u1, u3.row.ind, s1, d1, d2]
        exact q1
theorem levCheck_loop {m : AMem} {a x : SV} {zs : List Int} (hx : IsRow m .i64 x zs) (hb : zs.length ≤ 1000) :
    ∀ k i : Nat, i + k = zs.length → levin_Coefficients_L2 [.s a, .s x, .s (.int .i64 zs.length)] [.s (.int .i64 i)] m = if (zs.drop i).all coefB then some (.exit 6, [.s a], m) else some (.ret, [.s .nilSlice, .s (.bool false)], m)
  | 0, i, h => by
    rw [levin_Coefficients_L2_eq, levin_Coefficients_L2_B_eq, List.drop_eq_nil_of_le (by omega)]
    simp -implicitDefEqProofs (disch := omega) only [sw, ss, List.all_nil, if_true]
  | k + 1, i, h => by
    have ih := levCheck_loop (a := a) hx hb k (i + 1) (by omega)
    rw [nsu] at ih
    rw [levin_Coefficients_L2_eq, levin_Coefficients_L2_B_eq, drop_cons (i := i) (by omega)]
    by_cases h1 : zs.getD i 0 < -32768
    · have hc : coefB (zs.getD i 0) = false := by unfold coefB; rw [decide_eq_false (by omega)]; rfl
      simp -implicitDefEqProofs (disch := omega) only [sw, ss, hx.ind, hx.load, nat_toNat, hc, List.all_cons, Bool.false_and, Bool.false_eq_true, if_false]
    · by_cases h2 : zs.getD i 0 > 32767
      · have hc : coefB (zs.getD i 0) = false := by unfold coefB; rw [decide_eq_false (p := zs.getD i 0 ≤ 32767) (by omega), Bool.and_false]
        simp -implicitDefEqProofs (disch := omega) only [sw, ss, hx.ind, hx.load, nat_toNat, hc, List.all_cons, Bool.false_and, Bool.false_eq_true, if_false]
      · have hc : coefB (zs.getD i 0) = true := by unfold coefB; rw [decide_eq_true (p := zs.getD i 0 ≤ 32767) (by omega), decide_eq_true (by omega)]; rfl
        simp -implicitDefEqProofs (disch := omega) only [sw, ss, hx.ind, hx.load, nat_toNat, hc, List.all_cons, Bool.true_and]
        exact ih
def cfOK (xs : List Int) (p : Int) : Prop := 1 ≤ p ∧ p ≤ 12 ∧ checkZ xs = 0 ∧ p < xs.length
instance (xs : List Int) (p : Int) : Decidable (cfOK xs p) := by unfold cfOK; infer_instance
def cfR (xs : List Int) (p : Int) : List Int := scaledZ (autoZ xs p)
def cfZ (xs : List Int) (p : Int) : Option (List Int) :=
  if cfOK xs p then
    match coefL (cfR xs p) p.toNat 1 ((cfR xs p).getD 0 0) (List.replicate (p.toNat + 1) 0) with
    | none => none
    | some B => if (B.drop 1).all coefB then some (B.drop 1) else none
  else none
theorem autoZ_of {xs : List Int} {p : Int} (h : cfOK xs p) : autoE xs p = 0 ∧ autoZ xs p = (List.range (p.toNat + 1)).map (dotZ xs) := by
  obtain ⟨h1, h2, h3, h4⟩ := h
  unfold autoE autoZ
  rw [if_neg (by omega), if_neg (by omega), if_neg (by omega), if_neg (by omega)]
  exact ⟨rfl, rfl⟩
theorem self_nonneg (a : Int) : 0 ≤ a * a := by
  rcases Int.le_total 0 a with h | h
  · exact Int.mul_nonneg h h
  · have := Int.mul_nonneg (show 0 ≤ -a by omega) (show 0 ≤ -a by omega)
    rwa [Int.neg_mul_neg] at this
theorem square_sum (xs : List Int) : ∀ n, 0 ≤ asum xs 0 n
  | 0 => Int.le_refl _
  | n + 1 => by
    have := square_sum xs n
    have e : 0 + n = n := by omega
    have : 0 ≤ xs.getD (0 + n) 0 * xs.getD n 0 := by rw [e]; exact self_nonneg _
    rw [asum]; omega
theorem dot_le {xs : List Int} (hz : ∀ v ∈ xs, -8388608 ≤ v ∧ v ≤ 8388607) (hl : xs.length ≤ 64) (k : Nat) : -4503599627370496 ≤ dotZ xs k ∧ dotZ xs k ≤ 4503599627370496 := by
  have := asum_le hz k (xs.length - k)
  unfold dotZ; omega
theorem cfR_of {xs : List Int} {p : Int} (h : cfOK xs p) : noScale (autoZ xs p) = false ∧ (cfR xs p).length = p.toNat + 1 := by
  have hz := checkZ_ok h.2.2.1
  have ha := (autoZ_of h).2
  have hl : (autoZ xs p).length = p.toNat + 1 := by rw [ha]; simp
  have hn : noScale (autoZ xs p) = false := by
    unfold noScale
    have h1 : (autoZ xs p).isEmpty = false := by
      cases hh : autoZ xs p with
      | nil => rw [hh] at hl; simp at hl
      | cons _ _ => rfl
    have h2 : (autoZ xs p).getD 0 0 = asum xs 0 xs.length := by
      rw [ha, List.range_succ_eq_map]; simp [dotZ]
    have h3 : (autoZ xs p).any farB = false := by
      rw [List.any_eq_false]
      intro v hv
      rw [ha] at hv
      obtain ⟨k, _, rfl⟩ := List.mem_map.mp hv
      have := dot_le hz.1 hz.2 k
      unfold farB
      rw [decide_eq_false (by omega), decide_eq_false (by omega)]; decide
    rw [h1, h2, h3, decide_eq_false (by have := square_sum xs xs.length; omega)]; rfl
  refine ⟨hn, ?_⟩
  unfold cfR scaledZ
  rw [hn]
  simp only [Bool.false_eq_true, if_false, List.length_map, hl]
def cfRow (o : Option (List Int)) : List Int := o.getD []
theorem cfR_le {xs : List Int} {p : Int} (h : cfOK xs p) : -9223372036854775808 ≤ (cfR xs p).getD 0 0 ∧ (cfR xs p).getD 0 0 ≤ 9223372036854775807 := by
  have hz := checkZ_ok h.2.2.1
  have ha := (autoZ_of h).2
  have hn := (cfR_of h).1
  have hh : (cfR xs p).getD 0 0 = dotZ xs 0 / 2 ^ scaledE (autoZ xs p) := by
    unfold cfR scaledZ
    rw [hn]
    simp only [Bool.false_eq_true, if_false]
    rw [ha, List.range_succ_eq_map]; simp
  have hd := dot_le hz.1 hz.2 0
  have hp := pow40 (scaledE_le (autoZ xs p))
  rw [hh]
  have := (quot_wide (a := dotZ xs 0) (b := 2 ^ scaledE (autoZ xs p)) (by omega) (by omega)).1
  exact this
theorem backI {μ : AMem} {k : IntKind} {x : SV} {zs : List Int} (h : IsRow μ k x zs) {n : Nat} (hn : n ≤ zs.length) : ∃ y, (∀ {R : Type} (K : AV → Option R), cutS 1 (.s x) (n : Int) (zs.length : Int) K = K (.s y)) ∧ IsRow μ k y (zs.drop n) ∧ ∀ j, isId y j → isId x j := by
  refine ⟨cutV x n zs.length, fun K => h.cut (by omega) (by omega) (by omega) K, ?_, fun j hj => ?_⟩
  · have := h.cutRow (a := n) (b := (zs.length : Int)) (by omega) (by omega) (by omega)
    simpa using this
  · cases x <;> first | exact hj | exact hj.elim
theorem levinN_is {μ : AMem} (h0 : WF μ) {x : SV} {xs : List Int} {p : Int} (hx : IsRow μ .i64 x xs) (hb : xs.length ≤ 1000000) (hpw : -9223372036854775808 ≤ p ∧ p ≤ 9223372036854775807) :
    ∃ y μ', levin_Coefficients [.s x, .s (.int .i64 p)] μ = some (.tuple [.s y, .s (.bool (cfZ xs p).isSome)], μ') ∧ Same μ μ' ∧ IsRow μ' .i64 y (cfRow (cfZ xs p)) ∧ ∀ j, isId y j → μ.next ≤ j := by
  rw [levin_Coefficients_eq]
  have hk := check_is hx (by omega)
  by_cases hok : cfOK xs p
  · obtain ⟨n, hn⟩ : ∃ n : Nat, p = (n : Int) := ⟨p.toNat, by have := hok.1; omega⟩
    have ⟨ha1, ha2⟩ := autoZ_of hok
    have ⟨hs1, hs2⟩ := cfR_of hok
    obtain ⟨y1, m1, f1, k1, o1⟩ := auto_is h0 hx (by omega) hpw
    have lau : (autoZ xs p).length ≤ 1000 := by rw [ha2]; simp; have := hok.2.1; omega
    obtain ⟨y2, m2, f2, k2, o2⟩ := scaled_is k1.wf o1.row (by omega)
    rw [ha1] at f1
    have hcr : scaledZ (autoZ xs p) = cfR xs p := rfl
    rw [hcr] at o2
    obtain ⟨c1, c2, c3, c4⟩ := hok
    have hok : cfOK xs p := ⟨c1, c2, c3, c4⟩
    subst hn
    rw [show ((n : Nat) : Int).toNat = n from rfl] at hs2
    have k3 := newS (Keep.refl k2.wf) (n := 4) (a := 2) (by omega) (rowObj (zerosA [.int .i64 0] (n + 1)) 1 3 (some (n + 1)))
    have z3 : OwnRow m2.next ((m2.bump 4).set (m2.next + 2) (rowObj (zerosA [.int .i64 0] (n + 1)) 1 3 (some (n + 1)))) .i64 3 (.slice (m2.next + 2) 0 0 (n + 1)) (List.replicate (n + 1) 0) :=
      OwnRow.new (o := rowObj (zerosA [.int .i64 0] (n + 1)) 1 3 (some (n + 1))) (by simp) (by omega) (by simp) rfl rfl rfl rfl (by show zerosA _ _ = _; rw [zerosA_rep]; simp)
    have he : -9223372036854775808 ≤ (cfR xs n).getD 0 0 ∧ (cfR xs n).getD 0 0 ≤ 9223372036854775807 := cfR_le hok
    obtain ⟨i1, i2⟩ := lev_loop (p := n) k2.wf (by omega) o2.row hs2 n 1 ((cfR xs n).getD 0 0) _ _ (by omega) (by omega) (by simp) he k3 z3
    rw [show ((1 : Nat) : Int) = 1 from rfl] at i1 i2
    have ewr : IntKind.wrap .i64 ((n : Int) + 1) = ((n + 1 : Nat) : Int) := by rw [wr (by omega)]; rfl
    have hif : 0 ≤ ((n + 1 : Nat) : Int) ∧ ((n + 1 : Nat) : Int) ≤ ((n + 1 : Nat) : Int) ∧ ((n + 1 : Nat) : Int) ≤ 9223372036854775807 ∧ ((8 : Nat) : Int) * ((n + 1 : Nat) : Int) ≤ 140737488355328 := by omega
    have q1 := lt_f (a := (n : Int)) (b := 1) (by omega)
    have q2 := gt_f (a := (n : Int)) (b := 12) (by omega)
    have q3 := le_f (a := (xs.length : Int)) (b := (n : Int)) (by omega)
    have ne00 : ((0 : Int) != 0) = false := rfl
    have hi0 := fun {R : Type} (K : AV → Option R) => o2.row.ind (i := 0) (by omega) (by omega) K
    have hl0 := fun {R : Type} (K : AV → Option R) => o2.row.load (i := 0) (by omega) (by omega) K
    unfold cfZ
    rw [if_pos hok, show ((n : Nat) : Int).toNat = n from rfl]
    cases hcl : coefL (cfR xs n) n 1 ((cfR xs n).getD 0 0) (List.replicate (n + 1) 0) with
    | none =>
      obtain ⟨m4, r1, r2⟩ := i1 hcl
      simp -implicitDefEqProofs only [q1, q2, q3, hk, c3, hx.len, ne00, f1, f2, hi0, hl0, Int.toNat_zero, ss]
      simp only [ewr, nat_toNat]
      rw [if_pos hif]
      simp -implicitDefEqProofs only [r1, ss]
      exact ⟨_, _, rfl, (k1.trans k2).trans r2, .inl ⟨rfl, rfl⟩, fun _ h => h.elim⟩
    | some B =>
      obtain ⟨m4, r1, r2, r3, r4⟩ := i2 B hcl
      obtain ⟨z, f3, f4, fid⟩ := backI r3.row (n := 1) (by omega)
      rw [show ((1 : Nat) : Int) = 1 from rfl] at f3
      have hz := f4.len
      have hch := levCheck_loop (a := .slice (m2.next + 2) 0 0 (n + 1)) f4 (by simp; omega) _ 0 (Nat.zero_add _)
      rw [n0, List.drop_zero] at hch
      cases hall : (B.drop 1).all coefB
      · rw [hall] at hch
        simp only [Bool.false_eq_true, if_false] at hch
        simp -implicitDefEqProofs only [q1, q2, q3, hk, c3, hx.len, ne00, f1, f2, hi0, hl0, Int.toNat_zero, ss]
        simp only [ewr, nat_toNat]
        rw [if_pos hif]
        simp -implicitDefEqProofs only [r1, r3.row.len, f3, hz, hch, ss]
        exact ⟨.nilSlice, _, by simp only [hall, Bool.false_eq_true, if_false]; rfl, (k1.trans k2).trans r2, by simp only [hall, Bool.false_eq_true, if_false]; exact .inl ⟨rfl, rfl⟩, fun _ h => h.elim⟩
      · rw [hall] at hch
        simp only [if_true] at hch
        simp -implicitDefEqProofs only [q1, q2, q3, hk, c3, hx.len, ne00, f1, f2, hi0, hl0, Int.toNat_zero, ss]
        simp only [ewr, nat_toNat]
        rw [if_pos hif]
        simp -implicitDefEqProofs only [r1, r3.row.len, f3, hz, hch, ss]
        exact ⟨_, _, by simp only [hall, if_true]; rfl, (k1.trans k2).trans r2, by simp only [hall, if_true]; exact f4, fun j hj => Nat.le_trans (k1.trans k2).next (own_lives r3 (fid j hj)).1⟩
  · have hcz : cfZ xs p = none := by unfold cfZ; rw [if_neg hok]
    rw [hcz]
    by_cases c1 : p < 1
    · simp -implicitDefEqProofs (disch := omega) only [sw, ss]
      exact ⟨_, _, rfl, Keep.refl h0, .inl ⟨rfl, rfl⟩, fun _ h => h.elim⟩
    · by_cases c2 : p > 12
      · simp -implicitDefEqProofs (disch := omega) only [sw, ss]
        exact ⟨_, _, rfl, Keep.refl h0, .inl ⟨rfl, rfl⟩, fun _ h => h.elim⟩
      · by_cases c3 : checkZ xs = 0
        · have c4 : ¬ p < xs.length := fun h => hok ⟨by omega, by omega, c3, h⟩
          simp -implicitDefEqProofs (disch := omega) only [sw, ss, hk, hx.len]
          exact ⟨_, _, rfl, Keep.refl h0, .inl ⟨rfl, rfl⟩, fun _ h => h.elim⟩
        · simp -implicitDefEqProofs (disch := omega) only [sw, ss, hk]
          exact ⟨_, _, rfl, Keep.refl h0, .inl ⟨rfl, rfl⟩, fun _ h => h.elim⟩
theorem levin_is {μ : AMem} (h0 : WF μ) {x : SV} {xs : List Int} {p : Int} (hx : IsRow μ .i64 x xs) (hb : xs.length ≤ 1000000) (hpw : -9223372036854775808 ≤ p ∧ p ≤ 9223372036854775807) :
    ∃ y μ', levin_Coefficients [.s x, .s (.int .i64 p)] μ = some (.tuple [.s y, .s (.bool (cfZ xs p).isSome)], μ') ∧ Same μ μ' ∧ IsRow μ' .i64 y (cfRow (cfZ xs p)) := by
  obtain ⟨y, μ', h1, h2, h3, _⟩ := levinN_is h0 hx hb hpw
  exact ⟨y, μ', h1, h2, h3⟩
theorem refLevin_is {μ : AMem} (h0 : WF μ) {x : SV} {xs : List Int} {p : Int} (hx : IsRow μ .i64 x xs) (hb : xs.length ≤ 1000000) (hpw : -9223372036854775808 ≤ p ∧ p ≤ 9223372036854775807) :
    ∃ y μ', overdubref05_Coefficients [.s x, .s (.int .i64 p)] μ = some (.tuple [.s y, .s (.bool (cfZ xs p).isSome)], μ') ∧ Same μ μ' ∧ IsRow μ' .i64 y (cfRow (cfZ xs p)) := by
  rw [overdubref05_Coefficients_eq]
  have hk := refMay_is hx (by omega)
  by_cases hok : cfOK xs p
  · obtain ⟨n, hn⟩ : ∃ n : Nat, p = (n : Int) := ⟨p.toNat, by have := hok.1; omega⟩
    have ⟨ha1, ha2⟩ := autoZ_of hok
    have ⟨hs1, hs2⟩ := cfR_of hok
    obtain ⟨y1, m1, f1, k1, o1⟩ := refAuto_is h0 hx (by omega) hpw
    have lau : (autoZ xs p).length ≤ 1000 := by rw [ha2]; simp; have := hok.2.1; omega
    obtain ⟨y2, m2, f2, k2, o2⟩ := refScaled_is k1.wf o1.row (by omega)
    rw [ha1] at f1
    have hcr : scaledZ (autoZ xs p) = cfR xs p := rfl
    rw [hcr] at o2
    obtain ⟨c1, c2, c3, c4⟩ := hok
    have hok : cfOK xs p := ⟨c1, c2, c3, c4⟩
    subst hn
    rw [show ((n : Nat) : Int).toNat = n from rfl] at hs2
    have k3 := newS (Keep.refl k2.wf) (n := 4) (a := 2) (by omega) (rowObj (zerosA [.int .i64 0] (n + 1)) 1 3 (some (n + 1)))
    have z3 : OwnRow m2.next ((m2.bump 4).set (m2.next + 2) (rowObj (zerosA [.int .i64 0] (n + 1)) 1 3 (some (n + 1)))) .i64 3 (.slice (m2.next + 2) 0 0 (n + 1)) (List.replicate (n + 1) 0) :=
      OwnRow.new (o := rowObj (zerosA [.int .i64 0] (n + 1)) 1 3 (some (n + 1))) (by simp) (by omega) (by simp) rfl rfl rfl rfl (by show zerosA _ _ = _; rw [zerosA_rep]; simp)
    have he : -9223372036854775808 ≤ (cfR xs n).getD 0 0 ∧ (cfR xs n).getD 0 0 ≤ 9223372036854775807 := cfR_le hok
    obtain ⟨i1, i2⟩ := refLev_loop (p := n) k2.wf (by omega) o2.row hs2 n 1 ((cfR xs n).getD 0 0) _ _ (by omega) (by omega) (by simp) he k3 z3
    rw [show ((1 : Nat) : Int) = 1 from rfl] at i1 i2
    have ewr : IntKind.wrap .i64 ((n : Int) + 1) = ((n + 1 : Nat) : Int) := by rw [wr (by omega)]; rfl
    have hif : 0 ≤ ((n + 1 : Nat) : Int) ∧ ((n + 1 : Nat) : Int) ≤ ((n + 1 : Nat) : Int) ∧ ((n + 1 : Nat) : Int) ≤ 9223372036854775807 ∧ ((8 : Nat) : Int) * ((n + 1 : Nat) : Int) ≤ 140737488355328 := by omega
    have q1 := lt_f (a := (n : Int)) (b := 1) (by omega)
    have q2 := gt_f (a := (n : Int)) (b := 12) (by omega)
    have q3 := le_f (a := (xs.length : Int)) (b := (n : Int)) (by omega)
    have ne00 : ((0 : Int) != 0) = false := rfl
    have hi0 := fun {R : Type} (K : AV → Option R) => o2.row.ind (i := 0) (by omega) (by omega) K
    have hl0 := fun {R : Type} (K : AV → Option R) => o2.row.load (i := 0) (by omega) (by omega) K
    unfold cfZ
    rw [if_pos hok, show ((n : Nat) : Int).toNat = n from rfl]
    cases hcl : coefL (cfR xs n) n 1 ((cfR xs n).getD 0 0) (List.replicate (n + 1) 0) with
    | none =>
      obtain ⟨m4, r1, r2⟩ := i1 hcl
      simp -implicitDefEqProofs only [q1, q2, q3, hk, c3, hx.len, ne00, f1, f2, hi0, hl0, Int.toNat_zero, ss]
      simp only [ewr, nat_toNat]
      rw [if_pos hif]
      simp -implicitDefEqProofs only [r1, ss]
      exact ⟨_, _, rfl, (k1.trans k2).trans r2, .inl ⟨rfl, rfl⟩⟩
    | some B =>
      obtain ⟨m4, r1, r2, r3, r4⟩ := i2 B hcl
      obtain ⟨z, f3, f4⟩ := r3.row.back (n := 1) (by omega)
      rw [show ((1 : Nat) : Int) = 1 from rfl] at f3
      have hz := f4.len
      have hch := refMayC_is f4 (by simp; omega)
      have hmay : mayC (B.drop 1) = (B.drop 1).all coefB := by
        unfold mayC
        rw [decide_eq_true (by simp; omega), decide_eq_true (by simp; omega)]; simp
      rw [hmay] at hch
      cases hall : (B.drop 1).all coefB
      · rw [hall] at hch
        simp -implicitDefEqProofs only [q1, q2, q3, hk, c3, hx.len, ne00, f1, f2, hi0, hl0, Int.toNat_zero, ss]
        simp only [ewr, nat_toNat]
        rw [if_pos hif]
        simp -implicitDefEqProofs only [r1, r3.row.len, f3, hz, hch, ss]
        exact ⟨_, _, by simp only [hall, Bool.false_eq_true, if_false]; rfl, (k1.trans k2).trans r2, by simp only [hall, Bool.false_eq_true, if_false]; exact .inl ⟨rfl, rfl⟩⟩
      · rw [hall] at hch
        simp -implicitDefEqProofs only [q1, q2, q3, hk, c3, hx.len, ne00, f1, f2, hi0, hl0, Int.toNat_zero, ss]
        simp only [ewr, nat_toNat]
        rw [if_pos hif]
        simp -implicitDefEqProofs only [r1, r3.row.len, f3, hz, hch, ss]
        exact ⟨_, _, by simp only [hall, if_true]; rfl, (k1.trans k2).trans r2, by simp only [hall, if_true]; exact f4⟩
  · have hcz : cfZ xs p = none := by unfold cfZ; rw [if_neg hok]
    rw [hcz]
    by_cases c1 : p < 1
    · simp -implicitDefEqProofs (disch := omega) only [sw, ss]
      exact ⟨_, _, rfl, Keep.refl h0, .inl ⟨rfl, rfl⟩⟩
    · by_cases c2 : p > 12
      · simp -implicitDefEqProofs (disch := omega) only [sw, ss]
        exact ⟨_, _, rfl, Keep.refl h0, .inl ⟨rfl, rfl⟩⟩
      · by_cases c4 : p < xs.length
        · have c3 : ¬ checkZ xs = 0 := fun h => hok ⟨by omega, by omega, h, c4⟩
          obtain ⟨y1, m1, f1, k1, o1⟩ := refAuto_is h0 hx (by omega) hpw
          have ha1 : autoE xs p = checkZ xs := by unfold autoE; rw [if_neg (by omega), if_pos c3]
          rw [ha1] at f1
          simp -implicitDefEqProofs (disch := omega) only [sw, ss, hx.len, f1]
          exact ⟨_, _, rfl, k1, .inl ⟨rfl, rfl⟩⟩
        · simp -implicitDefEqProofs (disch := omega) only [sw, ss, hx.len]
          exact ⟨_, _, rfl, Keep.refl h0, .inl ⟨rfl, rfl⟩⟩
end Go.Proofs.YtnjenjbodcihmaaGreat
namespace Go.Proofs.YtnjenjbodcihmaaGreat
open Go Go.Proofs.YtnjenjbodcihmaaGreat.E
set_option linter.unusedVariables false
set_option linter.unusedSimpArgs false
theorem copy_is {μ : AMem} (h0 : WF μ) {x : SV} {zs : List Int} (hx : IsRow μ .i64 x zs) (hb : zs.length ≤ 1000000000000) :
    ∃ y μ', overdubkeep_Copy_int [.s x] μ = some (.s y, μ') ∧ Same μ μ' ∧ OwnRow μ.next μ' .i64 3 y zs := by
  obtain ⟨y, μ', g1, g2, g3⟩ := copyS (e := 3) (B := 8) (b := 1) (n := 3) h0 (Keep.refl h0) hx (by omega) (by omega) (by omega)
  refine ⟨y, μ', ?_, g2, g3⟩
  rw [overdubkeep_Copy_int_eq, g1, asS_s]
end Go.Proofs.YtnjenjbodcihmaaGreat
namespace Go.Proofs.YtnjenjbodcihmaaGreat
open Go Go.Proofs.YtnjenjbodcihmaaGreat.E
set_option linter.unusedVariables false
set_option linter.unusedSimpArgs false
theorem within_is (p n : Int) (hp : -9223372036854775808 ≤ p ∧ p ≤ 9223372036854775807) (hn : 1 ≤ n) (hn2 : n ≤ 4611686018427387904) (μ : AMem) :
    overdubkeep_Within [.s (.int .i64 p), .s (.int .i64 n)] μ = some (.s (.int .i64 (p % n)), μ) := by
  rw [overdubkeep_Within_eq]
  have h1 : ¬ n < 1 := by omega
  have h2 : ¬ n = 0 := by omega
  have hlt := Int.emod_lt_of_pos p (show 0 < n by omega)
  have hge := Int.emod_nonneg p h2
  have ht : Int.tmod p n = if 0 ≤ p ∨ p % n = 0 then p % n else p % n - n := by
    rw [Int.tmod_eq_emod]
    by_cases h : 0 ≤ p
    · simp [h]
    · by_cases h3 : p % n = 0
      · have : n ∣ p := Int.dvd_of_emod_eq_zero h3
        simp [h3, this]
      · have : ¬ n ∣ p := fun hd => h3 (Int.emod_eq_zero_of_dvd hd)
        simp [h, this, h3]; omega
  rw [ht]
  by_cases h : 0 ≤ p ∨ p % n = 0
  · have : ¬ p % n < 0 := by omega
    simp [h1, h2, h, this]
  · have h4 : p % n - n < 0 := by omega
    simp only [h, if_false, h4, h1, h2, decide_true, decide_false, cond_true, cond_false, seqJ_n, headK_c, asI_int]
    rw [wr (by omega)]
    congr 4; omega
end Go.Proofs.YtnjenjbodcihmaaGreat
namespace Go.Proofs.YtnjenjbodcihmaaGreat
open Go Go.Proofs.YtnjenjbodcihmaaGreat.E
set_option linter.unusedVariables false
set_option linter.unusedSimpArgs false
def cutZ (p : Int) : Int := if -16777216 ≤ p ∧ p ≤ 16777216 then p else 0
theorem coef_is (p : Int) (μ : AMem) : lpc_coef [.s (.int .i64 p)] μ = some (.s (.bool (coefB p)), μ) := by
  rw [lpc_coef_eq]; unfold coefB
  by_cases h : -32768 ≤ p
  · simp [h]
  · simp [h]
theorem cut_is (p : Int) (μ : AMem) : lpc_cut [.s (.int .i64 p)] μ = some (.s (.int .i64 (cutZ p)), μ) := by
  rw [lpc_cut_eq]; unfold cutZ
  by_cases h : p < -16777216
  · simp [h]; try omega
  · by_cases h2 : p > 16777216
    · simp [h, h2]; try omega
    · simp [h, h2]; try omega
def gterm (zs cs : List Int) (i : Nat) : Int := if coefB (cs.getD i 0) then cs.getD i 0 * cutZ (zs.getD (zs.length - 1 - i) 0) else 0
def gsum (zs cs : List Int) : Nat → Int
  | 0 => 0
  | n + 1 => gsum zs cs n + gterm zs cs n
theorem cutZ_le (p : Int) : -16777216 ≤ cutZ p ∧ cutZ p ≤ 16777216 := by unfold cutZ; split <;> omega
theorem gterm_le (zs cs : List Int) (i : Nat) : -549755813888 ≤ gterm zs cs i ∧ gterm zs cs i ≤ 549755813888 := by
  unfold gterm coefB
  split
  · rename_i h
    simp at h
    have := cutZ_le (zs.getD (zs.length - 1 - i) 0)
    have := prod_le (a := cs.getD i 0) (b := cutZ (zs.getD (zs.length - 1 - i) 0)) (A := 32768) (B := 16777216) (by simpa using h.1) (by have := h.2; simp at this ⊢; omega) this.1 this.2
    omega
  · omega
theorem gsum_le (zs cs : List Int) : ∀ n : Nat, -(549755813888 * n) ≤ gsum zs cs n ∧ gsum zs cs n ≤ 549755813888 * n
  | 0 => by simp [gsum]
  | n + 1 => by
    have := gsum_le zs cs n
    have := gterm_le zs cs n
    simp only [gsum]; omega
theorem guess_loop {μ : AMem} {x y : SV} {zs cs : List Int} (hx : IsRow μ .i64 x zs) (hy : IsRow μ .i64 y cs) (hlen : zs.length ≤ 4611686018427387904) {n : Nat} (hn : n ≤ 12) (hz : n ≤ zs.length) (hc : n ≤ cs.length) :
    ∀ k i : Nat, i + k = n → lpc_Guess_L1 [.s x, .s y, .s (.int .i64 n)] [.s (.int .i64 (gsum zs cs i)), .s (.int .i64 i)] μ = some (.exit 0, [.s (.int .i64 (gsum zs cs n))], μ)
  | 0, i, h => by
    rw [lpc_Guess_L1_eq, lpc_Guess_L1_B_eq]
    have : ¬ ((i : Int) < (n : Int)) := by omega
    obtain rfl : i = n := by omega
    simp
  | k + 1, i, h => by
    have hi : (i : Int) < (n : Int) := by omega
    have ih := guess_loop hx hy hlen hn hz hc k (i + 1) (by omega)
    rw [lpc_Guess_L1_eq, lpc_Guess_L1_B_eq]
    have hs := gsum_le zs cs i
    have ht := gterm_le zs cs i
    have e1 : IntKind.wrap .i64 ((i : Int) + 1) = ((i + 1 : Nat) : Int) := by rw [wr (by omega)]; omega
    have e2 : IntKind.wrap .i64 (IntKind.wrap .i64 (((zs.length : Nat) : Int) - 1) - (i : Int)) = ((zs.length - 1 - i : Nat) : Int) := by
      rw [wr (n := (zs.length : Int) - 1) (by omega), wr (by omega)]; omega
    have e3 : (((i : Nat) : Int)).toNat = i := by omega
    have e4 : (((zs.length - 1 - i : Nat) : Int)).toNat = zs.length - 1 - i := by omega
    have hgi : gsum zs cs (i + 1) = gsum zs cs i + gterm zs cs i := rfl
    simp only [hi, decide_true, cond_true]
    rw [hy.ind (by omega) (by omega), hy.load (by omega) (by omega), asI_int, coef_is, Option.bind_some, asB_bool, e3]
    by_cases hco : coefB (cs.getD i 0) = true
    · have hg : gterm zs cs i = cs.getD i 0 * cutZ (zs.getD (zs.length - 1 - i) 0) := by unfold gterm; rw [if_pos hco]
      have e5 : IntKind.wrap .i64 (cs.getD i 0 * cutZ (zs.getD (zs.length - 1 - i) 0)) = gterm zs cs i := by rw [← hg, wr (by omega)]
      have e6 : IntKind.wrap .i64 (gsum zs cs i + gterm zs cs i) = gsum zs cs (i + 1) := by rw [wr (by omega), hgi]
      rw [hco]
      simp only [cond_true]
      rw [hy.ind (by omega) (by omega), hy.load (by omega) (by omega), asI_int, hx.len, Option.bind_some, e2, hx.ind (by omega) (by omega), hx.load (by omega) (by omega), asI_int, cut_is, Option.bind_some, asI_int, e3, e4,
        checkA_pos (by rw [hy.load (by omega) (by omega), e3]), e5, e6]
      simp only [seqJ_n, headK_c, asI_int, e1, Option.bind_some]
      exact ih
    · have hg : gterm zs cs i = 0 := by unfold gterm; rw [if_neg hco]
      have hco' : coefB (cs.getD i 0) = false := by simpa using hco
      rw [hco']
      simp only [cond_false, seqJ_n, headK_c, asI_int, e1, Option.bind_some]
      have : gsum zs cs (i + 1) = gsum zs cs i := by rw [hgi, hg]; omega
      rw [this] at ih
      exact ih
def guessZ (zs cs : List Int) : Int := Int.fdiv (gsum zs cs (min 12 (min zs.length cs.length))) 4096
theorem guess_is {μ : AMem} {x y : SV} {zs cs : List Int} (hx : IsRow μ .i64 x zs) (hy : IsRow μ .i64 y cs) (hlen : zs.length ≤ 4611686018427387904) :
    lpc_Guess [.s x, .s y] μ = some (.s (.int .i64 (guessZ zs cs)), μ) := by
  rw [lpc_Guess_eq, hx.len, hy.len]
  simp only [Option.bind_some]
  have e : (if (12 : Int) < (if ((cs.length : Nat) : Int) < ((zs.length : Nat) : Int) then ((cs.length : Nat) : Int) else ((zs.length : Nat) : Int)) then (12 : Int) else (if ((cs.length : Nat) : Int) < ((zs.length : Nat) : Int) then ((cs.length : Nat) : Int) else ((zs.length : Nat) : Int))) = ((min 12 (min zs.length cs.length) : Nat) : Int) := by
    split <;> split at * <;> omega
  rw [e]
  have := guess_loop hx hy hlen (n := min 12 (min zs.length cs.length)) (by omega) (by omega) (by omega) _ 0 (Nat.zero_add _)
  have h0 : (0 : Int) = gsum zs cs 0 := rfl
  have h1 : ((0 : Nat) : Int) = 0 := rfl
  rw [h1] at this
  rw [show lpc_Guess_L1 [.s x, .s y, .s (.int .i64 ((min 12 (min zs.length cs.length) : Nat) : Int))] [.s (.int .i64 0), .s (.int .i64 0)] μ = _ from this]
  simp only [seqJ_e, Nat.beq_refl, cond_true, headK_c, asI_int, guessZ]
  rfl
end Go.Proofs.YtnjenjbodcihmaaGreat
namespace Go.Proofs.YtnjenjbodcihmaaGreat
open Go Go.Proofs.YtnjenjbodcihmaaGreat.E
set_option linter.unusedVariables false
set_option linter.unusedSimpArgs false
theorem lpcMay_loop {μ : AMem} {x : SV} {zs : List Int} (hx : IsRow μ .i64 x zs) (hb : zs.length ≤ 1000000000000) :
    ∀ k i : Nat, i + k = zs.length → lpc_May_L1 [.s x, .s x, .s (.int .i64 zs.length)] [.s (.int .i64 i)] μ = if (zs.drop i).all coefB then some (.exit 0, [.s x], μ) else some (.ret, [.s (.bool false)], μ)
  | 0, i, h => by
    rw [lpc_May_L1_eq, lpc_May_L1_B_eq, List.drop_eq_nil_of_le (by omega)]
    simp -implicitDefEqProofs (disch := omega) only [sw, ss, List.all_nil, if_true]
  | k + 1, i, h => by
    have ih := lpcMay_loop hx hb k (i + 1) (by omega)
    rw [nsu] at ih
    rw [lpc_May_L1_eq, lpc_May_L1_B_eq, drop_cons (i := i) (by omega)]
    cases hc : coefB (zs.getD i 0)
    · simp -implicitDefEqProofs (disch := omega) only [sw, ss, hx.ind, hx.load, nat_toNat, coef_is, hc, List.all_cons, Bool.false_and, Bool.false_eq_true, if_false]
    · simp -implicitDefEqProofs (disch := omega) only [sw, ss, hx.ind, hx.load, nat_toNat, coef_is, hc, List.all_cons, Bool.true_and]
      exact ih
theorem lpcMay_is {μ : AMem} {x : SV} {zs : List Int} (hx : IsRow μ .i64 x zs) (hb : zs.length ≤ 1000000000000) : lpc_May [.s x] μ = some (.s (.bool (mayC zs)), μ) := by
  have := lpcMay_loop hx hb _ 0 (Nat.zero_add _)
  rw [n0, List.drop_zero] at this
  rw [lpc_May_eq, hx.len]
  unfold mayC
  cases hc : zs.all coefB
  · rw [hc] at this
    simp only [Bool.false_eq_true, if_false] at this
    simp -implicitDefEqProofs (disch := omega) only [sw, ss, this, Bool.false_and]
  · rw [hc] at this
    simp only [if_true] at this
    by_cases h1 : 1 ≤ zs.length
    · by_cases h2 : zs.length ≤ 12
      · simp -implicitDefEqProofs (disch := omega) only [sw, ss, this, hx.len, Bool.true_and, h1, h2, decide_true, Bool.and_self]
      · simp -implicitDefEqProofs (disch := omega) only [sw, ss, this, hx.len, Bool.true_and, h1, h2, decide_true, decide_false, Bool.and_false]
    · simp -implicitDefEqProofs (disch := omega) only [sw, ss, this, hx.len, Bool.true_and, h1, decide_false, Bool.false_and]
theorem guessZ_le (zs cs : List Int) : -1610612737 ≤ guessZ zs cs ∧ guessZ zs cs ≤ 1610612737 := by
  have := gsum_le zs cs (min 12 (min zs.length cs.length))
  unfold guessZ
  rw [Int.fdiv_eq_ediv_of_nonneg _ (by omega)]
  omega
end Go.Proofs.YtnjenjbodcihmaaGreat
namespace Go.Proofs.YtnjenjbodcihmaaGreat
open Go Go.Proofs.YtnjenjbodcihmaaGreat.E
set_option linter.unusedVariables false
set_option linter.unusedSimpArgs false
def rterm (zs cs : List Int) (i : Nat) : Int :=
  let a := cs.getD i 0
  let b := zs.getD (zs.length - 1 - i) 0
  if a < -32768 ∨ a > 32767 ∨ b < -16777216 ∨ b > 16777216 then 0 else a * b
theorem rterm_eq (zs cs : List Int) (i : Nat) : rterm zs cs i = gterm zs cs i := by
  unfold rterm gterm coefB cutZ
  simp only []
  generalize cs.getD i 0 = a
  generalize zs.getD (zs.length - 1 - i) 0 = b
  by_cases h1 : -32768 ≤ a <;> by_cases h2 : a ≤ 32767 <;> by_cases h3 : -16777216 ≤ b ∧ b ≤ 16777216
  all_goals simp only [h1, h2, h3, decide_true, decide_false, Bool.and_true, Bool.and_false, Bool.true_and, Bool.false_and, Bool.false_eq_true, if_true, if_false, Int.mul_zero]
  all_goals first
    | (rw [if_pos (by omega)]; done)
    | (rw [if_neg (by omega)]; done)
    | (rw [if_neg (by omega)]; simp; done)
    | (rw [if_pos (by omega)]; simp; done)
theorem ref_loop {μ : AMem} {x y : SV} {zs cs : List Int} (hx : IsRow μ .i64 x zs) (hy : IsRow μ .i64 y cs) (hlen : zs.length ≤ 4611686018427387904) {n : Nat} (hn : n = min 12 (min zs.length cs.length)) :
    ∀ k i : Nat, i + k = n → overdubref05_Guess_L1 [.s x, .s y] [.s (.int .i64 (gsum zs cs i)), .s (.int .i64 i)] μ = some (.exit 0, [.s (.int .i64 (gsum zs cs n))], μ)
  | 0, i, h => by
    rw [overdubref05_Guess_L1_eq, overdubref05_Guess_L1_B_eq, hx.len, hy.len]
    obtain rfl : i = n := by omega
    by_cases h1 : (i : Int) < (cs.length : Int)
    · by_cases h2 : (i : Int) < (zs.length : Int)
      · have h3 : ¬ (i : Int) < 12 := by omega
        simp only [h1, h2, h3, Option.bind_some, decide_true, decide_false, cond_true, cond_false, seqJ_n, headK_c, asB_bool, asI_int, Bool.not_true, Bool.not_false]
      · simp only [h1, h2, Option.bind_some, decide_true, decide_false, cond_true, cond_false, seqJ_n, headK_c, asB_bool, asI_int, Bool.not_true, Bool.not_false]
    · simp only [h1, Option.bind_some, decide_true, decide_false, cond_true, cond_false, seqJ_n, headK_c, asB_bool, asI_int, Bool.not_true, Bool.not_false]
  | k + 1, i, h => by
    have ih := ref_loop hx hy hlen hn k (i + 1) (by omega)
    rw [overdubref05_Guess_L1_eq, overdubref05_Guess_L1_B_eq, hx.len, hy.len]
    have h1 : (i : Int) < (cs.length : Int) := by omega
    have h2 : (i : Int) < (zs.length : Int) := by omega
    have h3 : (i : Int) < 12 := by omega
    have hs := gsum_le zs cs i
    have ht := gterm_le zs cs i
    have e1 : IntKind.wrap .i64 ((i : Int) + 1) = ((i + 1 : Nat) : Int) := by rw [wr (by omega)]; omega
    have e2 : IntKind.wrap .i64 (IntKind.wrap .i64 (((zs.length : Nat) : Int) - 1) - (i : Int)) = ((zs.length - 1 - i : Nat) : Int) := by
      rw [wr (n := (zs.length : Int) - 1) (by omega), wr (by omega)]; omega
    have e3 : (((i : Nat) : Int)).toNat = i := by omega
    have e4 : (((zs.length - 1 - i : Nat) : Int)).toNat = zs.length - 1 - i := by omega
    have hgi : gsum zs cs (i + 1) = gsum zs cs i + gterm zs cs i := rfl
    simp only [Option.bind_some, h1, h2, h3, decide_true, cond_true, seqJ_n, headK_c, asB_bool]
    rw [hy.ind (by omega) h1, hy.load (by omega) h1, asI_int, hx.ind (by omega) (by omega), e2, hx.load (by omega) (by omega), asI_int, e3, e4]
    have hr := rterm_eq zs cs i
    unfold rterm at hr
    simp only [] at hr
    generalize cs.getD i 0 = a at *
    generalize zs.getD (zs.length - 1 - i) 0 = b at *
    by_cases c1 : a < -32768
    · have hg : gterm zs cs i = 0 := by rw [← hr, if_pos (.inl c1)]
      have : gsum zs cs (i + 1) = gsum zs cs i := by omega
      rw [this] at ih
      simp only [c1, e1, Option.bind_some, decide_true, decide_false, cond_true, cond_false, seqJ_n, headK_c, asB_bool, asI_int, Bool.not_true, Bool.not_false]; exact ih
    · by_cases c2 : a > 32767
      · have hg : gterm zs cs i = 0 := by rw [← hr, if_pos (.inr (.inl c2))]
        have : gsum zs cs (i + 1) = gsum zs cs i := by omega
        rw [this] at ih
        simp only [c1, c2, e1, Option.bind_some, decide_true, decide_false, cond_true, cond_false, seqJ_n, headK_c, asB_bool, asI_int, Bool.not_true, Bool.not_false]; exact ih
      · by_cases c3 : b < -16777216
        · have hg : gterm zs cs i = 0 := by rw [← hr, if_pos (.inr (.inr (.inl c3)))]
          have : gsum zs cs (i + 1) = gsum zs cs i := by omega
          rw [this] at ih
          simp only [c1, c2, c3, e1, Option.bind_some, decide_true, decide_false, cond_true, cond_false, seqJ_n, headK_c, asB_bool, asI_int, Bool.not_true, Bool.not_false]; exact ih
        · by_cases c4 : b > 16777216
          · have hg : gterm zs cs i = 0 := by rw [← hr, if_pos (.inr (.inr (.inr c4)))]
            have : gsum zs cs (i + 1) = gsum zs cs i := by omega
            rw [this] at ih
            simp only [c1, c2, c3, c4, e1, Option.bind_some, decide_true, decide_false, cond_true, cond_false, seqJ_n, headK_c, asB_bool, asI_int, Bool.not_true, Bool.not_false]; exact ih
          · have hg : a * b = gterm zs cs i := by rw [← hr, if_neg (by omega)]
            have e5 : IntKind.wrap .i64 (a * b) = gterm zs cs i := by rw [hg, wr (by omega)]
            have e6 : IntKind.wrap .i64 (gsum zs cs i + gterm zs cs i) = gsum zs cs (i + 1) := by rw [wr (by omega), hgi]
            simp only [c1, c2, c3, c4, e1, e5, e6, Option.bind_some, decide_true, decide_false, cond_true, cond_false, seqJ_n, headK_c, asB_bool, asI_int, Bool.not_true, Bool.not_false]; exact ih
theorem refGuess_is {μ : AMem} {x y : SV} {zs cs : List Int} (hx : IsRow μ .i64 x zs) (hy : IsRow μ .i64 y cs) (hlen : zs.length ≤ 4611686018427387904) :
    overdubref05_Guess [.s x, .s y] μ = some (.s (.int .i64 (guessZ zs cs)), μ) := by
  rw [overdubref05_Guess_eq]
  have := ref_loop hx hy hlen rfl _ 0 (Nat.zero_add _)
  have h1 : ((0 : Nat) : Int) = 0 := rfl
  rw [h1] at this
  rw [show overdubref05_Guess_L1 [.s x, .s y] [.s (.int .i64 0), .s (.int .i64 0)] μ = _ from this]
  have hs := gsum_le zs cs (min 12 (min zs.length cs.length))
  simp only [seqJ_e, Nat.beq_refl, cond_true, headK_c, asI_int]
  rw [down_is _ _ (by omega) (by omega)]
  simp only [Option.bind_some, asI_int, guessZ]
  rw [Int.fdiv_eq_ediv_of_nonneg _ (by omega)]
end Go.Proofs.YtnjenjbodcihmaaGreat
namespace Go.Proofs.YtnjenjbodcihmaaGreat
open Go Go.Proofs.YtnjenjbodcihmaaGreat.E
set_option linter.unusedVariables false
set_option linter.unusedSimpArgs false
def resE (xs cs : List Int) : Int := if mayC cs = true ∧ cs.length ≤ xs.length then checkZ xs else 1
def resZ (xs cs : List Int) : List Int := if resE xs cs = 0 then leftZ (fun l => guessZ l cs) cs.length xs else []
theorem lpcRes_loop {μ0 : AMem} (h0 : WF μ0) {x c : SV} {xs cs : List Int} (hx : IsRow μ0 .i64 x xs) (hc : IsRow μ0 .i64 c cs) (hb : xs.length ≤ 1000000000) (hz : ∀ v ∈ xs, -8388608 ≤ v ∧ v ≤ 8388607) :
    ∀ (k i : Nat) (μ : AMem) (y : SV) (zs : List Int), i + k = xs.length → zs.length ≤ i → Same μ0 μ → OwnRow μ0.next μ .i64 3 y zs →
      ∃ y' μ', lpc_Residual_L1 [.s x, .s c] [.s y, .s (.int .i64 i)] μ = some (.exit 0, [.s y'], μ') ∧ Same μ0 μ' ∧ OwnRow μ0.next μ' .i64 3 y' (zs ++ (List.range' i k).map fun j => xs.getD j 0 - guessZ (xs.take j) cs)
  | 0, i, μ, y, zs, h, hl, hs, hy => by
    rw [lpc_Residual_L1_eq, lpc_Residual_L1_B_eq, (hx.same hs).len]
    simp -implicitDefEqProofs (disch := omega) only [sw, ss]
    exact ⟨y, μ, rfl, hs, by rw [show (List.range' i 0).map _ = [] from rfl, List.append_nil]; exact hy⟩
  | k + 1, i, μ, y, zs, h, hl, hs, hy => by
    have hi : i < xs.length := by omega
    have hx1 := hx.same hs
    have hx2 := hx.same (bumpS hs 14)
    have hv := hz _ (getD_mem hi)
    have hg := guessZ_le (xs.take i) cs
    obtain ⟨z, f1, f2⟩ := hx2.front (n := i) (by omega)
    have gu := guess_is f2 (hc.same (bumpS hs 14)) (by simp; omega)
    obtain ⟨y', μ', p1, p2, p3⟩ := pushS (B := 8) (a := 11) (b := 12) (n := 14) (q := some 1) h0 hs hy (xs.getD i 0 - guessZ (xs.take i) cs) (by omega) (by omega) (by omega) (by omega) (by omega)
    obtain ⟨y2, μ2, q1, q2, q3⟩ := lpcRes_loop h0 hx hc hb hz k (i + 1) μ' y' _ (by omega) (by simp; omega) p2 p3
    rw [nsu] at q1
    rw [List.append_assoc] at q3
    refine ⟨y2, μ2, ?_, q2, q3⟩
    rw [lpc_Residual_L1_eq, lpc_Residual_L1_B_eq, hx1.len]
    simp -implicitDefEqProofs (disch := omega) only [sw, ss, hx2.ind, hx2.load, nat_toNat, f1, gu, chk_rfl, freshB hs.wf, p1]
    exact q1
theorem lpcRes_is {μ : AMem} (h0 : WF μ) {x c : SV} {xs cs : List Int} (hx : IsRow μ .i64 x xs) (hc : IsRow μ .i64 c cs) (hb : xs.length ≤ 1000000000) (hb2 : cs.length ≤ 1000000000) :
    ∃ y μ', lpc_Residual [.s x, .s c] μ = some (.tuple [.s y, .s (.int .i64 (resE xs cs))], μ') ∧ Same μ μ' ∧ OwnRow μ.next μ' .i64 3 y (resZ xs cs) := by
  rw [lpc_Residual_eq]
  unfold resZ
  have hm := lpcMay_is hc (by omega)
  by_cases c1 : mayC cs = true ∧ cs.length ≤ xs.length
  · have hE : resE xs cs = checkZ xs := by unfold resE; rw [if_pos c1]
    have hk := check_is hx (by omega)
    rw [hE]
    obtain ⟨c1, c2⟩ := c1
    by_cases c3 : checkZ xs = 0
    · have hz := checkZ_ok c3
      obtain ⟨y, μ', r1, r2, r3⟩ := lpcRes_loop h0 hx hc hb hz.1 (xs.length - cs.length) cs.length μ .nilSlice [] (by omega) (by simp) (Keep.refl h0) (OwnRow.nil _ _ _ _)
      simp -implicitDefEqProofs (disch := omega) only [sw, ss, hm, c1, hx.len, hc.len, hk, c3, r1, if_true]
      rw [List.nil_append] at r3
      exact ⟨_, _, rfl, r2, r3⟩
    · simp -implicitDefEqProofs (disch := omega) only [sw, ss, hm, c1, hx.len, hc.len, hk, if_neg c3]
      exact ⟨_, _, rfl, Keep.refl h0, OwnRow.nil _ _ _ _⟩
  · have hE : resE xs cs = 1 := by unfold resE; rw [if_neg c1]
    rw [hE, if_neg (by omega)]
    cases c4 : mayC cs
    · simp -implicitDefEqProofs (disch := omega) only [sw, ss, hm, c4]
      exact ⟨_, _, rfl, Keep.refl h0, OwnRow.nil _ _ _ _⟩
    · have : xs.length < cs.length := by
        rcases Nat.lt_or_ge xs.length cs.length with h | h
        · exact h
        · exact absurd ⟨c4, h⟩ c1
      simp -implicitDefEqProofs (disch := omega) only [sw, ss, hm, c4, hx.len, hc.len]
      exact ⟨_, _, rfl, Keep.refl h0, OwnRow.nil _ _ _ _⟩
theorem refLpcRes_loop {μ0 : AMem} (h0 : WF μ0) {x c : SV} {xs cs : List Int} (hx : IsRow μ0 .i64 x xs) (hc : IsRow μ0 .i64 c cs) (hb : xs.length ≤ 1000000000) (hz : ∀ v ∈ xs, -8388608 ≤ v ∧ v ≤ 8388607) :
    ∀ (k i : Nat) (μ : AMem) (y : SV) (zs : List Int), i + k = xs.length → zs.length ≤ i → Same μ0 μ → OwnRow μ0.next μ .i64 3 y zs →
      ∃ y' μ', overdubref05_LpcResidual_L1 [.s x, .s c] [.s y, .s (.int .i64 i)] μ = some (.exit 0, [.s y'], μ') ∧ Same μ0 μ' ∧ OwnRow μ0.next μ' .i64 3 y' (zs ++ (List.range' i k).map fun j => xs.getD j 0 - guessZ (xs.take j) cs)
  | 0, i, μ, y, zs, h, hl, hs, hy => by
    rw [overdubref05_LpcResidual_L1_eq, overdubref05_LpcResidual_L1_B_eq, (hx.same hs).len]
    simp -implicitDefEqProofs (disch := omega) only [sw, ss]
    exact ⟨y, μ, rfl, hs, by rw [show (List.range' i 0).map _ = [] from rfl, List.append_nil]; exact hy⟩
  | k + 1, i, μ, y, zs, h, hl, hs, hy => by
    have hi : i < xs.length := by omega
    have hx1 := hx.same hs
    have hx2 := hx.same (bumpS hs 14)
    have hv := hz _ (getD_mem hi)
    have hg := guessZ_le (xs.take i) cs
    obtain ⟨z, f1, f2⟩ := hx2.front (n := i) (by omega)
    have gu := refGuess_is f2 (hc.same (bumpS hs 14)) (by simp; omega)
    obtain ⟨y', μ', p1, p2, p3⟩ := pushS (B := 8) (a := 11) (b := 12) (n := 14) (q := some 1) h0 hs hy (xs.getD i 0 - guessZ (xs.take i) cs) (by omega) (by omega) (by omega) (by omega) (by omega)
    obtain ⟨y2, μ2, q1, q2, q3⟩ := refLpcRes_loop h0 hx hc hb hz k (i + 1) μ' y' _ (by omega) (by simp; omega) p2 p3
    rw [nsu] at q1
    rw [List.append_assoc] at q3
    refine ⟨y2, μ2, ?_, q2, q3⟩
    rw [overdubref05_LpcResidual_L1_eq, overdubref05_LpcResidual_L1_B_eq, hx1.len]
    simp -implicitDefEqProofs (disch := omega) only [sw, ss, hx2.ind, hx2.load, nat_toNat, f1, gu, chk_rfl, freshB hs.wf, p1]
    exact q1
theorem refLpcRes_is {μ : AMem} (h0 : WF μ) {x c : SV} {xs cs : List Int} (hx : IsRow μ .i64 x xs) (hc : IsRow μ .i64 c cs) (hb : xs.length ≤ 1000000000) (hb2 : cs.length ≤ 1000000000) :
    ∃ y μ', overdubref05_LpcResidual [.s x, .s c] μ = some (.tuple [.s y, .s (.int .i64 (resE xs cs))], μ') ∧ Same μ μ' ∧ OwnRow μ.next μ' .i64 3 y (resZ xs cs) := by
  rw [overdubref05_LpcResidual_eq]
  unfold resZ
  have hm := refMayC_is hc (by omega)
  by_cases c1 : mayC cs = true ∧ cs.length ≤ xs.length
  · have hE : resE xs cs = checkZ xs := by unfold resE; rw [if_pos c1]
    have hk := refMay_is hx (by omega)
    rw [hE]
    obtain ⟨c1, c2⟩ := c1
    by_cases c3 : checkZ xs = 0
    · have hz := checkZ_ok c3
      obtain ⟨y, μ', r1, r2, r3⟩ := refLpcRes_loop h0 hx hc hb hz.1 (xs.length - cs.length) cs.length μ .nilSlice [] (by omega) (by simp) (Keep.refl h0) (OwnRow.nil _ _ _ _)
      simp -implicitDefEqProofs (disch := omega) only [sw, ss, hm, c1, hx.len, hc.len, hk, c3, r1, if_true]
      rw [List.nil_append] at r3
      exact ⟨_, _, rfl, r2, r3⟩
    · simp -implicitDefEqProofs (disch := omega) only [sw, ss, hm, c1, hx.len, hc.len, hk, if_neg c3]
      exact ⟨_, _, rfl, Keep.refl h0, OwnRow.nil _ _ _ _⟩
  · have hE : resE xs cs = 1 := by unfold resE; rw [if_neg c1]
    rw [hE, if_neg (by omega)]
    cases c4 : mayC cs
    · simp -implicitDefEqProofs (disch := omega) only [sw, ss, hm, c4]
      exact ⟨_, _, rfl, Keep.refl h0, OwnRow.nil _ _ _ _⟩
    · have : xs.length < cs.length := by
        rcases Nat.lt_or_ge xs.length cs.length with h | h
        · exact h
        · exact absurd ⟨c4, h⟩ c1
      simp -implicitDefEqProofs (disch := omega) only [sw, ss, hm, c4, hx.len, hc.len]
      exact ⟨_, _, rfl, Keep.refl h0, OwnRow.nil _ _ _ _⟩
end Go.Proofs.YtnjenjbodcihmaaGreat
namespace Go.Proofs.YtnjenjbodcihmaaGreat
open Go Go.Proofs.YtnjenjbodcihmaaGreat.E
set_option linter.unusedVariables false
set_option linter.unusedSimpArgs false
def digV (v : Int) (k : Nat) : Int := v / 2 ^ (7 - k) % 2
def digB (bs : List Int) (j : Nat) : Int := digV (bs.getD (j / 8) 0) (j % 8)
def holds (bs ds : List Int) : Prop := bs.length = (ds.length + 7) / 8 ∧ (∀ v ∈ bs, 0 ≤ v ∧ v < 256) ∧ ∀ j, digB bs j = ds.getD j 0
def orB (v : Int) (r : Nat) : Int := IntKind.wrap .u8 (BitVec.toNat ((BitVec.ofInt (IntKind.bits .u8) v) ||| (BitVec.ofInt (IntKind.bits .u8) (Int.fdiv 128 (2 ^ r)))))
theorem orB_fin : ∀ v : Fin 256, ∀ r : Fin 8, (0 ≤ orB (v.val : Int) r.val ∧ orB (v.val : Int) r.val < 256) ∧ ∀ k : Fin 8, digV (orB (v.val : Int) r.val) k.val = if k = r then 1 else digV (v.val : Int) k.val := by decide +kernel
theorem orB_dig {v : Int} (h : 0 ≤ v ∧ v < 256) {r : Nat} (hr : r < 8) : (0 ≤ orB v r ∧ orB v r < 256) ∧ ∀ k, k < 8 → digV (orB v r) k = if k = r then 1 else digV v k := by
  have := orB_fin ⟨v.toNat, by omega⟩ ⟨r, hr⟩
  have e : ((v.toNat : Nat) : Int) = v := by omega
  simp only [e] at this
  refine ⟨this.1, fun k hk => ?_⟩
  have h2 := this.2 ⟨k, hk⟩
  simp only [Fin.mk.injEq] at h2
  exact h2
theorem digV_zero (k : Nat) : digV 0 k = 0 := by unfold digV; simp
theorem digV_le (v : Int) (k : Nat) : 0 ≤ digV v k ∧ digV v k ≤ 1 := by unfold digV; omega
theorem byte_ext {v w : Int} (hv : 0 ≤ v ∧ v < 256) (hw : 0 ≤ w ∧ w < 256) (h : ∀ k, k < 8 → digV v k = digV w k) : v = w := by
  have h0 := h 0 (by omega)
  have h1 := h 1 (by omega)
  have h2 := h 2 (by omega)
  have h3 := h 3 (by omega)
  have h4 := h 4 (by omega)
  have h5 := h 5 (by omega)
  have h6 := h 6 (by omega)
  have h7 := h 7 (by omega)
  simp only [digV, Nat.reduceSub, Int.reducePow] at h0 h1 h2 h3 h4 h5 h6 h7
  omega
theorem holds_ext {bs cs ds : List Int} (h1 : holds bs ds) (h2 : holds cs ds) : bs = cs := by
  apply List.ext_getElem
  · rw [h1.1, h2.1]
  · intro i hb hc
    apply byte_ext (h1.2.1 _ (List.getElem_mem hb)) (h2.2.1 _ (List.getElem_mem hc))
    intro k hk
    have a := h1.2.2 (8 * i + k)
    have b := h2.2.2 (8 * i + k)
    unfold digB at a b
    rw [show (8 * i + k) / 8 = i by omega, show (8 * i + k) % 8 = k by omega] at a b
    rw [getD_lt hb] at a
    rw [getD_lt hc] at b
    rw [a, b]
theorem holds_nil : holds [] [] := by
  refine ⟨rfl, fun v h => (List.not_mem_nil h).elim, fun j => ?_⟩
  unfold digB; simp [digV_zero]
theorem getD_out {l : List Int} {i : Nat} (h : l.length ≤ i) : l.getD i 0 = 0 := by rw [List.getD_eq_getElem?_getD, List.getElem?_eq_none h]; rfl
theorem getD_app {l m : List Int} {i : Nat} : (l ++ m).getD i 0 = if i < l.length then l.getD i 0 else m.getD (i - l.length) 0 := by
  rw [List.getD_eq_getElem?_getD, List.getElem?_append]
  split <;> rw [List.getD_eq_getElem?_getD]
theorem getD_snoc {l : List Int} {d : Int} {i : Nat} : (l ++ [d]).getD i 0 = if i = l.length then d else l.getD i 0 := by
  rw [getD_app]
  by_cases h : i < l.length
  · rw [if_pos h, if_neg (by omega)]
  · rw [if_neg h]
    by_cases h2 : i = l.length
    · rw [if_pos h2, h2, Nat.sub_self]; rfl
    · rw [if_neg h2, getD_out (by simp; omega), getD_out (by omega)]
theorem getD_setB {l : List Int} {i j : Nat} {v : Int} (h : i < l.length) : (l.set i v).getD j 0 = if j = i then v else l.getD j 0 := by
  rw [List.getD_eq_getElem?_getD, List.getElem?_set]
  by_cases hj : i = j
  · rw [if_pos hj, if_pos hj.symm, if_pos h]; rfl
  · rw [if_neg hj, if_neg (fun e => hj e.symm), List.getD_eq_getElem?_getD]
def begun (bs : List Int) (n : Nat) : List Int := if n % 8 = 0 then bs ++ [0] else bs
theorem begun_spec {bs ds : List Int} (h : holds bs ds) : ds.length / 8 < (begun bs ds.length).length ∧ (begun bs ds.length).length = (ds.length + 8) / 8 ∧ (∀ v ∈ begun bs ds.length, 0 ≤ v ∧ v < 256) ∧ ∀ j, digB (begun bs ds.length) j = ds.getD j 0 := by
  obtain ⟨h1, h2, h3⟩ := h
  unfold begun
  by_cases c : ds.length % 8 = 0
  · rw [if_pos c]
    refine ⟨by simp; omega, by simp; omega, fun v hv => ?_, fun j => ?_⟩
    · rcases List.mem_append.mp hv with h | h
      · exact h2 v h
      · rw [List.mem_singleton.mp h]; omega
    · rw [← h3 j]
      unfold digB
      rw [getD_snoc]
      split
      · rename_i e
        rw [e, getD_out (Nat.le_refl _)]
      · rfl
  · rw [if_neg c]
    exact ⟨by omega, by omega, h2, h3⟩
theorem holds_one {bs ds : List Int} (h : holds bs ds) : holds ((begun bs ds.length).set (ds.length / 8) (orB ((begun bs ds.length).getD (ds.length / 8) 0) (ds.length % 8))) (ds ++ [1]) := by
  obtain ⟨h1, h2, h3, h4⟩ := begun_spec h
  have hv := h3 _ (getD_mem h1)
  obtain ⟨o1, o2⟩ := orB_dig hv (r := ds.length % 8) (by omega)
  refine ⟨by simp; omega, fun v hv' => ?_, fun j => ?_⟩
  · rcases List.mem_or_eq_of_mem_set hv' with h | h
    · exact h3 v h
    · rw [h]; exact o1
  · rw [getD_snoc]
    unfold digB
    rw [getD_setB h1]
    by_cases c : j / 8 = ds.length / 8
    · rw [if_pos c, o2 _ (by omega)]
      by_cases c2 : j % 8 = ds.length % 8
      · rw [if_pos c2, if_pos (by omega)]
      · rw [if_neg c2, if_neg (by omega), ← h4 j]; unfold digB; rw [c]
    · rw [if_neg c, if_neg (by omega), ← h4 j]; rfl
theorem holds_nought {bs ds : List Int} (h : holds bs ds) : holds (begun bs ds.length) (ds ++ [0]) := by
  obtain ⟨h1, h2, h3, h4⟩ := begun_spec h
  refine ⟨by simp; omega, h3, fun j => ?_⟩
  rw [getD_snoc, h4]
  split
  · rename_i e; rw [e, getD_out (Nat.le_refl _)]
  · rfl
theorem and_one (a : Int) : IntKind.wrap .i64 (BitVec.toNat ((BitVec.ofInt (IntKind.bits .i64) a) &&& (BitVec.ofInt (IntKind.bits .i64) 1))) = a % 2 := by
  have e : (BitVec.toNat ((BitVec.ofInt (IntKind.bits .i64) a) &&& (BitVec.ofInt (IntKind.bits .i64) 1)) : Int) = a % 2 := by
    show ((BitVec.toNat ((BitVec.ofInt 64 a) &&& (BitVec.ofInt 64 1)) : Nat) : Int) = a % 2
    rw [BitVec.toNat_and, BitVec.toNat_ofInt, BitVec.toNat_ofInt]
    have : (1 : Int) % ((2 ^ 64 : Nat) : Int) = 1 := by decide
    rw [this, show (1 : Int).toNat = 1 from rfl, Nat.and_one_is_mod]
    omega
  rw [e, wr (by omega)]
theorem or_one {v d : Int} (hv : 0 ≤ v ∧ v < 2305843009213693952) (hd : d = 0 ∨ d = 1) : IntKind.wrap .i64 (BitVec.toNat ((BitVec.ofInt (IntKind.bits .i64) (IntKind.wrap .i64 (v * 2 ^ (1 : Nat)))) ||| (BitVec.ofInt (IntKind.bits .i64) d))) = 2 * v + d := by
  have hw : IntKind.wrap .i64 (v * 2 ^ (1 : Nat)) = 2 * v := by rw [show (2 : Int) ^ (1 : Nat) = 2 from rfl, wr (by omega)]; omega
  rw [hw]
  have e : (BitVec.toNat ((BitVec.ofInt (IntKind.bits .i64) (2 * v)) ||| (BitVec.ofInt (IntKind.bits .i64) d)) : Int) = 2 * v + d := by
    show ((BitVec.toNat ((BitVec.ofInt 64 (2 * v)) ||| (BitVec.ofInt 64 d)) : Nat) : Int) = 2 * v + d
    rw [BitVec.toNat_or, BitVec.toNat_ofInt, BitVec.toNat_ofInt]
    have h1 : ((2 * v) % ((2 ^ 64 : Nat) : Int)).toNat = v.toNat <<< 1 := by rw [Nat.shiftLeft_eq]; omega
    have h2 : (d % ((2 ^ 64 : Nat) : Int)).toNat = d.toNat := by omega
    rw [h1, h2, ← Nat.shiftLeft_add_eq_or_of_lt (by omega), Nat.shiftLeft_eq]
    omega
  rw [e, wr (by omega)]
def putD (v : Int) : Nat → List Int
  | 0 => []
  | k + 1 => (v / 2 ^ k % 2) :: putD v k
theorem putD_len (v : Int) : ∀ n, (putD v n).length = n
  | 0 => rfl
  | n + 1 => by rw [putD, List.length_cons, putD_len v n]
def numB (bs : List Int) (at_ : Nat) : Nat → Int
  | 0 => 0
  | n + 1 => 2 * numB bs at_ n + digB bs (at_ + n)
theorem digB_le (bs : List Int) (j : Nat) : 0 ≤ digB bs j ∧ digB bs j ≤ 1 := digV_le _ _
theorem numB_le (bs : List Int) (at_ : Nat) : ∀ n : Nat, 0 ≤ numB bs at_ n ∧ numB bs at_ n < 2 ^ n
  | 0 => by simp [numB]
  | n + 1 => by
    have h1 := numB_le bs at_ n
    have h2 := digB_le bs (at_ + n)
    rw [numB, Int.pow_succ]; omega
theorem pow_le62 {n : Nat} (h : n ≤ 61) : (2 : Int) ^ n ≤ 2305843009213693952 := by
  have h1 : (2 : Nat) ^ n ≤ 2 ^ 61 := Nat.pow_le_pow_right (by omega) h
  have e : ((2 : Int) ^ n) = ((2 ^ n : Nat) : Int) := by simp
  rw [e]
  have h3 : (2 : Nat) ^ 61 = 2305843009213693952 := by decide
  omega
end Go.Proofs.YtnjenjbodcihmaaGreat
namespace Go.Proofs.YtnjenjbodcihmaaGreat
open Go Go.Proofs.YtnjenjbodcihmaaGreat.E
set_option linter.unusedVariables false
set_option linter.unusedSimpArgs false
def St (N : Nat) (μ : AMem) (id : Nat) (b : SV) (n : Int) (bs : List Int) : Prop :=
  N ≤ id ∧ (∃ o, μ.obj id = some o ∧ o.own = true ∧ o.ver = 0 ∧ o.cells = [b, .int .i64 n]) ∧ OwnRow N μ .u8 5 b bs ∧ ¬ isId b id
def foot (id : Nat) (b : SV) : Nat → Prop := fun j => j = id ∨ isId b j
theorem St.cell0 {N : Nat} {μ : AMem} {id : Nat} {b : SV} {n : Int} {bs : List Int} (h : St N μ id b n bs) : μ.cell id 0 (0 + 0) = some b := by
  obtain ⟨_, ⟨o, ho, _, hv, hc⟩, _⟩ := h
  simp only [AMem.cell, ho, Option.bind_some, hv, if_true, hc]; rfl
theorem St.cell1 {N : Nat} {μ : AMem} {id : Nat} {b : SV} {n : Int} {bs : List Int} (h : St N μ id b n bs) : μ.cell id 0 (0 + 1) = some (.int .i64 n) := by
  obtain ⟨_, ⟨o, ho, _, hv, hc⟩, _⟩ := h
  simp only [AMem.cell, ho, Option.bind_some, hv, if_true, hc]; rfl
theorem St.keep {N : Nat} {μ μ' : AMem} {S : Nat → Prop} {id : Nat} {b : SV} {n : Int} {bs : List Int} (h : St N μ id b n bs) (hk : Keep S μ μ') (hS : ∀ j, S j → ¬ foot id b j) : St N μ' id b n bs := by
  obtain ⟨hN, ⟨o, ho, hr⟩, hb, hi⟩ := h
  exact ⟨hN, ⟨o, hk.old id o ho fun h => hS id h (.inl rfl), hr⟩, ownKeep hb hk fun j hj hh => hS j hj (.inr hh), hi⟩
theorem St.same {N : Nat} {μ μ' : AMem} {id : Nat} {b : SV} {n : Int} {bs : List Int} (h : St N μ id b n bs) (hk : Same μ μ') : St N μ' id b n bs := h.keep hk fun _ h => h.elim
theorem St.less {N M : Nat} {μ : AMem} {id : Nat} {b : SV} {n : Int} {bs : List Int} (h : St N μ id b n bs) (hM : M ≤ N) : St M μ id b n bs := ⟨Nat.le_trans hM h.1, h.2.1, h.2.2.1.less hM, h.2.2.2⟩
theorem St.ids {N : Nat} {μ : AMem} {id : Nat} {b : SV} {n : Int} {bs : List Int} (h : St N μ id b n bs) {j : Nat} (hj : foot id b j) : N ≤ j ∧ ∃ o, μ.obj j = some o := by
  rcases hj with rfl | hj
  · obtain ⟨hN, ⟨o, ho, _⟩, _⟩ := h
    exact ⟨hN, o, ho⟩
  · exact own_lives h.2.2.1 hj
theorem St.count {N : Nat} {μ : AMem} (hw : WF μ) {id : Nat} {b : SV} {n : Int} {bs : List Int} (h : St N μ id b n bs) (v : Int) :
    ∃ μ', μ.store id 0 (0 + 1) [.int .i64 v] = some μ' ∧ Keep (fun j => j = id) μ μ' ∧ St N μ' id b v bs := by
  obtain ⟨hN, ⟨o, ho, how, hv, hc⟩, hb, hi⟩ := h
  have hk : Keep (fun j => j = id) μ (μ.set id { o with cells := overA o.cells (0 + 1) [.int .i64 v] }) := Keep.set hw ho rfl
  refine ⟨μ.set id { o with cells := overA o.cells (0 + 1) [.int .i64 v] }, ?_, hk, hN, ⟨{ o with cells := overA o.cells (0 + 1) [.int .i64 v] }, by simp, how, hv, ?_⟩, ownKeep hb hk (fun j hj => by subst hj; exact hi), hi⟩
  · simp only [AMem.store, ho, Option.bind_some, how, hv, hc]; rfl
  · show overA o.cells (0 + 1) [.int .i64 v] = _
    rw [hc]; rfl
theorem St.bytes {N : Nat} {μ : AMem} (hw : WF μ) {id : Nat} {b b' : SV} {n : Int} {cs : List Int} (hN : N ≤ id) (h : ∃ o, μ.obj id = some o ∧ o.own = true ∧ o.ver = 0 ∧ o.cells = [b, .int .i64 n]) (hb : OwnRow N μ .u8 5 b' cs) (hi : ¬ isId b' id) :
    ∃ μ', μ.store id 0 (0 + 0) [b'] = some μ' ∧ Keep (fun j => j = id) μ μ' ∧ St N μ' id b' n cs := by
  obtain ⟨o, ho, how, hv, hc⟩ := h
  have hk : Keep (fun j => j = id) μ (μ.set id { o with cells := overA o.cells (0 + 0) [b'] }) := Keep.set hw ho rfl
  refine ⟨μ.set id { o with cells := overA o.cells (0 + 0) [b'] }, ?_, hk, hN, ⟨{ o with cells := overA o.cells (0 + 0) [b'] }, by simp, how, hv, ?_⟩, ownKeep hb hk (fun j hj => by subst hj; exact hi), hi⟩
  · simp only [AMem.store, ho, Option.bind_some, how, hv, hc]; rfl
  · show overA o.cells (0 + 0) [b'] = _
    rw [hc]; rfl
theorem E.Keep.weak {S T : Nat → Prop} {μ μ' : AMem} (h : Keep S μ μ') (hST : ∀ j, S j → T j) : Keep T μ μ' := ⟨h.wf, h.next, fun id o ho hf => h.old id o ho fun hs => hf (hST id hs), h.low⟩
def Wr (N : Nat) (μ : AMem) (x : SV) (F : Nat → Prop) (ds : List Int) : Prop := ∃ id b bs, x = .ptr id 0 0 ∧ F = foot id b ∧ St N μ id b ds.length bs ∧ holds bs ds
theorem Wr.nn {N : Nat} {μ : AMem} {x : SV} {F : Nat → Prop} {ds : List Int} (h : Wr N μ x F ds) : isNil (.s x) = some false := by
  obtain ⟨id, b, bs, rfl, _⟩ := h; rfl
theorem Wr.keep {N : Nat} {μ μ' : AMem} {S F : Nat → Prop} {x : SV} {ds : List Int} (h : Wr N μ x F ds) (hk : Keep S μ μ') (hS : ∀ j, S j → ¬ F j) : Wr N μ' x F ds := by
  obtain ⟨id, b, bs, hx, rfl, hs, hh⟩ := h
  exact ⟨id, b, bs, hx, rfl, hs.keep hk hS, hh⟩
theorem Wr.same {N : Nat} {μ μ' : AMem} {F : Nat → Prop} {x : SV} {ds : List Int} (h : Wr N μ x F ds) (hk : Same μ μ') : Wr N μ' x F ds := h.keep hk fun _ h => h.elim
theorem Wr.ids {N : Nat} {μ : AMem} {F : Nat → Prop} {x : SV} {ds : List Int} (h : Wr N μ x F ds) {j : Nat} (hj : F j) : N ≤ j ∧ ∃ o, μ.obj j = some o := by
  obtain ⟨id, b, bs, _, rfl, hs, _⟩ := h
  exact hs.ids hj
theorem Wr.less {N M : Nat} {μ : AMem} {F : Nat → Prop} {x : SV} {ds : List Int} (h : Wr N μ x F ds) (hM : M ≤ N) : Wr M μ x F ds := by
  obtain ⟨id, b, bs, hx, hF, hs, hh⟩ := h
  exact ⟨id, b, bs, hx, hF, hs.less hM, hh⟩
theorem newWriter_is {μ : AMem} (hw : WF μ) : ∃ x F μ', bits_NewWriter [] μ = some (.s x, μ') ∧ Same μ μ' ∧ Wr μ.next μ' x F [] := by
  refine ⟨.ptr (μ.next + 1) 0 0, foot (μ.next + 1) .nilSlice, _, bits_NewWriter_eq μ, Same.bumpSet hw (by omega) _, μ.next + 1, .nilSlice, [], rfl, rfl, ⟨by omega, ⟨_, set_self _ _ _, rfl, rfl, rfl⟩, OwnRow.nil _ _ _ _, fun h => h⟩, holds_nil⟩
theorem put_begin {N : Nat} {μ : AMem} (hw : WF μ) {id : Nat} {b : SV} {n : Nat} {bs : List Int} (h : St N μ id b n bs) (hn : n ≤ 1000000) (hbs : bs.length = (n + 7) / 8) :
    ∃ b' μ', ((μ.cell id 0 (0 + 1)).bind fun x1 =>
    asI .i64 (.s x1) fun n2 =>
    bif ((Int.tmod n2 8) == 0) then
    (((μ.bump 10).cell id 0 (0 + 0)).bind fun x3 =>
      appendA 5 1 1 (μ.next + 6) ((μ.bump 10).set (μ.next + 5) (rowObj [.int .u8 0] 1 5 (some 1))) (.s x3) (.s (.slice (μ.next + 5) 0 0 1)) fun x4 m5 =>
      asS x4 fun x6 =>
      (m5.store id 0 (0 + 0) [x6]).bind fun m7 =>
      some (AExit.normal, ([] : List AV), m7))
    else
    (some (AExit.normal, [], μ))) = some (AExit.normal, ([] : List AV), μ') ∧
      Keep (foot id b) μ μ' ∧ St N μ' id b' n (begun bs n) ∧ ∀ j, foot id b' j → foot id b j ∨ μ.next ≤ j := by
  have hc0 := h.cell0
  have hc1 := h.cell1
  have hm : (Int.tmod (n : Int) 8 == 0) = decide (n % 8 = 0) := by
    rw [Int.tmod_eq_emod_of_nonneg (by omega)]
    by_cases c : n % 8 = 0
    · rw [decide_eq_true c]; simp; omega
    · rw [decide_eq_false c]; simp; omega
  unfold begun
  by_cases c : n % 8 = 0
  · rw [if_pos c]
    obtain ⟨hN, ⟨o, ho, how, hv, hc⟩, hb, hi⟩ := h
    have hidl := hw.lt ho
    obtain ⟨b', m5, p1, p2, p3, p4, p5, p6⟩ := OwnRow.push (B := 1) (a := 5) (b := 6) (n := 10) (q := some 1) hw hb 0 (by omega) (by omega) (by omega) (by omega) (by omega) (by omega)
    have hi' : ¬ isId b' id := fun hh => by
      rcases p6 id hh with h1 | h1
      · exact hi h1
      · omega
    obtain ⟨m7, s1, s2, s3⟩ := St.bytes p3 hN ⟨o, p5.1 id o ho hi, how, hv, hc⟩ p2 hi'
    refine ⟨b', m7, ?_, ?_, s3, fun j hj => ?_⟩
    · simp -implicitDefEqProofs only [hc1, bump_cell, hc0, hm, decide_eq_true c, p1, s1, ss]
    · refine ⟨s2.wf, Nat.le_trans p4 s2.next, fun j o' ho' hf => s2.old j o' (p5.1 j o' ho' fun hh => hf (.inr hh)) fun e => hf (.inl e), fun j hj hno => s2.low j (Nat.lt_of_lt_of_le hj p4) (p5.2 j hj hno)⟩
    · rcases hj with rfl | hj
      · exact .inl (.inl rfl)
      · rcases p6 j hj with h1 | h1
        · exact .inl (.inr h1)
        · exact .inr h1
  · rw [if_neg c]
    refine ⟨b, μ, ?_, Keep.refl hw, h, fun j hj => .inl hj⟩
    simp -implicitDefEqProofs only [hc1, hm, decide_eq_false c, ss]
theorem E.Keep.trans2 {S T : Nat → Prop} {μ m μ' : AMem} (h : Keep S μ m) (k : Keep T m μ') (hT : ∀ j, T j → S j ∨ μ.next ≤ j) (hw : WF μ) : Keep S μ μ' :=
  ⟨k.wf, Nat.le_trans h.next k.next, fun id o ho hf => k.old id o (h.old id o ho hf) fun ht => by
    rcases hT id ht with h1 | h1
    · exact hf h1
    · have := hw.lt ho; omega, fun id hi hn => k.low id (Nat.lt_of_lt_of_le hi h.next) (h.low id hi hn)⟩
theorem put_is {N : Nat} {μ : AMem} (hw : WF μ) {x : SV} {F : Nat → Prop} {ds : List Int} (h : Wr N μ x F ds) (hl : ds.length ≤ 1000000) (d : Bool) :
    ∃ F' μ', bits_Writer_put [.s x, .s (.bool d)] μ = some (.tuple [], μ') ∧ Keep F μ μ' ∧ Wr N μ' x F' (ds ++ [if d then 1 else 0]) ∧ ∀ j, F' j → F j ∨ μ.next ≤ j := by
  obtain ⟨id, b, bs, rfl, rfl, hst, hh⟩ := h
  obtain ⟨b', m9, e1, k1, st1, f1⟩ := put_begin hw hst hl hh.1
  obtain ⟨g1, g2, g3, g4⟩ := begun_spec hh
  have hc0 := st1.cell0
  have hc1 := st1.cell1
  have hi1 : IntKind.wrap .i64 (Int.tdiv (ds.length : Int) 8) = ((ds.length / 8 : Nat) : Int) := by
    rw [Int.tdiv_eq_ediv_of_nonneg (by omega), wr (by omega)]; omega
  have hm : Int.tmod (ds.length : Int) 8 = ((ds.length % 8 : Nat) : Int) := by rw [Int.tmod_eq_emod_of_nonneg (by omega)]; omega
  have hmin : min (Int.toNat ((ds.length % 8 : Nat) : Int)) (IntKind.bits .u8) = ds.length % 8 := by show min _ 8 = _; omega
  have hwr : IntKind.wrap .i64 ((ds.length : Int) + 1) = (ds.length : Int) + 1 := wr (by omega)
  have hlen : ((ds ++ [if d then (1 : Int) else 0]).length : Int) = (ds.length : Int) + 1 := by simp
  cases d
  · obtain ⟨m24, s1, s2, s3⟩ := st1.count k1.wf ((ds.length : Int) + 1)
    refine ⟨foot id b', m24, ?_, k1.trans2 (T := foot id b') (s2.weak fun j hj => .inl hj) f1 hw, ⟨id, b', _, rfl, rfl, by rw [hlen]; exact s3, holds_nought hh⟩, f1⟩
    rw [bits_Writer_put_eq, e1]
    simp -implicitDefEqProofs only [hc1, hwr, s1, ss]
  · obtain ⟨hN, hob, hb, hni⟩ := st1
    obtain ⟨m19, t1, t2, t3, t4⟩ := storeK k1.wf hb (i := ds.length / 8) g1 (orB ((begun bs ds.length).getD (ds.length / 8) 0) (ds.length % 8))
    obtain ⟨o, ho, how, hv, hc⟩ := hob
    have st2 : St N m19 id b' ds.length ((begun bs ds.length).set (ds.length / 8) (orB ((begun bs ds.length).getD (ds.length / 8) 0) (ds.length % 8))) := ⟨hN, ⟨o, t2.old id o ho hni, how, hv, hc⟩, t3, hni⟩
    have hc2 := st2.cell1
    obtain ⟨m24, s1, s2, s3⟩ := st2.count t2.wf ((ds.length : Int) + 1)
    have k2 : Keep (foot id b') m9 m24 := (t2.weak fun j hj => .inr hj).trans (s2.weak fun j hj => .inl hj)
    refine ⟨foot id b', m24, ?_, k1.trans2 k2 f1 hw, ⟨id, b', _, rfl, rfl, by rw [hlen]; exact s3, holds_one hh⟩, f1⟩
    have hia := fun {R : Type} (K : AV → Option R) => hb.row.ind (i := ((ds.length / 8 : Nat) : Int)) (by omega) (by omega) K
    have hla := fun {R : Type} (K : AV → Option R) => hb.row.load (i := ((ds.length / 8 : Nat) : Int)) (by omega) (by omega) K
    rw [nat_toNat] at hla
    have hnn : ¬ ((ds.length % 8 : Nat) : Int) < 0 := by omega
    have horb : IntKind.wrap .u8 (BitVec.toNat ((BitVec.ofInt (IntKind.bits .u8) ((begun bs ds.length).getD (ds.length / 8) 0)) ||| (BitVec.ofInt (IntKind.bits .u8) (Int.fdiv 128 (2 ^ (ds.length % 8)))))) = orB ((begun bs ds.length).getD (ds.length / 8) 0) (ds.length % 8) := rfl
    rw [bits_Writer_put_eq, e1]
    simp -implicitDefEqProofs only [hc0, hc1, hi1, hm, hia, hla, ss]
    rw [if_neg hnn, hmin, horb, t1]
    simp -implicitDefEqProofs only [hc2, hwr, s1, ss]
end Go.Proofs.YtnjenjbodcihmaaGreat
namespace Go.Proofs.YtnjenjbodcihmaaGreat
open Go Go.Proofs.YtnjenjbodcihmaaGreat.E
set_option linter.unusedVariables false
set_option linter.unusedSimpArgs false
def Fresh (N : Nat) (μ : AMem) (k : IntKind) (e : TypeId) (x : SV) (zs : List Int) : Prop :=
  (x = .nilSlice ∧ zs = []) ∨ ∃ id o, x = .slice id 0 0 zs.length ∧ N ≤ id ∧ μ.obj id = some o ∧ o.own = true ∧ o.ver = 0 ∧ o.size = 1 ∧ o.elem = e ∧ o.cells = zs.map (.int k)
theorem Fresh.own {N : Nat} {μ : AMem} {k : IntKind} {e : TypeId} {x : SV} {zs : List Int} (h : Fresh N μ k e x zs) : OwnRow N μ k e x zs := by
  rcases h with h | ⟨id, o, rfl, hN, ho, hw, hv, hs, he, hc⟩
  · exact .inl h
  · exact .inr ⟨id, 0, o, rfl, hN, ho, hw, hv, hs, he, fun i n hi => by rw [hc, List.getElem?_map, hi]; rfl⟩
theorem Fresh.keep {N : Nat} {m m' : AMem} {S : Nat → Prop} {k : IntKind} {e : TypeId} {x : SV} {zs : List Int} (h : Fresh N m k e x zs) (hk : Keep S m m') (hS : ∀ j, S j → ¬ isId x j) : Fresh N m' k e x zs := by
  rcases h with h | ⟨id, o, rfl, hN, ho, r⟩
  · exact .inl h
  · exact .inr ⟨id, o, rfl, hN, hk.old id o ho fun h => hS id h rfl, r⟩
theorem Fresh.same {N : Nat} {m m' : AMem} {k : IntKind} {e : TypeId} {x : SV} {zs : List Int} (h : Fresh N m k e x zs) (hk : Same m m') : Fresh N m' k e x zs := h.keep hk fun _ h => h.elim
theorem copyF {μ0 μ : AMem} (h0 : WF μ0) (hs : Same μ0 μ) {k : IntKind} {e : TypeId} {x : SV} {zs : List Int} (hx : IsRow μ k x zs) {B b n : Nat} (hB : 1 ≤ B) (hb : zs.length * B ≤ 140737488355328) (hbn : b < n) :
    ∃ y μ', (∀ {R : Type} (K : AV → AMem → Option R), appendA e 1 B (μ.next + b) (μ.bump n) (.s .nilSlice) (.s x) K = K (.s y) μ') ∧ Same μ0 μ' ∧ Fresh μ0.next μ' k e y zs := by
  obtain ⟨hyl, hyr⟩ := row_cells (hx.same (Keep.bump hs.wf n))
  have hmul : zs.length ≤ zs.length * B := Nat.le_mul_of_pos_right _ hB
  have hnx := hs.next
  by_cases hw0 : zs = []
  · subst hw0
    refine ⟨.nilSlice, μ.bump n, fun K => ?_, bumpS hs n, .inl ⟨rfl, rfl⟩⟩
    simp only [appendA, hyl, Option.bind_some, hyr, appendS]; simp
  · have hwp : ¬ zs.length = 0 := fun h => hw0 (List.eq_nil_of_length_eq_zero h)
    refine ⟨.slice (μ.next + b) 0 0 zs.length, (μ.bump n).set (μ.next + b) (rowObj (zs.map (.int k)) 1 e none), fun K => ?_, newS hs hbn _, .inr ⟨_, _, rfl, by omega, set_self _ _ _, rfl, rfl, rfl, rfl, rfl⟩⟩
    simp only [appendA, hyl, Option.bind_some, hyr, appendS]
    rw [if_pos ⟨hb, by omega⟩, if_neg hwp]
end Go.Proofs.YtnjenjbodcihmaaGreat
namespace Go.Proofs.YtnjenjbodcihmaaGreat
open Go Go.Proofs.YtnjenjbodcihmaaGreat.E
set_option linter.unusedVariables false
set_option linter.unusedSimpArgs false
theorem fdivp2 (z : Int) (n : Nat) : Int.fdiv z (2 ^ n) = z / 2 ^ n := Int.fdiv_eq_ediv_of_nonneg _ (Int.le_of_lt (Int.pow_pos (by omega)))
theorem mod2_01 (a : Int) : (if (a % 2 == 1) = true then (1 : Int) else 0) = a % 2 := by
  rcases (show a % 2 = 0 ∨ a % 2 = 1 by omega) with h | h <;> rw [h] <;> rfl
theorem Put_loop {N : Nat} {x : SV} {v : Int} :
    ∀ (k : Nat) (μ : AMem) (F : Nat → Prop) (ds : List Int), WF μ → k ≤ 63 → ds.length + k ≤ 1000000 → Wr N μ x F ds →
      ∃ F' μ', bits_Writer_Put_L1 [.s x, .s (.int .i64 v)] [.s (.int .i64 ((k : Int) - 1))] μ = some (.exit 0, [], μ') ∧ Keep F μ μ' ∧ Wr N μ' x F' (ds ++ putD v k) ∧ ∀ j, F' j → F j ∨ μ.next ≤ j
  | 0, μ, F, ds, hw, hk, hl, h => by
    obtain ⟨id, b, bs, rfl, hr⟩ := h
    rw [bits_Writer_Put_L1_eq, bits_Writer_Put_L1_B_eq]
    refine ⟨F, μ, ?_, Keep.refl hw, ?_, fun j hj => .inl hj⟩
    · simp -implicitDefEqProofs (disch := omega) only [sw, ss]
    · rw [putD, List.append_nil]; exact ⟨id, b, bs, rfl, hr⟩
  | k + 1, μ, F, ds, hw, hk, hl, h => by
    obtain ⟨F1, m1, e1, k1, w1, f1⟩ := put_is hw h (by omega) (v / 2 ^ k % 2 == 1)
    rw [mod2_01] at w1
    obtain ⟨F2, m2, e2, k2, w2, f2⟩ := Put_loop (v := v) k m1 F1 _ k1.wf (by omega) (by simp; omega) w1
    rw [List.append_assoc] at w2
    refine ⟨F2, m2, ?_, k1.trans2 k2 f1 hw, w2, fun j hj => ?_⟩
    · obtain ⟨id, b, bs, rfl, hr⟩ := h
      have e0 : ((k + 1 : Nat) : Int) - 1 = (k : Int) := by omega
      have hm : min (Int.toNat (k : Int)) (IntKind.bits .i64) = k := by show min _ 64 = k; omega
      rw [e0, bits_Writer_Put_L1_eq, bits_Writer_Put_L1_B_eq]
      simp -implicitDefEqProofs only [ge_t (show (0 : Int) ≤ k by omega), hm, fdivp2, and_one, e1, ss]
      rw [if_neg (by omega)]
      simp -implicitDefEqProofs (disch := omega) only [sw, ss]
      exact e2
    · rcases f2 j hj with h1 | h1
      · exact f1 j h1
      · exact .inr (Nat.le_trans k1.next h1)
theorem Put_is {N : Nat} {μ : AMem} (hw : WF μ) {x : SV} {F : Nat → Prop} {ds : List Int} (h : Wr N μ x F ds) (hl : ds.length ≤ 900000) (v n : Int) :
    ((n < 0 ∨ n > 62) → bits_Writer_Put [.s x, .s (.int .i64 v), .s (.int .i64 n)] μ = some (.s (.bool false), μ)) ∧
    (0 ≤ n ∧ n ≤ 62 → ∃ F' μ', bits_Writer_Put [.s x, .s (.int .i64 v), .s (.int .i64 n)] μ = some (.s (.bool true), μ') ∧ Keep F μ μ' ∧ Wr N μ' x F' (ds ++ putD v n.toNat) ∧ ∀ j, F' j → F j ∨ μ.next ≤ j) := by
  refine ⟨fun hn => ?_, fun hn => ?_⟩
  · obtain ⟨id, b, bs, rfl, hr⟩ := h
    rw [bits_Writer_Put_eq]
    by_cases h1 : n < 0
    · simp -implicitDefEqProofs (disch := omega) only [sw, ss]
    · simp -implicitDefEqProofs (disch := omega) only [sw, ss]
  · obtain ⟨F', μ', e1, k1, w1, f1⟩ := Put_loop (v := v) n.toNat μ F ds hw (by omega) (by omega) h
    refine ⟨F', μ', ?_, k1, w1, f1⟩
    have e0 : ((n.toNat : Nat) : Int) - 1 = n - 1 := by omega
    rw [e0] at e1
    obtain ⟨id, b, bs, rfl, hr⟩ := h
    rw [bits_Writer_Put_eq]
    simp -implicitDefEqProofs (disch := omega) only [sw, ss, e1]
theorem Ones_loop {N : Nat} {x : SV} {n : Nat} (hn : n ≤ 1024) :
    ∀ (k i : Nat) (μ : AMem) (F : Nat → Prop) (ds : List Int), i + k = n → WF μ → ds.length + k ≤ 1000000 → Wr N μ x F ds →
      ∃ F' μ', bits_Writer_Ones_L1 [.s x, .s (.int .i64 n)] [.s (.int .i64 i)] μ = some (.exit 0, [.s x], μ') ∧ Keep F μ μ' ∧ Wr N μ' x F' (ds ++ List.replicate k 1) ∧ ∀ j, F' j → F j ∨ μ.next ≤ j
  | 0, i, μ, F, ds, hi, hw, hl, h => by
    obtain ⟨id, b, bs, rfl, hr⟩ := h
    rw [bits_Writer_Ones_L1_eq, bits_Writer_Ones_L1_B_eq]
    refine ⟨F, μ, ?_, Keep.refl hw, ?_, fun j hj => .inl hj⟩
    · simp -implicitDefEqProofs (disch := omega) only [sw, ss]
    · rw [List.replicate_zero, List.append_nil]; exact ⟨id, b, bs, rfl, hr⟩
  | k + 1, i, μ, F, ds, hi, hw, hl, h => by
    obtain ⟨F1, m1, e1, k1, w1, f1⟩ := put_is hw h (by omega) true
    obtain ⟨F2, m2, e2, k2, w2, f2⟩ := Ones_loop hn k (i + 1) m1 F1 _ (by omega) k1.wf (by simp; omega) w1
    rw [nsu] at e2
    rw [List.append_assoc] at w2
    refine ⟨F2, m2, ?_, k1.trans2 k2 f1 hw, w2, fun j hj => ?_⟩
    · obtain ⟨id, b, bs, rfl, hr⟩ := h
      rw [bits_Writer_Ones_L1_eq, bits_Writer_Ones_L1_B_eq]
      simp -implicitDefEqProofs (disch := omega) only [sw, ss, e1]
      exact e2
    · rcases f2 j hj with h1 | h1
      · exact f1 j h1
      · exact .inr (Nat.le_trans k1.next h1)
theorem Ones_is {N : Nat} {μ : AMem} (hw : WF μ) {x : SV} {F : Nat → Prop} {ds : List Int} (h : Wr N μ x F ds) (hl : ds.length ≤ 900000) (n : Int) :
    ((n < 0 ∨ n > 1024) → bits_Writer_Ones [.s x, .s (.int .i64 n)] μ = some (.s (.bool false), μ)) ∧
    (0 ≤ n ∧ n ≤ 1024 → ∃ F' μ', bits_Writer_Ones [.s x, .s (.int .i64 n)] μ = some (.s (.bool true), μ') ∧ Keep F μ μ' ∧ Wr N μ' x F' (ds ++ List.replicate n.toNat 1 ++ [0]) ∧ ∀ j, F' j → F j ∨ μ.next ≤ j) := by
  refine ⟨fun hn => ?_, fun hn => ?_⟩
  · obtain ⟨id, b, bs, rfl, hr⟩ := h
    rw [bits_Writer_Ones_eq]
    by_cases h1 : n < 0
    · simp -implicitDefEqProofs (disch := omega) only [sw, ss]
    · simp -implicitDefEqProofs (disch := omega) only [sw, ss]
  · obtain ⟨F1, m1, e1, k1, w1, f1⟩ := Ones_loop (n := n.toNat) (by omega) n.toNat 0 μ F ds (by omega) hw (by omega) h
    obtain ⟨F2, m2, e2, k2, w2, f2⟩ := put_is k1.wf w1 (by simp; omega) false
    refine ⟨F2, m2, ?_, k1.trans2 k2 f1 hw, w2, fun j hj => ?_⟩
    · have e0 : ((n.toNat : Nat) : Int) = n := by omega
      rw [e0, n0] at e1
      obtain ⟨id, b, bs, rfl, hr⟩ := h
      rw [bits_Writer_Ones_eq]
      simp -implicitDefEqProofs (disch := omega) only [sw, ss, e1, e2]
    · rcases f2 j hj with h1 | h1
      · exact f1 j h1
      · exact .inr (Nat.le_trans k1.next h1)
theorem Len_is {N : Nat} {μ : AMem} {x : SV} {F : Nat → Prop} {ds : List Int} (h : Wr N μ x F ds) : bits_Writer_Len [.s x] μ = some (.s (.int .i64 ds.length), μ) := by
  obtain ⟨id, b, bs, rfl, _, hs, _⟩ := h
  rw [bits_Writer_Len_eq]
  simp -implicitDefEqProofs only [hs.cell1, ss]
theorem Bytes_is {N : Nat} {μ : AMem} (hw : WF μ) {x : SV} {F : Nat → Prop} {ds : List Int} (h : Wr N μ x F ds) (hl : ds.length ≤ 1000000) :
    ∃ y bs μ', bits_Writer_Bytes [.s x] μ = some (.s y, μ') ∧ Same μ μ' ∧ OwnRow μ.next μ' .u8 5 y bs ∧ holds bs ds := by
  obtain ⟨id, b, bs, rfl, _, hs, hh⟩ := h
  have hlb := hh.1
  obtain ⟨y, μ', g1, g2, g3⟩ := copyS (e := 5) (B := 1) (b := 4) (n := 6) hw (Keep.refl hw) hs.2.2.1.row (by omega) (by omega) (by omega)
  refine ⟨y, bs, μ', ?_, g2, g3, hh⟩
  rw [bits_Writer_Bytes_eq]
  simp -implicitDefEqProofs only [bump_cell, hs.cell0, g1, ss]
theorem BytesF_is {N : Nat} {μ : AMem} (hw : WF μ) {x : SV} {F : Nat → Prop} {ds : List Int} (h : Wr N μ x F ds) (hl : ds.length ≤ 1000000) :
    ∃ y bs μ', bits_Writer_Bytes [.s x] μ = some (.s y, μ') ∧ Same μ μ' ∧ Fresh μ.next μ' .u8 5 y bs ∧ holds bs ds := by
  obtain ⟨id, b, bs, rfl, _, hs, hh⟩ := h
  have hlb := hh.1
  obtain ⟨y, μ', g1, g2, g3⟩ := copyF (e := 5) (B := 1) (b := 4) (n := 6) hw (Keep.refl hw) hs.2.2.1.row (by omega) (by omega) (by omega)
  refine ⟨y, bs, μ', ?_, g2, g3, hh⟩
  rw [bits_Writer_Bytes_eq]
  simp -implicitDefEqProofs only [bump_cell, hs.cell0, g1, ss]
end Go.Proofs.YtnjenjbodcihmaaGreat
namespace Go.Proofs.YtnjenjbodcihmaaGreat
open Go Go.Proofs.YtnjenjbodcihmaaGreat.E
set_option linter.unusedVariables false
set_option linter.unusedSimpArgs false
theorem newReader_is {μ : AMem} (hw : WF μ) {y : SV} {bs : List Int} (hy : IsRow μ .u8 y bs) (hl : bs.length ≤ 1000000) :
    ∃ id b μ', bits_NewReader [.s y] μ = some (.s (.ptr id 0 0), μ') ∧ Same μ μ' ∧ St μ.next μ' id b ((0 : Nat) : Int) bs := by
  obtain ⟨b, m, g1, g2, g3, g4, g5⟩ := copyI (e := 5) (B := 1) (b := 1) (n := 5) hw (Keep.refl hw) hy (by omega) (by omega) (by omega)
  have hni : ¬ isId b (μ.next + 3) := fun h => by have := g5 _ h; omega
  refine ⟨μ.next + 3, b, _, by rw [bits_NewReader_eq, g1, asS_s], Keep.setS hw g2 (by omega) (by omega), by omega, ⟨_, set_self _ _ _, rfl, rfl, rfl⟩, g3.old fun id o ho hi => ?_, hni⟩
  have : ¬ id = μ.next + 3 := fun e => hni (e ▸ hi)
  rw [set_obj, if_neg this]; exact ho
theorem digit_is {N : Nat} {μ : AMem} {id : Nat} {b : SV} {a : Nat} {bs : List Int} (h : St N μ id b (a : Int) bs) (on : Nat) (hon : a + on < 8 * bs.length) (hl : bs.length ≤ 1000000) (hb : ∀ v ∈ bs, 0 ≤ v ∧ v < 256) :
    bits_Reader_digit [.s (.ptr id 0 0), .s (.int .i64 on)] μ = some (.s (.int .i64 (digB bs (a + on))), μ) := by
  have hidx : (a + on) / 8 < bs.length := by omega
  have hv := hb _ (getD_mem hidx)
  have e1 : IntKind.wrap .i64 ((a : Int) + (on : Int)) = ((a + on : Nat) : Int) := by rw [wr (by omega)]; rfl
  have e2 : IntKind.wrap .i64 (Int.tdiv ((a + on : Nat) : Int) 8) = (((a + on) / 8 : Nat) : Int) := by rw [Int.tdiv_eq_ediv_of_nonneg (by omega), wr (by omega)]; omega
  have e3 : IntKind.wrap .i64 (7 - Int.tmod ((a + on : Nat) : Int) 8) = ((7 - (a + on) % 8 : Nat) : Int) := by rw [Int.tmod_eq_emod_of_nonneg (by omega), wr (by omega)]; omega
  have e4 : min (Int.toNat ((7 - (a + on) % 8 : Nat) : Int)) (IntKind.bits .i64) = 7 - (a + on) % 8 := by show min _ 64 = _; omega
  have hr := h.2.2.1.row
  have hi := fun {R : Type} (K : AV → Option R) => hr.ind (i := (((a + on) / 8 : Nat) : Int)) (by omega) (by omega) K
  have hld := fun {R : Type} (K : AV → Option R) => hr.load (i := (((a + on) / 8 : Nat) : Int)) (by omega) (by omega) K
  rw [nat_toNat] at hld
  have e5 : IntKind.wrap .i64 (bs.getD ((a + on) / 8) 0) = bs.getD ((a + on) / 8) 0 := wr (by omega)
  rw [bits_Reader_digit_eq]
  simp -implicitDefEqProofs only [h.cell0, h.cell1, e1, e2, hi, hld, ss]
  rw [e3, if_neg (by omega), e4, e5, and_one, Int.fdiv_eq_ediv_of_nonneg _ (Int.le_of_lt (Int.pow_pos (by omega)))]
  rfl
theorem Left_is {N : Nat} {μ : AMem} {id : Nat} {b : SV} {a : Nat} {bs : List Int} (h : St N μ id b (a : Int) bs) (hon : a ≤ 8 * bs.length) (hl : bs.length ≤ 1000000) :
    bits_Reader_Left [.s (.ptr id 0 0)] μ = some (.s (.int .i64 ((8 * bs.length - a : Nat) : Int)), μ) := by
  have e : IntKind.wrap .i64 (IntKind.wrap .i64 (8 * ((bs.length : Nat) : Int)) - (a : Int)) = ((8 * bs.length - a : Nat) : Int) := by rw [wr (n := 8 * ((bs.length : Nat) : Int)) (by omega), wr (by omega)]; omega
  rw [bits_Reader_Left_eq]
  simp -implicitDefEqProofs only [h.cell0, h.cell1, h.2.2.1.row.len, e, ss]
theorem storeAt_p {R : Type} (m : AMem) (a b c : Nat) (x : SV) (K : AMem → Option R) : storeAt 1 m (.s (.ptr a b c)) (.s x) K = (m.store a b c [x]).bind K := rfl
theorem GetL_loop {N : Nat} {μ : AMem} {id : Nat} {b : SV} {a n : Nat} {bs : List Int} (h : St N μ id b (a : Int) bs) (hon : a + n ≤ 8 * bs.length) (hl : bs.length ≤ 1000000) (hb : ∀ v ∈ bs, 0 ≤ v ∧ v < 256) (hn : n ≤ 62) :
    ∀ k i : Nat, i + k = n → bits_Reader_Get_L1 [.s (.ptr id 0 0), .s (.int .i64 n), .s (.int .i64 n)] [.s (.int .i64 (numB bs a i)), .s (.int .i64 i)] μ = some (.exit 0, [.s (.ptr id 0 0), .s (.int .i64 n), .s (.int .i64 (numB bs a n))], μ)
  | 0, i, hi => by
    obtain rfl : i = n := by omega
    rw [bits_Reader_Get_L1_eq, bits_Reader_Get_L1_B_eq]
    simp -implicitDefEqProofs (disch := omega) only [sw, ss]
  | k + 1, i, hi => by
    have ih := GetL_loop h hon hl hb hn k (i + 1) (by omega)
    rw [nsu] at ih
    have hd := digit_is h i (by omega) hl hb
    have h1 := numB_le bs a i
    have h2 := digB_le bs (a + i)
    have h3 := pow_le62 (n := i) (by omega)
    have ho := or_one (v := numB bs a i) (d := digB bs (a + i)) (by omega) (by omega)
    rw [bits_Reader_Get_L1_eq, bits_Reader_Get_L1_B_eq]
    simp -implicitDefEqProofs only [lt_t (show (i : Int) < n by omega), hd, ho, w64 (n := (i : Int) + 1) (by omega) (by omega), ss]
    exact ih
theorem Get_is {N : Nat} {μ : AMem} (hw : WF μ) {id : Nat} {b : SV} {a : Nat} {bs : List Int} (h : St N μ id b (a : Int) bs) (hon : a ≤ 8 * bs.length) (hl : bs.length ≤ 1000000) (hb : ∀ v ∈ bs, 0 ≤ v ∧ v < 256) (n : Int) :
    ((n < 0 ∨ n > 62 ∨ n > ((8 * bs.length - a : Nat) : Int)) → bits_Reader_Get [.s (.ptr id 0 0), .s (.int .i64 n)] μ = some (.tuple [.s (.int .i64 0), .s (.bool false)], μ)) ∧
    (0 ≤ n ∧ n ≤ 62 ∧ n ≤ ((8 * bs.length - a : Nat) : Int) → ∃ μ', bits_Reader_Get [.s (.ptr id 0 0), .s (.int .i64 n)] μ = some (.tuple [.s (.int .i64 (numB bs a n.toNat)), .s (.bool true)], μ') ∧ Keep (fun j => j = id) μ μ' ∧ St N μ' id b ((a + n.toNat : Nat) : Int) bs) := by
  have hL := Left_is h hon hl
  refine ⟨fun hn => ?_, fun hn => ?_⟩
  · rw [bits_Reader_Get_eq]
    by_cases h1 : n < 0
    · simp -implicitDefEqProofs (disch := omega) only [sw, ss]
    · by_cases h2 : n > 62
      · simp -implicitDefEqProofs (disch := omega) only [sw, ss]
      · simp -implicitDefEqProofs (disch := omega) only [sw, ss, hL]
  · have hlp := GetL_loop (n := n.toNat) h (by omega) hl hb (by omega) _ 0 (Nat.zero_add _)
    have e0 : ((n.toNat : Nat) : Int) = n := by omega
    rw [n0, e0, show numB bs a 0 = 0 from rfl] at hlp
    obtain ⟨m, s1, s2, s3⟩ := h.count hw ((a + n.toNat : Nat) : Int)
    refine ⟨m, ?_, s2, s3⟩
    have e1 : IntKind.wrap .i64 ((a : Int) + n) = ((a + n.toNat : Nat) : Int) := by rw [wr (by omega)]; omega
    rw [bits_Reader_Get_eq]
    have q1 := lt_f (a := n) (b := 0) (by omega)
    have q2 := gt_f (a := n) (b := 62) (by omega)
    have q3 := gt_f (a := n) (b := ((8 * bs.length - a : Nat) : Int)) (by omega)
    simp -implicitDefEqProofs only [q1, q2, q3, hL, hlp, nonNil_ptr, ptrAdd_p, loadAt_p, storeAt_p, h.cell1, e1, s1, ss]
def onesF (bs : List Int) (a left : Nat) : Nat → Nat → Int × Bool × Nat
  | 0, n => ((n : Int), true, a + n)
  | k + 1, n => if left ≤ n then (0, false, a) else if digB bs (a + n) = 0 then ((n : Int), true, a + n + 1) else onesF bs a left k (n + 1)
theorem OnesL_loop {N : Nat} {μ : AMem} (hw : WF μ) {id : Nat} {b : SV} {a most : Nat} {bs : List Int} (h : St N μ id b (a : Int) bs) (hon : a ≤ 8 * bs.length) (hl : bs.length ≤ 1000000) (hb : ∀ v ∈ bs, 0 ≤ v ∧ v < 256) (hm : most ≤ 1024) :
    ∀ k n : Nat, n + k = most →
      (bits_Reader_Ones_L1 [.s (.ptr id 0 0), .s (.int .i64 most), .s (.int .i64 (8 * bs.length - a : Nat)), .s (.int .i64 most)] [.s (.int .i64 n)] μ = some (.exit 0, [.s (.ptr id 0 0), .s (.int .i64 most)], μ) ∧ onesF bs a (8 * bs.length - a) k n = ((most : Int), true, a + most)) ∨
      (∃ μ', bits_Reader_Ones_L1 [.s (.ptr id 0 0), .s (.int .i64 most), .s (.int .i64 (8 * bs.length - a : Nat)), .s (.int .i64 most)] [.s (.int .i64 n)] μ = some (.ret, [.s (.int .i64 (onesF bs a (8 * bs.length - a) k n).1), .s (.bool (onesF bs a (8 * bs.length - a) k n).2.1)], μ') ∧ Keep (fun j => j = id) μ μ' ∧ St N μ' id b ((onesF bs a (8 * bs.length - a) k n).2.2 : Int) bs)
  | 0, n, hn => by
    obtain rfl : n = most := by omega
    refine .inl ⟨?_, rfl⟩
    rw [bits_Reader_Ones_L1_eq, bits_Reader_Ones_L1_B_eq]
    simp -implicitDefEqProofs (disch := omega) only [sw, ss]
  | k + 1, n, hn => by
    rw [bits_Reader_Ones_L1_eq, bits_Reader_Ones_L1_B_eq, onesF]
    by_cases c1 : 8 * bs.length - a ≤ n
    · rw [if_pos c1]
      refine .inr ⟨μ, ?_, Keep.refl hw, h⟩
      simp -implicitDefEqProofs (disch := omega) only [sw, ss]
    · rw [if_neg c1]
      have hd := digit_is h n (by omega) hl hb
      by_cases c2 : digB bs (a + n) = 0
      · rw [if_pos c2]
        obtain ⟨m, s1, s2, s3⟩ := h.count hw ((a + n + 1 : Nat) : Int)
        refine .inr ⟨m, ?_, s2, s3⟩
        have e1 : IntKind.wrap .i64 (IntKind.wrap .i64 ((a : Int) + (n : Int)) + 1) = ((a + n + 1 : Nat) : Int) := by rw [wr (n := (a : Int) + (n : Int)) (by omega), wr (by omega)]; rfl
        have t0 : ((0 : Int) == 0) = true := rfl
        simp -implicitDefEqProofs only [lt_t (show (n : Int) < most by omega), ge_f (show (n : Int) < ((8 * bs.length - a : Nat) : Int) by omega), hd, c2, t0, h.cell1, e1, s1, ss]
      · rw [if_neg c2]
        have ih := OnesL_loop hw h hon hl hb hm k (n + 1) (by omega)
        rw [nsu] at ih
        have t0 : (digB bs (a + n) == 0) = false := by simp [c2]
        simp -implicitDefEqProofs only [lt_t (show (n : Int) < most by omega), ge_f (show (n : Int) < ((8 * bs.length - a : Nat) : Int) by omega), hd, t0, w64 (n := (n : Int) + 1) (by omega) (by omega), ss]
        exact ih
theorem OnesR_is {N : Nat} {μ : AMem} (hw : WF μ) {id : Nat} {b : SV} {a : Nat} {bs : List Int} (h : St N μ id b (a : Int) bs) (hon : a ≤ 8 * bs.length) (hl : bs.length ≤ 1000000) (hb : ∀ v ∈ bs, 0 ≤ v ∧ v < 256) (most : Int) :
    ((most < 0 ∨ most > 1024) → bits_Reader_Ones [.s (.ptr id 0 0), .s (.int .i64 most)] μ = some (.tuple [.s (.int .i64 0), .s (.bool false)], μ)) ∧
    (0 ≤ most ∧ most ≤ 1024 → ∃ μ', bits_Reader_Ones [.s (.ptr id 0 0), .s (.int .i64 most)] μ = some (.tuple [.s (.int .i64 (onesF bs a (8 * bs.length - a) most.toNat 0).1), .s (.bool (onesF bs a (8 * bs.length - a) most.toNat 0).2.1)], μ') ∧ Keep (fun j => j = id) μ μ' ∧ St N μ' id b ((onesF bs a (8 * bs.length - a) most.toNat 0).2.2 : Int) bs) := by
  have hL := Left_is h hon hl
  refine ⟨fun hn => ?_, fun hn => ?_⟩
  · rw [bits_Reader_Ones_eq]
    by_cases h1 : most < 0
    · simp -implicitDefEqProofs (disch := omega) only [sw, ss]
    · simp -implicitDefEqProofs (disch := omega) only [sw, ss]
  · have e0 : ((most.toNat : Nat) : Int) = most := by omega
    have q1 := lt_f (a := most) (b := 0) (by omega)
    have q2 := gt_f (a := most) (b := 1024) (by omega)
    rw [bits_Reader_Ones_eq]
    rcases OnesL_loop (most := most.toNat) hw h hon hl hb (by omega) most.toNat 0 (Nat.zero_add _) with ⟨e, hf⟩ | ⟨μ', e, k, hs⟩
    · rw [e0, n0] at e
      rw [hf]
      obtain ⟨m, s1, s2, s3⟩ := h.count hw ((a + most.toNat : Nat) : Int)
      refine ⟨m, ?_, s2, s3⟩
      have e1 : IntKind.wrap .i64 ((a : Int) + most) = ((a + most.toNat : Nat) : Int) := by rw [wr (by omega)]; omega
      simp -implicitDefEqProofs only [q1, q2, hL, e, nonNil_ptr, ptrAdd_p, loadAt_p, storeAt_p, h.cell1, e1, s1, e0, ss]
    · rw [e0, n0] at e
      refine ⟨μ', ?_, k, hs⟩
      simp -implicitDefEqProofs only [q1, q2, hL, e, ss]
end Go.Proofs.YtnjenjbodcihmaaGreat
namespace Go.Proofs.YtnjenjbodcihmaaGreat
open Go Go.Proofs.YtnjenjbodcihmaaGreat.E
set_option linter.unusedVariables false
set_option linter.unusedSimpArgs false
theorem wrS {μ0 m m' : AMem} (h0 : WF μ0) (hs : Same μ0 m) {x : SV} {F : Nat → Prop} {ds : List Int} (h : Wr μ0.next m x F ds) (hk : Keep F m m') : Same μ0 m' := keepSame h0 hs hk fun j hj => (h.ids hj).1
theorem disjAfter {N : Nat} {m : AMem} (hw : WF m) {y : SV} {F F' G : Nat → Prop} {es : List Int} (hb : Wr N m y G es) (hd : ∀ j, F j → ¬ G j) (hF : ∀ j, F' j → F j ∨ m.next ≤ j) : ∀ j, F' j → ¬ G j := by
  intro j hj hg
  rcases hF j hj with h | h
  · exact hd j h hg
  · obtain ⟨_, o, ho⟩ := hb.ids hg
    have := hw.lt ho
    omega
theorem putD_get (v : Int) : ∀ (n j : Nat), j < n → (putD v n).getD j 0 = v / 2 ^ (n - 1 - j) % 2
  | 0, j, h => by omega
  | n + 1, 0, h => rfl
  | n + 1, j + 1, h => by
    show (putD v n).getD j 0 = _
    rw [putD_get v n j (by omega), show n + 1 - 1 - (j + 1) = n - 1 - j by omega]
theorem half_mod (w M : Int) (hM : 0 < M) : w % (2 * M) = 2 * ((w / 2) % M) + w % 2 := by
  have h1 := Int.mul_ediv_add_emod (w / 2) M
  have h2 := Int.emod_nonneg (w / 2) (show ¬ M = 0 by omega)
  have h3 := Int.emod_lt_of_pos (w / 2) hM
  have e : w = (2 * ((w / 2) % M) + w % 2) + 2 * M * (w / 2 / M) := by
    have : 2 * M * (w / 2 / M) = 2 * (M * (w / 2 / M)) := by rw [Int.mul_assoc]
    omega
  have h4 : w % (2 * M) = (2 * ((w / 2) % M) + w % 2) % (2 * M) := by
    conv => lhs; rw [e]
    rw [Int.add_mul_emod_self_left]
  rw [h4, Int.emod_eq_of_lt (by omega) (by omega)]
theorem pow_pos2 (n : Nat) : (0 : Int) < 2 ^ n := Int.pow_pos (by omega)
theorem div_pow_half (v : Int) (k : Nat) : v / 2 ^ k / 2 = v / 2 ^ (k + 1) := by
  rw [Int.pow_succ, ← Int.ediv_ediv_of_nonneg (Int.le_of_lt (pow_pos2 k))]
theorem numB_put {bs ds pre post : List Int} {v : Int} {n : Nat} (h : ∀ j, digB bs j = ds.getD j 0) (hd : ds = pre ++ (putD v n ++ post)) : ∀ m : Nat, m ≤ n → numB bs pre.length m = v / 2 ^ (n - m) % 2 ^ m
  | 0, _ => by simp [numB, Int.emod_one]
  | m + 1, hm => by
    rw [numB, numB_put h hd m (by omega), h, hd, getD_app, if_neg (by omega), getD_app, putD_len, if_pos (by omega), putD_get _ _ _ (by omega)]
    rw [show pre.length + m - pre.length = m by omega, show n - 1 - m = n - (m + 1) by omega]
    have e := half_mod (v / 2 ^ (n - (m + 1))) (2 ^ m) (pow_pos2 m)
    rw [div_pow_half, show n - (m + 1) + 1 = n - m by omega] at e
    rw [Int.pow_succ, Int.mul_comm (2 ^ m) 2, e]
theorem putD_split (v : Int) (m : Nat) : ∀ n : Nat, putD (v / 2 ^ m) n ++ putD v m = putD v (n + m)
  | 0 => by rw [Nat.zero_add]; rfl
  | n + 1 => by
    rw [show n + 1 + m = (n + m) + 1 by omega, putD, putD, List.cons_append, putD_split v m n]
    congr 2
    rw [Int.ediv_ediv_of_nonneg (Int.le_of_lt (pow_pos2 m)), ← Int.pow_add, Nat.add_comm m n]
theorem u64n {n : Nat} (h : n ≤ 1000000) : IntKind.wrap .u64 (n : Int) = n := by simp [IntKind.wrap, IntKind.signed, IntKind.bits]; omega
theorem and_mask {v : Int} (hv : 0 ≤ v ∧ v < 2305843009213693952) {m : Nat} (hm : m ≤ 60) : IntKind.wrap .i64 (BitVec.toNat ((BitVec.ofInt (IntKind.bits .i64) v) &&& (BitVec.ofInt (IntKind.bits .i64) (2 ^ m - 1)))) = v % 2 ^ m := by
  have hp := pow_le62 (n := m) (by omega)
  have hp0 := pow_pos2 m
  have e : (BitVec.toNat ((BitVec.ofInt (IntKind.bits .i64) v) &&& (BitVec.ofInt (IntKind.bits .i64) (2 ^ m - 1))) : Int) = v % 2 ^ m := by
    show ((BitVec.toNat ((BitVec.ofInt 64 v) &&& (BitVec.ofInt 64 (2 ^ m - 1))) : Nat) : Int) = v % 2 ^ m
    rw [BitVec.toNat_and, BitVec.toNat_ofInt, BitVec.toNat_ofInt]
    have h1 : (v % ((2 ^ 64 : Nat) : Int)).toNat = v.toNat := by omega
    have hc : ((2 : Int) ^ m) = ((2 ^ m : Nat) : Int) := by simp
    have h2 : ((2 ^ m - 1 : Int) % ((2 ^ 64 : Nat) : Int)).toNat = 2 ^ m - 1 := by rw [hc] at hp hp0 ⊢; omega
    rw [h1, h2, Nat.and_two_pow_sub_one_eq_mod, hc]
    have : v = ((v.toNat : Nat) : Int) := by omega
    rw [this]
    simp
  have h1 := Int.emod_nonneg v (show ¬ (2 : Int) ^ m = 0 by omega)
  have h2 := Int.emod_lt_of_pos v hp0
  rw [e, wr (by omega)]
theorem ones_all {bs : List Int} {a left : Nat} : ∀ k i : Nat, (∀ j, i ≤ j → j < i + k → digB bs (a + j) ≠ 0 ∧ j < left) → onesF bs a left k i = (((i + k : Nat) : Int), true, a + (i + k))
  | 0, i, _ => rfl
  | k + 1, i, h => by
    have h0 := h i (by omega) (by omega)
    rw [onesF, if_neg (by omega), if_neg h0.1, ones_all k (i + 1) (fun j h1 h2 => h j (by omega) (by omega)), show i + 1 + k = i + (k + 1) by omega]
theorem ones_stop {bs : List Int} {a left n : Nat} (hn : digB bs (a + n) = 0) (hl : n < left) : ∀ k i : Nat, i ≤ n → n < i + k → (∀ j, i ≤ j → j < n → digB bs (a + j) ≠ 0) → onesF bs a left k i = ((n : Int), true, a + n + 1)
  | 0, i, h1, h2, _ => by omega
  | k + 1, i, h1, h2, h => by
    rw [onesF, if_neg (by omega)]
    by_cases c : i = n
    · subst c; rw [if_pos hn]
    · rw [if_neg (h i (Nat.le_refl _) (by omega)), ones_stop hn hl k (i + 1) (by omega) (by omega) (fun j h1 h2 => h j (by omega) h2)]
theorem putD_01 (v : Int) : ∀ n, ∀ d ∈ putD v n, d = 0 ∨ d = 1
  | 0, d, h => by cases h
  | n + 1, d, h => by
    rcases List.mem_cons.mp h with h | h
    · rw [h]; omega
    · exact putD_01 v n d h
end Go.Proofs.YtnjenjbodcihmaaGreat
namespace Go.Proofs.YtnjenjbodcihmaaGreat
open Go Go.Proofs.YtnjenjbodcihmaaGreat.E
set_option linter.unusedVariables false
set_option linter.unusedSimpArgs false
def zigZ (n : Int) : Int := if n < -1099511627776 ∨ n ≥ 1099511627776 then 0 else if n < 0 then -2 * n - 1 else 2 * n
def zagZ (z : Int) : Int := if z < 0 ∨ z ≥ 2199023255552 then 0 else if z % 2 = 1 then -((z + 1) / 2) else z / 2
def mayB (z k : Int) : Bool := decide (0 ≤ z) && decide (z < 4294967296) && decide (0 ≤ k) && decide (k ≤ 24)
def sizeZ (z k : Int) : Int := if mayB z k then (if z / 2 ^ k.toNat < 24 then z / 2 ^ k.toNat + 1 + k else 56) else 0
theorem zig_is (n : Int) (μ : AMem) : rice_Zig [.s (.int .i64 n)] μ = some (.s (.int .i64 (zigZ n)), μ) := by
  rw [rice_Zig_eq]; unfold zigZ
  by_cases h1 : n < -1099511627776
  · simp only [h1, true_or, if_true, Option.bind_some, decide_true, decide_false, cond_true, cond_false, seqJ_n, seqJ_r, seqJ_e, headK_c, asB_bool, asI_int, asS_s, asN_int, Bool.not_true, Bool.not_false, Nat.beq_refl]
  · by_cases h2 : n ≥ 1099511627776
    · simp only [h1, h2, or_true, if_true, Option.bind_some, decide_true, decide_false, cond_true, cond_false, seqJ_n, seqJ_r, seqJ_e, headK_c, asB_bool, asI_int, asS_s, asN_int, Bool.not_true, Bool.not_false, Nat.beq_refl]
    · by_cases h3 : n < 0
      · simp only [h1, h2, h3, or_false, if_true, if_false, Option.bind_some, decide_true, decide_false, cond_true, cond_false, seqJ_n, seqJ_r, seqJ_e, headK_c, asB_bool, asI_int, asS_s, asN_int, Bool.not_true, Bool.not_false, Nat.beq_refl]
        rw [wr (n := -2 * n) (by omega), wr (by omega)]
      · simp only [h1, h2, h3, or_false, if_true, if_false, Option.bind_some, decide_true, decide_false, cond_true, cond_false, seqJ_n, seqJ_r, seqJ_e, headK_c, asB_bool, asI_int, asS_s, asN_int, Bool.not_true, Bool.not_false, Nat.beq_refl]
        rw [wr (by omega)]
theorem refZig_is (n : Int) (μ : AMem) : overdubref01_Zig [.s (.int .i64 n)] μ = some (.s (.int .i64 (zigZ n)), μ) := by
  rw [overdubref01_Zig_eq]; unfold zigZ
  by_cases h1 : n < -1099511627776
  · simp only [h1, true_or, if_true, Option.bind_some, decide_true, decide_false, cond_true, cond_false, seqJ_n, seqJ_r, seqJ_e, headK_c, asB_bool, asI_int, asS_s, asN_int, Bool.not_true, Bool.not_false, Nat.beq_refl]
  · by_cases h2 : n ≥ 1099511627776
    · simp only [h1, h2, or_true, if_true, Option.bind_some, decide_true, decide_false, cond_true, cond_false, seqJ_n, seqJ_r, seqJ_e, headK_c, asB_bool, asI_int, asS_s, asN_int, Bool.not_true, Bool.not_false, Nat.beq_refl]
    · by_cases h3 : n < 0
      · simp only [h1, h2, h3, or_false, if_true, if_false, Option.bind_some, decide_true, decide_false, cond_true, cond_false, seqJ_n, seqJ_r, seqJ_e, headK_c, asB_bool, asI_int, asS_s, asN_int, Bool.not_true, Bool.not_false, Nat.beq_refl]
        rw [wr (n := -2 * n) (by omega), wr (by omega)]
      · simp only [h1, h2, h3, or_false, if_true, if_false, Option.bind_some, decide_true, decide_false, cond_true, cond_false, seqJ_n, seqJ_r, seqJ_e, headK_c, asB_bool, asI_int, asS_s, asN_int, Bool.not_true, Bool.not_false, Nat.beq_refl]
        rw [wr (by omega)]
theorem tmod2 {z : Int} (h : 0 ≤ z) : Int.tmod z 2 = z % 2 := Int.tmod_eq_emod_of_nonneg h
theorem tdiv_neg2 {z : Int} (h : 0 ≤ z) (ho : z % 2 = 1) : Int.tdiv (0 - (z + 1)) 2 = -((z + 1) / 2) := by
  rw [Int.zero_sub, Int.neg_tdiv, Int.tdiv_eq_ediv_of_nonneg (by omega)]
theorem zag_is (z : Int) (μ : AMem) : rice_Zag [.s (.int .i64 z)] μ = some (.s (.int .i64 (zagZ z)), μ) := by
  rw [rice_Zag_eq]; unfold zagZ
  by_cases h1 : z < 0
  · simp only [h1, true_or, if_true, Option.bind_some, decide_true, decide_false, cond_true, cond_false, seqJ_n, seqJ_r, seqJ_e, headK_c, asB_bool, asI_int, asS_s, asN_int, Bool.not_true, Bool.not_false, Nat.beq_refl]
  · by_cases h2 : z ≥ 2199023255552
    · simp only [h1, h2, or_true, if_true, Option.bind_some, decide_true, decide_false, cond_true, cond_false, seqJ_n, seqJ_r, seqJ_e, headK_c, asB_bool, asI_int, asS_s, asN_int, Bool.not_true, Bool.not_false, Nat.beq_refl]
    · by_cases h3 : z % 2 = 1
      · simp only [h1, h2, h3, or_false, if_true, if_false, tmod2 (show 0 ≤ z by omega), beq_self_eq_true, Option.bind_some, decide_true, decide_false, cond_true, cond_false, seqJ_n, seqJ_r, seqJ_e, headK_c, asB_bool, asI_int, asS_s, asN_int, Bool.not_true, Bool.not_false, Nat.beq_refl]
        rw [wr (n := z + 1) (by omega), wr (n := 0 - (z + 1)) (by omega), tdiv_neg2 (by omega) h3, wr (by omega)]
      · have : (z % 2 == 1) = false := by simp [h3]
        simp only [h1, h2, h3, this, or_false, if_true, if_false, tmod2 (show 0 ≤ z by omega), Option.bind_some, decide_true, decide_false, cond_true, cond_false, seqJ_n, seqJ_r, seqJ_e, headK_c, asB_bool, asI_int, asS_s, asN_int, Bool.not_true, Bool.not_false, Nat.beq_refl]
        rw [Int.tdiv_eq_ediv_of_nonneg (by omega), wr (by omega)]
theorem refZag_is (z : Int) (μ : AMem) : overdubref01_Zag [.s (.int .i64 z)] μ = some (.s (.int .i64 (zagZ z)), μ) := by
  rw [overdubref01_Zag_eq]; unfold zagZ
  by_cases h1 : z < 0
  · simp only [h1, true_or, if_true, Option.bind_some, decide_true, decide_false, cond_true, cond_false, seqJ_n, seqJ_r, seqJ_e, headK_c, asB_bool, asI_int, asS_s, asN_int, Bool.not_true, Bool.not_false, Nat.beq_refl]
  · by_cases h2 : z ≥ 2199023255552
    · simp only [h1, h2, or_true, if_true, Option.bind_some, decide_true, decide_false, cond_true, cond_false, seqJ_n, seqJ_r, seqJ_e, headK_c, asB_bool, asI_int, asS_s, asN_int, Bool.not_true, Bool.not_false, Nat.beq_refl]
    · by_cases h3 : z % 2 = 1
      · simp only [h1, h2, h3, or_false, if_true, if_false, tmod2 (show 0 ≤ z by omega), beq_self_eq_true, Option.bind_some, decide_true, decide_false, cond_true, cond_false, seqJ_n, seqJ_r, seqJ_e, headK_c, asB_bool, asI_int, asS_s, asN_int, Bool.not_true, Bool.not_false, Nat.beq_refl]
        rw [wr (n := z + 1) (by omega), wr (n := 0 - (z + 1)) (by omega), tdiv_neg2 (by omega) h3, wr (by omega)]
      · have : (z % 2 == 1) = false := by simp [h3]
        simp only [h1, h2, h3, this, or_false, if_true, if_false, tmod2 (show 0 ≤ z by omega), Option.bind_some, decide_true, decide_false, cond_true, cond_false, seqJ_n, seqJ_r, seqJ_e, headK_c, asB_bool, asI_int, asS_s, asN_int, Bool.not_true, Bool.not_false, Nat.beq_refl]
        rw [Int.tdiv_eq_ediv_of_nonneg (by omega), wr (by omega)]
theorem may_is (z k : Int) (μ : AMem) : rice_may [.s (.int .i64 z), .s (.int .i64 k)] μ = some (.s (.bool (mayB z k)), μ) := by
  rw [rice_may_eq]; unfold mayB
  by_cases h1 : z ≥ 0 <;> by_cases h2 : z < 4294967296 <;> by_cases h3 : k ≥ 0 <;> simp [h1, h2, h3]
theorem quo_le {z : Int} (h : 0 ≤ z) (n : Nat) : 0 ≤ z / 2 ^ n ∧ z / 2 ^ n ≤ z := ⟨Int.ediv_nonneg h (Int.le_of_lt (Int.pow_pos (by omega))), Int.ediv_le_self _ h⟩
theorem fdiv_pow (z : Int) (n : Nat) : Int.fdiv z (2 ^ n) = z / 2 ^ n := Int.fdiv_eq_ediv_of_nonneg _ (Int.le_of_lt (Int.pow_pos (by omega)))
theorem mayB_spec {z k : Int} (h : mayB z k = true) : 0 ≤ z ∧ z < 4294967296 ∧ 0 ≤ k ∧ k ≤ 24 := by
  simp [mayB] at h; omega
theorem size_is (z k : Int) (μ : AMem) : rice_Size [.s (.int .i64 z), .s (.int .i64 k)] μ = some (.s (.int .i64 (sizeZ z k)), μ) := by
  rw [rice_Size_eq, may_is]; unfold sizeZ
  by_cases h : mayB z k = true
  · obtain ⟨h1, h2, h3, h4⟩ := mayB_spec h
    have hb : min k.toNat (IntKind.bits .i64) = k.toNat := by show min k.toNat 64 = _; omega
    have hk : ¬ k < 0 := by omega
    have hq := quo_le h1 k.toNat
    simp only [h, hb, hk, fdiv_pow, if_true, if_false, Option.bind_some, decide_true, decide_false, cond_true, cond_false, seqJ_n, seqJ_r, seqJ_e, headK_c, asB_bool, asI_int, asS_s, asN_int, Bool.not_true, Bool.not_false, Nat.beq_refl]
    by_cases h5 : z / 2 ^ k.toNat < 24
    · simp only [h5, if_true, Option.bind_some, decide_true, decide_false, cond_true, cond_false, seqJ_n, seqJ_r, seqJ_e, headK_c, asB_bool, asI_int, asS_s, asN_int, Bool.not_true, Bool.not_false, Nat.beq_refl]
      rw [wr (n := z / 2 ^ k.toNat + 1) (by omega), wr (by omega)]
    · simp only [h5, if_false, Option.bind_some, decide_true, decide_false, cond_true, cond_false, seqJ_n, seqJ_r, seqJ_e, headK_c, asB_bool, asI_int, asS_s, asN_int, Bool.not_true, Bool.not_false, Nat.beq_refl]
  · have h' : mayB z k = false := by simpa using h
    simp only [h', Bool.false_eq_true, if_false, Option.bind_some, decide_true, decide_false, cond_true, cond_false, seqJ_n, seqJ_r, seqJ_e, headK_c, asB_bool, asI_int, asS_s, asN_int, Bool.not_true, Bool.not_false, Nat.beq_refl]
end Go.Proofs.YtnjenjbodcihmaaGreat
namespace Go.Proofs.YtnjenjbodcihmaaGreat
open Go Go.Proofs.YtnjenjbodcihmaaGreat.E
set_option linter.unusedVariables false
set_option linter.unusedSimpArgs false
def sumS (l : List Int) (k : Int) : Nat → Int
  | 0 => 0
  | n + 1 => sumS l k n + sizeZ (l.getD n 0) k
def bestF (l : List Int) : Nat → Nat → Int → Int → Int × Int
  | 0, i, k, s => (k, s)
  | n + 1, i, k, s => if i = 0 ∨ sumS l i l.length < s then bestF l n (i + 1) i (sumS l i l.length) else bestF l n (i + 1) k s
def bestZ (l : List Int) : Int × Int := if l.all (fun z => mayB z 0) then bestF l 25 0 0 0 else (0, 0)
theorem sizeZ_le (z k : Int) : 0 ≤ sizeZ z k ∧ sizeZ z k ≤ 56 := by
  unfold sizeZ
  split
  · rename_i h
    obtain ⟨h1, h2, h3, h4⟩ := mayB_spec h
    have := quo_le h1 k.toNat
    split <;> omega
  · omega
theorem sumS_le (l : List Int) (k : Int) : ∀ n : Nat, 0 ≤ sumS l k n ∧ sumS l k n ≤ 56 * n
  | 0 => by simp [sumS]
  | n + 1 => by
    have := sumS_le l k n
    have := sizeZ_le (l.getD n 0) k
    rw [sumS]; omega
theorem refMayB_is (z k : Int) (μ : AMem) : overdubref01_may [.s (.int .i64 z), .s (.int .i64 k)] μ = some (.s (.bool (mayB z k)), μ) := by
  rw [overdubref01_may_eq]; unfold mayB
  by_cases h1 : z ≥ 0 <;> by_cases h2 : z < 4294967296 <;> by_cases h3 : k ≥ 0 <;> simp [h1, h2, h3]
theorem refSize_is (z k : Int) (μ : AMem) : overdubref01_Size [.s (.int .i64 z), .s (.int .i64 k)] μ = some (.s (.int .i64 (sizeZ z k)), μ) := by
  rw [overdubref01_Size_eq, refMayB_is]; unfold sizeZ
  by_cases h : mayB z k = true
  · obtain ⟨h1, h2, h3, h4⟩ := mayB_spec h
    have hu : IntKind.wrap .u64 k = k := by simp [IntKind.wrap, IntKind.signed, IntKind.bits]; omega
    have hb : min k.toNat (IntKind.bits .i64) = k.toNat := by show min k.toNat 64 = _; omega
    have hk : ¬ k < 0 := by omega
    have hq := quo_le h1 k.toNat
    simp -implicitDefEqProofs only [h, hu, hb, hk, fdiv_pow, if_true, if_false, ss]
    by_cases h5 : z / 2 ^ k.toNat < 24
    · simp -implicitDefEqProofs only [h5, if_true, ss]
      rw [wr (n := z / 2 ^ k.toNat + 1) (by omega), wr (by omega)]
    · simp -implicitDefEqProofs only [h5, if_false, ss]
  · have h' : mayB z k = false := by simpa using h
    simp -implicitDefEqProofs only [h', Bool.false_eq_true, if_false, ss]
theorem bestSum_loop {μ : AMem} {x : SV} {l : List Int} {k s : Int} {i : Int} (hx : IsRow μ .i64 x l) (hb : l.length ≤ 1000000) :
    ∀ n j : Nat, j + n = l.length → rice_Best_L3 [.s x, .s (.int .i64 k), .s (.int .i64 s), .s (.int .i64 i), .s (.int .i64 i), .s x, .s (.int .i64 l.length)] [.s (.int .i64 (sumS l i j)), .s (.int .i64 j)] μ = some (.exit 4, [.s x, .s (.int .i64 k), .s (.int .i64 s), .s (.int .i64 i), .s (.int .i64 (sumS l i l.length)), .s (.int .i64 i)], μ)
  | 0, j, h => by
    obtain rfl : j = l.length := by omega
    rw [rice_Best_L3_eq, rice_Best_L3_B_eq]
    simp -implicitDefEqProofs (disch := omega) only [sw, ss]
  | n + 1, j, h => by
    have ih := bestSum_loop (k := k) (s := s) (i := i) hx hb n (j + 1) (by omega)
    rw [nsu] at ih
    have h1 := sumS_le l i j
    have h2 := sizeZ_le (l.getD j 0) i
    rw [rice_Best_L3_eq, rice_Best_L3_B_eq]
    simp -implicitDefEqProofs (disch := omega) only [sw, ss, hx.ind, hx.load, nat_toNat, size_is]
    exact ih
theorem bestMay_loop {μ : AMem} {x : SV} {l : List Int} {k s : Int} (hx : IsRow μ .i64 x l) (hb : l.length ≤ 1000000) :
    ∀ n j : Nat, j + n = l.length → rice_Best_L1 [.s x, .s x, .s (.int .i64 l.length)] [.s (.int .i64 k), .s (.int .i64 s), .s (.int .i64 j)] μ = if (l.drop j).all (fun z => mayB z 0) then some (.exit 0, [.s x, .s (.int .i64 k), .s (.int .i64 s)], μ) else some (.ret, [.s (.int .i64 0), .s (.int .i64 0)], μ)
  | 0, j, h => by
    rw [rice_Best_L1_eq, rice_Best_L1_B_eq, List.drop_eq_nil_of_le (by omega)]
    simp -implicitDefEqProofs (disch := omega) only [sw, ss, List.all_nil, if_true]
  | n + 1, j, h => by
    have ih := bestMay_loop (k := k) (s := s) hx hb n (j + 1) (by omega)
    rw [nsu] at ih
    rw [rice_Best_L1_eq, rice_Best_L1_B_eq, drop_cons (i := j) (by omega)]
    cases hm : mayB (l.getD j 0) 0
    · simp -implicitDefEqProofs (disch := omega) only [sw, ss, hx.ind, hx.load, nat_toNat, may_is, hm, List.all_cons, Bool.false_and, Bool.false_eq_true, if_false]
    · simp -implicitDefEqProofs (disch := omega) only [sw, ss, hx.ind, hx.load, nat_toNat, may_is, hm, List.all_cons, Bool.true_and]
      exact ih
theorem best_loop {μ : AMem} {x : SV} {l : List Int} (hx : IsRow μ .i64 x l) (hb : l.length ≤ 1000000) :
    ∀ (n i : Nat) (k s : Int), i + n = 25 → rice_Best_L2 [.s x] [.s (.int .i64 k), .s (.int .i64 s), .s (.int .i64 i)] μ = some (.exit 2, [.s (.int .i64 (bestF l n i k s).1), .s (.int .i64 (bestF l n i k s).2)], μ)
  | 0, i, k, s, h => by
    obtain rfl : i = 25 := by omega
    rw [rice_Best_L2_eq, rice_Best_L2_B_eq]
    rfl
  | n + 1, i, k, s, h => by
    have hsum := bestSum_loop (k := k) (s := s) (i := (i : Int)) hx hb _ 0 (Nat.zero_add _)
    rw [n0, show sumS l (i : Int) 0 = 0 from rfl] at hsum
    rw [rice_Best_L2_eq, rice_Best_L2_B_eq, bestF]
    by_cases c1 : i = 0
    · subst c1
      rw [if_pos (Or.inl rfl)]
      have ih := best_loop hx hb n 1 ((0 : Nat) : Int) (sumS l ((0 : Nat) : Int) l.length) (by omega)
      rw [show ((1 : Nat) : Int) = (((0 : Nat) : Int) + 1) from rfl] at ih
      simp -implicitDefEqProofs (disch := omega) only [sw, ss, hx.len, hsum]
      exact ih
    · by_cases c2 : sumS l (i : Int) l.length < s
      · rw [if_pos (Or.inr c2)]
        have ih := best_loop hx hb n (i + 1) (i : Int) (sumS l (i : Int) l.length) (by omega)
        rw [nsu] at ih
        simp -implicitDefEqProofs (disch := omega) only [sw, ss, hx.len, hsum]
        exact ih
      · rw [if_neg (by omega)]
        have ih := best_loop hx hb n (i + 1) k s (by omega)
        rw [nsu] at ih
        simp -implicitDefEqProofs (disch := omega) only [sw, ss, hx.len, hsum]
        exact ih
theorem best_is {μ : AMem} {x : SV} {l : List Int} (hx : IsRow μ .i64 x l) (hb : l.length ≤ 1000000) : rice_Best [.s x] μ = some (.tuple [.s (.int .i64 (bestZ l).1), .s (.int .i64 (bestZ l).2)], μ) := by
  have h1 := bestMay_loop (k := 0) (s := 0) hx hb _ 0 (Nat.zero_add _)
  rw [n0, List.drop_zero] at h1
  have h2 := best_loop hx hb 25 0 0 0 rfl
  rw [n0] at h2
  rw [rice_Best_eq, hx.len]
  unfold bestZ
  cases hall : l.all (fun z => mayB z 0)
  · rw [hall] at h1
    simp only [Bool.false_eq_true, if_false] at h1 ⊢
    simp -implicitDefEqProofs (disch := omega) only [sw, ss, h1]
  · rw [hall] at h1
    simp only [if_true] at h1 ⊢
    simp -implicitDefEqProofs (disch := omega) only [sw, ss, h1, h2]
theorem refBestSum_loop {μ : AMem} {x : SV} {l : List Int} {k s : Int} {i : Int} (hx : IsRow μ .i64 x l) (hb : l.length ≤ 1000000) :
    ∀ n j : Nat, j + n = l.length → overdubref01_Best_L3 [.s x, .s (.int .i64 k), .s (.int .i64 s), .s (.int .i64 i), .s (.int .i64 l.length)] [.s (.int .i64 (sumS l i j)), .s (.int .i64 j)] μ = some (.exit 4, [.s x, .s (.int .i64 k), .s (.int .i64 s), .s (.int .i64 i), .s (.int .i64 (sumS l i l.length))], μ)
  | 0, j, h => by
    obtain rfl : j = l.length := by omega
    rw [overdubref01_Best_L3_eq, overdubref01_Best_L3_B_eq]
    simp -implicitDefEqProofs (disch := omega) only [sw, ss]
  | n + 1, j, h => by
    have ih := refBestSum_loop (k := k) (s := s) (i := i) hx hb n (j + 1) (by omega)
    rw [nsu] at ih
    have h1 := sumS_le l i j
    have h2 := sizeZ_le (l.getD j 0) i
    rw [overdubref01_Best_L3_eq, overdubref01_Best_L3_B_eq]
    simp -implicitDefEqProofs (disch := omega) only [sw, ss, hx.ind, hx.load, nat_toNat, refSize_is]
    exact ih
theorem refBestMay_loop {μ : AMem} {x : SV} {l : List Int} {k s : Int} (hx : IsRow μ .i64 x l) (hb : l.length ≤ 1000000) :
    ∀ n j : Nat, j + n = l.length → overdubref01_Best_L1 [.s x, .s (.int .i64 l.length)] [.s (.int .i64 j)] μ = if (l.drop j).all (fun z => mayB z 0) then some (.exit 0, [.s x], μ) else some (.ret, [.s (.int .i64 0), .s (.int .i64 0)], μ)
  | 0, j, h => by
    rw [overdubref01_Best_L1_eq, overdubref01_Best_L1_B_eq, List.drop_eq_nil_of_le (by omega)]
    simp -implicitDefEqProofs (disch := omega) only [sw, ss, List.all_nil, if_true]
  | n + 1, j, h => by
    have ih := refBestMay_loop (k := k) (s := s) hx hb n (j + 1) (by omega)
    rw [nsu] at ih
    rw [overdubref01_Best_L1_eq, overdubref01_Best_L1_B_eq, drop_cons (i := j) (by omega)]
    cases hm : mayB (l.getD j 0) 0
    · simp -implicitDefEqProofs (disch := omega) only [sw, ss, hx.ind, hx.load, nat_toNat, refMayB_is, hm, List.all_cons, Bool.false_and, Bool.false_eq_true, if_false]
    · simp -implicitDefEqProofs (disch := omega) only [sw, ss, hx.ind, hx.load, nat_toNat, refMayB_is, hm, List.all_cons, Bool.true_and]
      exact ih
theorem refBest_loop {μ : AMem} {x : SV} {l : List Int} (hx : IsRow μ .i64 x l) (hb : l.length ≤ 1000000) :
    ∀ (n i : Nat) (k s : Int), i + n = 25 → overdubref01_Best_L2 [.s x] [.s (.int .i64 k), .s (.int .i64 s), .s (.int .i64 i)] μ = some (.exit 2, [.s (.int .i64 (bestF l n i k s).1), .s (.int .i64 (bestF l n i k s).2)], μ)
  | 0, i, k, s, h => by
    obtain rfl : i = 25 := by omega
    rw [overdubref01_Best_L2_eq, overdubref01_Best_L2_B_eq]
    rfl
  | n + 1, i, k, s, h => by
    have hsum := refBestSum_loop (k := k) (s := s) (i := (i : Int)) hx hb _ 0 (Nat.zero_add _)
    rw [n0, show sumS l (i : Int) 0 = 0 from rfl] at hsum
    rw [overdubref01_Best_L2_eq, overdubref01_Best_L2_B_eq, bestF]
    by_cases c1 : i = 0
    · subst c1
      rw [if_pos (Or.inl rfl)]
      have ih := refBest_loop hx hb n 1 ((0 : Nat) : Int) (sumS l ((0 : Nat) : Int) l.length) (by omega)
      rw [show ((1 : Nat) : Int) = (((0 : Nat) : Int) + 1) from rfl] at ih
      simp -implicitDefEqProofs (disch := omega) only [sw, ss, hx.len, hsum]
      exact ih
    · by_cases c2 : sumS l (i : Int) l.length < s
      · rw [if_pos (Or.inr c2)]
        have ih := refBest_loop hx hb n (i + 1) (i : Int) (sumS l (i : Int) l.length) (by omega)
        rw [nsu] at ih
        simp -implicitDefEqProofs (disch := omega) only [sw, ss, hx.len, hsum]
        exact ih
      · rw [if_neg (by omega)]
        have ih := refBest_loop hx hb n (i + 1) k s (by omega)
        rw [nsu] at ih
        simp -implicitDefEqProofs (disch := omega) only [sw, ss, hx.len, hsum]
        exact ih
theorem refBest_is {μ : AMem} {x : SV} {l : List Int} (hx : IsRow μ .i64 x l) (hb : l.length ≤ 1000000) : overdubref01_Best [.s x] μ = some (.tuple [.s (.int .i64 (bestZ l).1), .s (.int .i64 (bestZ l).2)], μ) := by
  have h1 := refBestMay_loop (k := 0) (s := 0) hx hb _ 0 (Nat.zero_add _)
  rw [n0, List.drop_zero] at h1
  have h2 := refBest_loop hx hb 25 0 0 0 rfl
  rw [n0] at h2
  rw [overdubref01_Best_eq, hx.len]
  unfold bestZ
  cases hall : l.all (fun z => mayB z 0)
  · rw [hall] at h1
    simp only [Bool.false_eq_true, if_false] at h1 ⊢
    simp -implicitDefEqProofs (disch := omega) only [sw, ss, h1]
  · rw [hall] at h1
    simp only [if_true] at h1 ⊢
    simp -implicitDefEqProofs (disch := omega) only [sw, ss, h1, h2]
theorem bestF_spec (l : List Int) : ∀ (n i : Nat) (k s : Int), i + n = 25 → 1 ≤ i → (0 ≤ k ∧ k < i ∧ s = sumS l k l.length ∧ ∀ p : Nat, p < i → s ≤ sumS l p l.length ∧ (s = sumS l p l.length → k ≤ p)) →
      0 ≤ (bestF l n i k s).1 ∧ (bestF l n i k s).1 < 25 ∧ (bestF l n i k s).2 = sumS l (bestF l n i k s).1 l.length ∧ ∀ p : Nat, p < 25 → (bestF l n i k s).2 ≤ sumS l p l.length ∧ ((bestF l n i k s).2 = sumS l p l.length → (bestF l n i k s).1 ≤ p)
  | 0, i, k, s, h, h1, ⟨a, b, c, d⟩ => by
    obtain rfl : i = 25 := by omega
    exact ⟨a, b, c, d⟩
  | n + 1, i, k, s, h, h1, ⟨a, b, c, d⟩ => by
    rw [bestF]
    by_cases hc : sumS l i l.length < s
    · rw [if_pos (Or.inr hc)]
      refine bestF_spec l n (i + 1) i _ (by omega) (by omega) ⟨by omega, by omega, rfl, fun p hp => ?_⟩
      by_cases hpi : p = i
      · subst hpi; exact ⟨by omega, fun _ => by omega⟩
      · have := d p (by omega)
        exact ⟨by omega, fun h => by omega⟩
    · rw [if_neg (by omega)]
      refine bestF_spec l n (i + 1) k s (by omega) (by omega) ⟨a, by omega, c, fun p hp => ?_⟩
      by_cases hpi : p = i
      · subst hpi; exact ⟨by omega, fun _ => by omega⟩
      · exact d p (by omega)
theorem bestZ_spec {l : List Int} (h : l.all (fun z => mayB z 0) = true) : 0 ≤ (bestZ l).1 ∧ (bestZ l).1 < 25 ∧ (bestZ l).2 = sumS l (bestZ l).1 l.length ∧ ∀ p : Nat, p < 25 → (bestZ l).2 ≤ sumS l p l.length ∧ ((bestZ l).2 = sumS l p l.length → (bestZ l).1 ≤ p) := by
  unfold bestZ
  rw [if_pos h, bestF, if_pos (Or.inl rfl)]
  refine bestF_spec l 24 1 _ _ rfl (by omega) ⟨by omega, by omega, rfl, fun p hp => ?_⟩
  obtain rfl : p = 0 := by omega
  exact ⟨Int.le_refl _, fun _ => Int.le_refl _⟩
end Go.Proofs.YtnjenjbodcihmaaGreat
