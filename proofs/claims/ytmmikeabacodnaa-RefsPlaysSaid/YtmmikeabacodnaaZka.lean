/- What the functions come to. -/
import Derived.Test.YtmmikeabacodnaaZs
/- Whole numbers of 64 digits, products. -/
namespace Go.Proofs.Ytmmikeabacodnaa
open Go Go.Proofs.Ytmmikeabacodnaa.E
set_option linter.unusedVariables false
set_option linter.unusedSimpArgs false
theorem wr {n : Int} (h : -9223372036854775808 ≤ n ∧ n ≤ 9223372036854775807) : IntKind.wrap .i64 n = n := i64_in' n h
theorem wf64 {n : Int} (h : (Lit.int .i64 n).wf = true) : -9223372036854775808 ≤ n ∧ n ≤ 9223372036854775807 := by
  simpa [Lit.wf, IntKind.min, IntKind.max, IntKind.signed, IntKind.bits] using h
theorem prod_le {a b A B : Int} (h1 : -A ≤ a) (h2 : a ≤ A) (h3 : -B ≤ b) (h4 : b ≤ B) : -(A * B) ≤ a * b ∧ a * b ≤ A * B := by
  have hA : 0 ≤ A := by omega
  have hB : 0 ≤ B := by omega
  have e1 := Int.mul_nonneg (show 0 ≤ A - a by omega) (show 0 ≤ B - b by omega)
  have e2 := Int.mul_nonneg (show 0 ≤ A + a by omega) (show 0 ≤ B + b by omega)
  have e3 := Int.mul_nonneg (show 0 ≤ A - a by omega) (show 0 ≤ B + b by omega)
  have e4 := Int.mul_nonneg (show 0 ≤ A + a by omega) (show 0 ≤ B - b by omega)
  simp only [Int.sub_mul, Int.mul_sub, Int.add_mul, Int.mul_add] at e1 e2 e3 e4
  constructor <;> omega
end Go.Proofs.Ytmmikeabacodnaa
/- Steps of a walk: facts with premises that arithmetic closes; a number put behind a row. -/
namespace Go.Proofs.Ytmmikeabacodnaa
open Go Go.Proofs.Ytmmikeabacodnaa.E
set_option linter.unusedVariables false
set_option linter.unusedSimpArgs false
theorem w64 {n : Int} (h : -9223372036854775808 ≤ n) (h' : n ≤ 9223372036854775807) : IntKind.wrap .i64 n = n := wr ⟨h, h'⟩
theorem lt_t {a b : Int} (h : a < b) : decide (a < b) = true := decide_eq_true h
theorem lt_f {a b : Int} (h : b ≤ a) : decide (a < b) = false := decide_eq_false (by omega)
theorem gt_t {a b : Int} (h : b < a) : decide (a > b) = true := decide_eq_true h
theorem gt_f {a b : Int} (h : a ≤ b) : decide (a > b) = false := decide_eq_false (by omega)
theorem le_t {a b : Int} (h : a ≤ b) : decide (a ≤ b) = true := decide_eq_true h
theorem le_f {a b : Int} (h : b < a) : decide (a ≤ b) = false := decide_eq_false (by omega)
theorem ge_t {a b : Int} (h : b ≤ a) : decide (a ≥ b) = true := decide_eq_true h
theorem ge_f {a b : Int} (h : a < b) : decide (a ≥ b) = false := decide_eq_false (by omega)
theorem ne_t {a b : Int} (h : ¬ a = b) : (a != b) = true := by simp [h]
theorem ne_f {a b : Int} (h : a = b) : (a != b) = false := by simp [h]
theorem eq_t {a b : Int} (h : a = b) : (a == b) = true := by simp [h]
theorem eq_f {a b : Int} (h : ¬ a = b) : (a == b) = false := by simp [h]
theorem n0 : ((0 : Nat) : Int) = 0 := rfl
theorem nsu (i : Nat) : ((i + 1 : Nat) : Int) = (i : Int) + 1 := rfl
theorem nat_toNat (i : Nat) : ((i : Nat) : Int).toNat = i := rfl
theorem chk {α : Type} {p : Prop} (h : p) (x : Option α) : checkA p x = x := checkA_pos h x
theorem chk_rfl {α β : Type} (a : α) (x : Option β) : checkA (a = a) x = x := checkA_pos rfl x
theorem chk_true {β : Type} (x : Option β) : checkA True x = x := checkA_pos trivial x
theorem ptrAdd_p {R : Type} (n a b c : Nat) (K : AV → Option R) : ptrAdd n (.s (.ptr a b c)) K = K (.s (.ptr a b (c + n))) := rfl
theorem loadAt_p {R : Type} (μ : AMem) (a b c : Nat) (K : AV → Option R) : loadAt μ (.s (.ptr a b c)) K = (μ.cell a b c).bind fun x => K (.s x) := rfl
theorem bump_cell (μ : AMem) (n a b c : Nat) : (μ.bump n).cell a b c = μ.cell a b c := rfl
theorem set_self (μ : AMem) (i : Nat) (o : AObj) : (μ.set i o).obj i = some o := by simp
/-- A number behind a row of the call's own. -/
theorem pushS {μ0 μ : AMem} (h0 : WF μ0) (hs : Same μ0 μ) {k : IntKind} {e : TypeId} {x : SV} {zs : List Int} (h : OwnRow μ0.next μ k e x zs) {B a b n : Nat} (v : Int) (hB : 1 ≤ B) (hb : (zs.length + 1) * B ≤ 140737488355328)
    (ha : a < n) (hbn : b < n) (hab : a ≠ b) {q : Option Nat} : ∃ x' μ', (∀ {R : Type} (K : AV → AMem → Option R), appendA e 1 B (μ.next + b) ((μ.bump n).set (μ.next + a) (rowObj [.int k v] 1 e q)) (.s x) (.s (.slice (μ.next + a) 0 0 1)) K = K (.s x') μ') ∧
      Same μ0 μ' ∧ OwnRow μ0.next μ' k e x' (zs ++ [v]) := by
  obtain ⟨y', μ', p1, p2, p3, p4, p5, p6⟩ := OwnRow.push (B := B) (a := a) (b := b) (n := n) (q := q) hs.wf h v hB hb hs.next ha hbn hab
  exact ⟨y', μ', p1, Same.push h0 hs h p3 p4 p5, p2⟩
theorem same_row {μ0 μ : AMem} {k : IntKind} {x : SV} {zs : List Int} (hs : Same μ0 μ) (hx : IsRow μ0 k x zs) : IsRow μ k x zs := hx.same hs
theorem bumpS {μ0 μ : AMem} (hs : Same μ0 μ) (n : Nat) : Same μ0 (μ.bump n) := hs.trans (Keep.bump hs.wf n)
/-- A new object of the call's own. -/
theorem newS {μ0 μ : AMem} (hs : Same μ0 μ) {n a : Nat} (ha : a < n) (o : AObj) : Same μ0 ((μ.bump n).set (μ.next + a) o) := hs.trans (Same.bumpSet hs.wf ha o)
theorem freshB {μ : AMem} (hw : WF μ) (n a : Nat) : (μ.bump n).obj (μ.next + a) = none := by rw [bump_obj]; exact hw _ (by omega)
theorem freshS {μ μ' : AMem} (hw : WF μ) {n a : Nat} (ha : a < n) (hs : Same (μ.bump n) μ') : μ'.obj (μ.next + a) = none := hs.low _ (by simp [ha]) (freshB hw n a)
theorem range_cons (f : Nat → Int) (i k : Nat) : (List.range' i (k + 1)).map f = f i :: (List.range' (i + 1) k).map f := rfl
theorem getD_lt {zs : List Int} {i : Nat} (h : i < zs.length) : zs.getD i 0 = zs[i] := by rw [List.getD_eq_getElem?_getD, List.getElem?_eq_getElem h]; rfl
theorem take_snoc {zs : List Int} {i : Nat} (h : i < zs.length) : zs.take (i + 1) = zs.take i ++ [zs.getD i 0] := by rw [List.take_add_one, List.getElem?_eq_getElem h, getD_lt h]; rfl
/-- A cut from the beginning. -/
theorem E.IsRow.front {μ : AMem} {k : IntKind} {x : SV} {zs : List Int} (h : IsRow μ k x zs) {n : Nat} (hn : n ≤ zs.length) : ∃ y, (∀ {R : Type} (K : AV → Option R), cutS 1 (.s x) 0 (n : Int) K = K (.s y)) ∧ IsRow μ k y (zs.take n) := by
  refine ⟨cutV x 0 n, fun K => h.cut (by omega) (by omega) (by omega) K, ?_⟩
  have := h.cutRow (a := 0) (b := (n : Int)) (by omega) (by omega) (by omega)
  simpa using this
/-- A cut up to the end. -/
theorem E.IsRow.back {μ : AMem} {k : IntKind} {x : SV} {zs : List Int} (h : IsRow μ k x zs) {n : Nat} (hn : n ≤ zs.length) : ∃ y, (∀ {R : Type} (K : AV → Option R), cutS 1 (.s x) (n : Int) (zs.length : Int) K = K (.s y)) ∧ IsRow μ k y (zs.drop n) := by
  refine ⟨cutV x n zs.length, fun K => h.cut (by omega) (by omega) (by omega) K, ?_⟩
  have := h.cutRow (a := n) (b := (zs.length : Int)) (by omega) (by omega) (by omega)
  simpa using this
theorem zerosA_rep (v : SV) : ∀ n, zerosA [v] n = List.replicate n v
  | 0 => rfl
  | n + 1 => by
    have := zerosA_rep v n
    simp only [zerosA, List.replicate_succ] at this ⊢
    simp_all
/-- A row of noughts that was made. -/
theorem zeros_row {μ : AMem} {id : Nat} {n : Nat} {q : Option Nat} {e : TypeId} (h : μ.obj id = some (rowObj (zerosA [.int .i64 0] n) 1 e q)) : IsRow μ .i64 (.slice id 0 0 n) (List.replicate n 0) :=
  IsRow.made h (by simp) rfl (by show zerosA _ n = _; rw [zerosA_rep]; simp)
end Go.Proofs.Ytmmikeabacodnaa
/- Rows of records of numbers. -/
namespace Go.Proofs.Ytmmikeabacodnaa
open Go Go.Proofs.Ytmmikeabacodnaa.E
set_option linter.unusedVariables false
set_option linter.unusedSimpArgs false
/-- x is a row of len records of m numbers, all of them zs. -/
def IsRecs (μ : AMem) (k : IntKind) (m : Nat) (x : SV) (zs : List Int) (len : Nat) : Prop :=
  zs.length = len * m ∧ ((x = .nilSlice ∧ len = 0) ∨ ∃ id ver off o, x = .slice id ver off len ∧ μ.obj id = some o ∧ o.ver = ver ∧ ∀ (i : Nat) n, zs[i]? = some n → o.cells[off + i]? = some (.int k n))
def plcR (m : Nat) (x : SV) (i : Int) : AV :=
  match x with
  | .slice id ver off _ => .s (.ptr id ver (off + i.toNat * m))
  | _ => .unk
def plcF (m : Nat) (x : SV) (i : Int) (f : Nat) : AV :=
  match x with
  | .slice id ver off _ => .s (.ptr id ver (off + i.toNat * m + f))
  | _ => .unk
theorem IsRecs.lenS {μ : AMem} {k : IntKind} {m : Nat} {x : SV} {zs : List Int} {len : Nat} (h : IsRecs μ k m x zs len) : lenS (.s x) = some len := by
  rcases h with ⟨_, ⟨rfl, rfl⟩ | ⟨id, ver, off, o, rfl, _⟩⟩ <;> rfl
theorem IsRecs.ind {μ : AMem} {k : IntKind} {m : Nat} {x : SV} {zs : List Int} {len : Nat} (h : IsRecs μ k m x zs len) {i : Int} (h0 : 0 ≤ i) (h1 : i < len) {R : Type} (K : AV → Option R) : indS m (.s x) i K = K (plcR m x i) := by
  rcases h with ⟨_, ⟨rfl, rfl⟩ | ⟨id, ver, off, o, rfl, _⟩⟩
  · omega
  · simp [indS, plcR, h0, h1]
theorem IsRecs.add {μ : AMem} {k : IntKind} {m : Nat} {x : SV} {zs : List Int} {len : Nat} (h : IsRecs μ k m x zs len) {i : Int} (h0 : 0 ≤ i) (h1 : i < len) (f : Nat) {R : Type} (K : AV → Option R) : ptrAdd f (plcR m x i) K = K (plcF m x i f) := by
  rcases h with ⟨_, ⟨rfl, rfl⟩ | ⟨id, ver, off, o, rfl, _⟩⟩
  · omega
  · rfl
theorem IsRecs.load {μ : AMem} {k : IntKind} {m : Nat} {x : SV} {zs : List Int} {len : Nat} (h : IsRecs μ k m x zs len) {i : Nat} (h1 : i < len) {f : Nat} (hf : f < m) {R : Type} (K : AV → Option R) : loadAt μ (plcF m x (i : Int) f) K = K (.s (.int k (zs.getD (i * m + f) 0))) := by
  obtain ⟨hl, ⟨rfl, rfl⟩ | ⟨id, ver, off, o, rfl, ho, hv, hc⟩⟩ := h
  · omega
  · have hlt : i * m + f < zs.length := by
      rw [hl]
      calc i * m + f < i * m + m := by omega
        _ = (i + 1) * m := by rw [Nat.add_mul]; simp
        _ ≤ len * m := Nat.mul_le_mul_right _ (by omega)
    have hg := hc (i * m + f) _ (List.getElem?_eq_getElem hlt)
    have e : off + ((i : Nat) : Int).toNat * m + f = off + (i * m + f) := by rw [nat_toNat, Nat.add_assoc]
    simp only [plcF, loadAt, AMem.cell, ho, Option.bind_some, hv, if_true, e, hg]
    rw [List.getD_eq_getElem?_getD, List.getElem?_eq_getElem hlt]; rfl
theorem IsRecs.same {μ μ' : AMem} {k : IntKind} {m : Nat} {x : SV} {zs : List Int} {len : Nat} (h : IsRecs μ k m x zs len) (hs : Same μ μ') : IsRecs μ' k m x zs len := by
  obtain ⟨hl, h0 | ⟨id, ver, off, o, rfl, ho, r⟩⟩ := h
  · exact ⟨hl, .inl h0⟩
  · exact ⟨hl, .inr ⟨id, ver, off, o, rfl, hs.old id o ho fun h => h, r⟩⟩
theorem IsRecs.wf {μ : AMem} {k : IntKind} {m : Nat} {x : SV} {zs : List Int} {len : Nat} (h : IsRecs μ k m x zs len) (hz : ∀ n ∈ zs, (Lit.int k n).wf = true) {i : Nat} (h1 : i < len) {f : Nat} (hf : f < m) : (Lit.int k (zs.getD (i * m + f) 0)).wf = true := by
  have hlt : i * m + f < zs.length := by
    rw [h.1]
    calc i * m + f < i * m + m := by omega
      _ = (i + 1) * m := by rw [Nat.add_mul]; simp
      _ ≤ len * m := Nat.mul_le_mul_right _ (by omega)
  rw [getD_lt hlt]
  exact hz _ (List.getElem_mem hlt)
theorem IsRecs.arg {k : IntKind} {m : Nat} {zs : List Int} {len : Nat} {l : List Arg} {j : Nat} {a : Arg} (h : Arg.isRecs k zs len a) (hq : zs.length = len * m) (hj : l[j]? = some a) : ∃ x, a.val j = .s x ∧ IsRecs (argMem l) k m x zs len := by
  cases a with
  | nil =>
    obtain ⟨rfl, rfl⟩ := h
    exact ⟨.nilSlice, rfl, hq, .inl ⟨rfl, rfl⟩⟩
  | rs k' zs' len' =>
    obtain ⟨rfl, rfl, rfl⟩ := h
    exact ⟨_, rfl, hq, .inr ⟨j, 0, 0, rowA (zs'.map (.int k')), rfl, by simp [argMem, hj, Arg.obj], rfl, fun i n hi => by rw [Nat.zero_add]; simp [rowA, hi]⟩⟩
  | _ => exact h.elim
end Go.Proofs.Ytmmikeabacodnaa
/- A record that is copied into a box. -/
namespace Go.Proofs.Ytmmikeabacodnaa
open Go Go.Proofs.Ytmmikeabacodnaa.E
set_option linter.unusedVariables false
set_option linter.unusedSimpArgs false
theorem set_set (μ : AMem) (i : Nat) (o o' : AObj) : (μ.set i o).set i o' = μ.set i o' := by
  unfold AMem.set
  congr 1
  funext j
  dsimp only
  split <;> rfl
theorem box3 {R : Type} (M : AMem) (i T : Nat) (q : Option Nat) (z1 z2 z3 a b c : SV) (K : AMem → Option R) :
    storeAt 3 (M.set i (rowObj [z1, z2, z3] 3 T q)) (.s (.ptr i 0 0)) (.agg [a, b, c]) K = K (M.set i (rowObj [a, b, c] 3 T q)) := by
  simp only [storeAt, AV.cells, List.length_cons, List.length_nil, AMem.store, set_self, Option.bind_some, rowObj, if_true, true_and, Nat.zero_add]
  rw [if_pos (Nat.le_refl _), Option.bind_some, set_set]
  rfl
theorem box3_0 (M : AMem) (i T : Nat) (q : Option Nat) (a b c : SV) : (M.set i (rowObj [a, b, c] 3 T q)).cell i 0 (0 + 0) = some a := by
  simp [AMem.cell, rowObj]
theorem box3_1 (M : AMem) (i T : Nat) (q : Option Nat) (a b c : SV) : (M.set i (rowObj [a, b, c] 3 T q)).cell i 0 (0 + 1) = some b := by
  simp [AMem.cell, rowObj]
theorem box3_2 (M : AMem) (i T : Nat) (q : Option Nat) (a b c : SV) : (M.set i (rowObj [a, b, c] 3 T q)).cell i 0 (0 + 2) = some c := by
  simp [AMem.cell, rowObj]
theorem loadN3 {μ : AMem} {id ver off : Nat} {a b c : SV} (h0 : μ.cell id ver off = some a) (h1 : μ.cell id ver (off + 1) = some b) (h2 : μ.cell id ver (off + 2) = some c) : μ.loadN id ver off 3 = some [a, b, c] := by
  simp only [AMem.loadN, h0, h1, h2, Option.bind_some, Option.map_some]
/-- A record of three numbers. -/
theorem rec3 {μ : AMem} {k : IntKind} {x : SV} {zs : List Int} {len : Nat} (h : IsRecs μ k 3 x zs len) {i : Nat} (h1 : i < len) {R : Type} (K : AV → Option R) :
    loadsAt μ 3 (plcR 3 x (i : Int)) K = K (.agg [.int k (zs.getD (i * 3 + 0) 0), .int k (zs.getD (i * 3 + 1) 0), .int k (zs.getD (i * 3 + 2) 0)]) := by
  obtain ⟨hl, ⟨rfl, rfl⟩ | ⟨id, ver, off, o, rfl, ho, hv, hc⟩⟩ := h
  · omega
  · have hg : ∀ f, f < 3 → μ.cell id ver (off + i * 3 + f) = some (.int k (zs.getD (i * 3 + f) 0)) := fun f hf => by
      have hlt : i * 3 + f < zs.length := by omega
      have := hc _ _ (List.getElem?_eq_getElem hlt)
      simp only [AMem.cell, ho, Option.bind_some, hv, if_true, Nat.add_assoc, this, getD_lt hlt]
    have e0 := hg 0 (by omega)
    have e1 := hg 1 (by omega)
    have e2 := hg 2 (by omega)
    rw [Nat.add_zero] at e0
    simp only [loadsAt, plcR, nat_toNat, loadN3 e0 e1 e2, Option.bind_some]
end Go.Proofs.Ytmmikeabacodnaa
/- Rows of acts: two numbers and a row each. -/
namespace Go.Proofs.Ytmmikeabacodnaa
open Go Go.Proofs.Ytmmikeabacodnaa.E
set_option linter.unusedVariables false
set_option linter.unusedSimpArgs false
/-- x is a row of len acts. -/
def IsActs (μ : AMem) (x : SV) (len : Nat) : Prop :=
  (x = .nilSlice ∧ len = 0) ∨ ∃ id o, x = .slice id 0 0 len ∧ μ.obj id = some o ∧ o.ver = 0 ∧ ∀ i, i < len → ∃ d n r zs, o.cells[i * 3 + 0]? = some (.int .i64 d) ∧ o.cells[i * 3 + 1]? = some (.int .i64 n) ∧ o.cells[i * 3 + 2]? = some r ∧
    (Lit.int .i64 d).wf = true ∧ (Lit.int .i64 n).wf = true ∧ IsRow μ .i64 r zs ∧ ∀ v ∈ zs, (Lit.int .i64 v).wf = true
theorem IsActs.lenS {μ : AMem} {x : SV} {len : Nat} (h : IsActs μ x len) : lenS (.s x) = some len := by
  rcases h with ⟨rfl, rfl⟩ | ⟨id, o, rfl, _⟩ <;> rfl
theorem IsActs.ind {μ : AMem} {x : SV} {len : Nat} (h : IsActs μ x len) {i : Int} (h0 : 0 ≤ i) (h1 : i < len) {R : Type} (K : AV → Option R) : indS 3 (.s x) i K = K (plcR 3 x i) := by
  rcases h with ⟨rfl, rfl⟩ | ⟨id, o, rfl, _⟩
  · omega
  · simp [indS, plcR, h0, h1]
theorem IsActs.act {μ : AMem} {x : SV} {len : Nat} (h : IsActs μ x len) {i : Nat} (h1 : i < len) :
    ∃ d n r zs, (∀ {R : Type} (μ' : AMem) (K : AV → Option R), Same μ μ' → loadsAt μ' 3 (plcR 3 x (i : Int)) K = K (.agg [.int .i64 d, .int .i64 n, r])) ∧ (Lit.int .i64 d).wf = true ∧ (Lit.int .i64 n).wf = true ∧ IsRow μ .i64 r zs ∧ ∀ v ∈ zs, (Lit.int .i64 v).wf = true := by
  rcases h with ⟨rfl, rfl⟩ | ⟨id, o, rfl, ho, hv, hc⟩
  · omega
  · obtain ⟨d, n, r, zs, c0, c1, c2, w1, w2, hr, hz⟩ := hc i h1
    refine ⟨d, n, r, zs, fun {R} μ' K hs => ?_, w1, w2, hr, hz⟩
    have ho' := hs.old id o ho fun h => h
    have e0 : μ'.cell id 0 (0 + i * 3) = some (.int .i64 d) := by
      rw [Nat.add_zero] at c0
      simp only [AMem.cell, ho', Option.bind_some, hv, if_true, Nat.zero_add, c0]
    have e1 : μ'.cell id 0 (0 + i * 3 + 1) = some (.int .i64 n) := by
      simp only [AMem.cell, ho', Option.bind_some, hv, if_true, Nat.zero_add, c1]
    have e2 : μ'.cell id 0 (0 + i * 3 + 2) = some r := by
      simp only [AMem.cell, ho', Option.bind_some, hv, if_true, Nat.zero_add, c2]
    simp only [loadsAt, plcR, nat_toNat, loadN3 e0 e1 e2, Option.bind_some]
theorem IsActs.same {μ μ' : AMem} {x : SV} {len : Nat} (h : IsActs μ x len) (hs : Same μ μ') : IsActs μ' x len := by
  rcases h with h0 | ⟨id, o, rfl, ho, hv, hc⟩
  · exact .inl h0
  · refine .inr ⟨id, o, rfl, hs.old id o ho fun h => h, hv, fun i hi => ?_⟩
    obtain ⟨d, n, r, zs, c0, c1, c2, w1, w2, hr, hz⟩ := hc i hi
    exact ⟨d, n, r, zs, c0, c1, c2, w1, w2, hr.same hs, hz⟩
/-- The row of a cell inside an argument. -/
theorem inner_row {al : List ArgN} {j q : Nat} {cs : List Cell} {len : Nat} (ha : al[j]? = some (.recs cs len)) {c : Cell} (hq : cs[q]? = some c) {k : IntKind} (hc : CellOK (.r k) c) :
    ∃ zs, IsRow (argMemN al) k (c.sv (al.length + before al j + q)) zs ∧ ∀ n ∈ zs, (Lit.int k n).wf = true := by
  rcases hc with rfl | ⟨zs, rfl, hz, _⟩
  · exact ⟨[], .inl ⟨rfl, rfl⟩, fun n hn => by cases hn⟩
  · refine ⟨zs, ?_, hz⟩
    have hi := inner_get al j (.recs cs len) q _ ha hq
    have ho : (argMemN al).obj (al.length + (before al j + q)) = some (rowA (zs.map (.int k))) := by
      rw [objN_inner, hi]; rfl
    rw [← Nat.add_assoc] at ho
    exact IsRow.made ho (by simp) rfl rfl
theorem IsActs.arg {al : List ArgN} {j : Nat} {a : ArgN} {cs : List Cell} {len : Nat} (h : ArgN.isRecs cs len a) (hq : CellsOK [.i .i64, .i .i64, .r .i64] cs len) (hj : al[j]? = some a) : ∃ x, a.val j = .s x ∧ IsActs (argMemN al) x len := by
  cases a with
  | cell c =>
    obtain ⟨rfl, rfl, rfl⟩ := h
    exact ⟨.nilSlice, rfl, .inl ⟨rfl, rfl⟩⟩
  | recs cs' len' =>
    obtain ⟨rfl, rfl⟩ := h
    refine ⟨_, rfl, .inr ⟨j, rowA (cellsAt (al.length + before al j) cs'), rfl, by rw [objN_arg hj]; rfl, rfl, fun i hi => ?_⟩⟩
    have each := hq.2 i
    obtain ⟨c0, h0, d, rfl, w0⟩ := each 0 hi (.i .i64) rfl
    obtain ⟨c1, h1, n, rfl, w1⟩ := each 1 hi (.i .i64) rfl
    obtain ⟨c2, h2, hr⟩ := each 2 hi (.r .i64) rfl
    obtain ⟨zs, hrow, hz⟩ := inner_row hj h2 hr
    have g : ∀ (q : Nat) (c : Cell), cs'[q]? = some c → (rowA (cellsAt (al.length + before al j) cs')).cells[q]? = some (c.sv (al.length + before al j + q)) := fun q c hc => by
      show (cellsAt _ _)[q]? = _
      rw [cellsAt_get, hc]; rfl
    exact ⟨d, n, _, zs, g _ _ h0, g _ _ h1, g _ _ h2, w0, w1, hrow, hz⟩
/-- A row's front, wherever it is read. -/
theorem cutC_is {μ : AMem} {x : SV} {zs : List Int} (h : IsRow μ .i64 x zs) (n : Nat) : ∃ y, (∀ μ', Same μ μ' → overdubkeep_Cut_int [.s x, .s (.int .i64 n)] μ' = some (.s y, μ')) ∧ IsRow μ .i64 y (zs.take n) := by
  have e : (if ((n : Nat) : Int) < ((zs.length : Nat) : Int) then ((n : Nat) : Int) else ((zs.length : Nat) : Int)) = ((min n zs.length : Nat) : Int) := by split <;> omega
  refine ⟨cutV x 0 ((min n zs.length : Nat) : Int), fun μ' hs => ?_, ?_⟩
  · have h' := h.same hs
    rw [overdubkeep_Cut_int_eq, h'.len]
    simp only [Option.bind_some]
    rw [e, h'.cut (by omega) (by omega) (by omega)]
  · have := h.cutRow (a := 0) (b := ((min n zs.length : Nat) : Int)) (by omega) (by omega) (by omega)
    have e2 : (zs.take (((min n zs.length : Nat) : Int)).toNat).drop (0 : Int).toNat = zs.take n := by
      simp only [Int.toNat_zero, List.drop_zero]
      rw [show (((min n zs.length : Nat) : Int)).toNat = min n zs.length by omega]
      rcases Nat.le_total n zs.length with hl | hl
      · rw [Nat.min_eq_left hl]
      · rw [Nat.min_eq_right hl, List.take_of_length_le (Nat.le_refl _), List.take_of_length_le hl]
    rw [e2] at this
    exact this
end Go.Proofs.Ytmmikeabacodnaa
/- Rows behind rows. -/
namespace Go.Proofs.Ytmmikeabacodnaa
open Go Go.Proofs.Ytmmikeabacodnaa.E
set_option linter.unusedVariables false
set_option linter.unusedSimpArgs false
/-- A row behind a row of the call's own. -/
theorem appS {μ0 μ : AMem} (h0 : WF μ0) (hs : Same μ0 μ) {k : IntKind} {e : TypeId} {x y : SV} {zs ws : List Int} (h : OwnRow μ0.next μ k e x zs) (hy : IsRow μ k y ws) {B nid : Nat} (hB : 1 ≤ B) (hb : (zs.length + ws.length) * B ≤ 140737488355328)
    (hN : μ0.next ≤ nid) (hlt : nid < μ.next) (hf : μ.obj nid = none) : ∃ x' μ', (∀ {R : Type} (K : AV → AMem → Option R), appendA e 1 B nid μ (.s x) (.s y) K = K (.s x') μ') ∧ Same μ0 μ' ∧ OwnRow μ0.next μ' k e x' (zs ++ ws) := by
  obtain ⟨x', μ', g1, g2, g3, g4, g5, g6⟩ := OwnRow.append hs.wf h hy hB hb hN hlt hf
  exact ⟨x', μ', g1, ⟨g3, by rw [g4]; exact hs.next, fun id o ho hf => g5.1 id o (hs.old id o ho hf) (h.notOld (h0.lt ho)), fun id hi hno => g5.2 id (by omega) (hs.low id hi hno)⟩, g2⟩
/-- A number behind a row of the call's own, where its box was reserved ahead of a call. -/
theorem pushM {μ0 μ m : AMem} (h0 : WF μ0) (hs : Same μ0 μ) {n : Nat} (hm : Same (μ.bump n) m) {k : IntKind} {e : TypeId} {x : SV} {zs : List Int} (h : OwnRow μ0.next μ k e x zs) {B a b : Nat} (v : Int) (hB : 1 ≤ B) (hb : (zs.length + 1) * B ≤ 140737488355328)
    (ha : a < n) (hbn : b < n) (hab : a ≠ b) {q : Option Nat} : ∃ x' μ', (∀ {R : Type} (K : AV → AMem → Option R), appendA e 1 B (μ.next + b) (m.set (μ.next + a) (rowObj [.int k v] 1 e q)) (.s x) (.s (.slice (μ.next + a) 0 0 1)) K = K (.s x') μ') ∧
      Same μ0 μ' ∧ OwnRow μ0.next μ' k e x' (zs ++ [v]) := by
  have hn := hs.next
  have hmn := hm.next
  simp only [bump_next] at hmn
  have hsm : Same μ0 (m.set (μ.next + a) (rowObj [.int k v] 1 e q)) := Keep.setS h0 ((bumpS hs n).trans hm) (by omega) (by omega)
  have hy : IsRow (m.set (μ.next + a) (rowObj [.int k v] 1 e q)) k (.slice (μ.next + a) 0 0 1) [v] := IsRow.made (o := rowObj [.int k v] 1 e q) (by simp) rfl rfl rfl
  have h' : OwnRow μ0.next (m.set (μ.next + a) (rowObj [.int k v] 1 e q)) k e x zs := h.old fun id o ho _ => by
    have := hs.wf.lt ho
    rw [set_obj, if_neg (by omega)]
    exact hm.old _ _ ho (fun h => h)
  exact appS h0 hsm h' hy hB (by simpa using hb) (by omega) (by simp; omega) (by rw [set_obj, if_neg (by omega)]; exact freshS hs.wf hbn hm)
/-- A copy of a row. -/
theorem copyS {μ0 μ : AMem} (h0 : WF μ0) (hs : Same μ0 μ) {k : IntKind} {e : TypeId} {x : SV} {zs : List Int} (hx : IsRow μ k x zs) {B b n : Nat} (hB : 1 ≤ B) (hb : zs.length * B ≤ 140737488355328) (hbn : b < n) :
    ∃ y μ', (∀ {R : Type} (K : AV → AMem → Option R), appendA e 1 B (μ.next + b) (μ.bump n) (.s .nilSlice) (.s x) K = K (.s y) μ') ∧ Same μ0 μ' ∧ OwnRow μ0.next μ' k e y zs := by
  have hN := hs.next
  obtain ⟨y, μ', g1, g2, g3⟩ := appS (e := e) (B := B) (nid := μ.next + b) h0 (bumpS hs n) (OwnRow.nil μ0.next (μ.bump n) k e) (hx.same (Keep.bump hs.wf n)) hB (by simpa using hb) (by omega) (by simp; omega) (freshB hs.wf n b)
  exact ⟨y, μ', g1, g2, by simpa using g3⟩
/-- A copy of a row, and which object it is. -/
theorem copyI {μ0 μ : AMem} (h0 : WF μ0) (hs : Same μ0 μ) {k : IntKind} {e : TypeId} {x : SV} {zs : List Int} (hx : IsRow μ k x zs) {B b n : Nat} (hB : 1 ≤ B) (hb : zs.length * B ≤ 140737488355328) (hbn : b < n) :
    ∃ y μ', (∀ {R : Type} (K : AV → AMem → Option R), appendA e 1 B (μ.next + b) (μ.bump n) (.s .nilSlice) (.s x) K = K (.s y) μ') ∧ Same μ0 μ' ∧ OwnRow μ0.next μ' k e y zs ∧ μ'.next = μ.next + n ∧ ∀ id, isId y id → id = μ.next + b := by
  have hN := hs.next
  obtain ⟨x', μ', g1, g2, g3, g4, g5, g6⟩ := OwnRow.append (B := B) (nid := μ.next + b) (bumpS hs n).wf (OwnRow.nil μ0.next (μ.bump n) k e) (hx.same (Keep.bump hs.wf n)) hB (by simpa using hb) (by omega) (by simp; omega) (freshB hs.wf n b)
  refine ⟨x', μ', g1, ⟨g3, by rw [g4]; exact (bumpS hs n).next, fun id o ho hf => g5.1 id o ((bumpS hs n).old id o ho hf) fun h => h, fun id hi hno => g5.2 id (by omega) ((bumpS hs n).low id hi hno)⟩, by simpa using g2, g4, fun id hid => (g6 id hid).resolve_left fun h => h⟩
def leftZ (g : List Int → Int) (n : Nat) (xs : List Int) : List Int := (List.range' n (xs.length - n)).map fun i => xs.getD i 0 - g (xs.take i)
theorem drop_cons {zs : List Int} {i : Nat} (h : i < zs.length) : zs.drop i = zs.getD i 0 :: zs.drop (i + 1) := by rw [List.drop_eq_getElem_cons h, getD_lt h]
theorem take_map_snoc {zs : List Int} (f : Int → Int) {i : Nat} (h : i < zs.length) : (zs.take (i + 1)).map f = (zs.take i).map f ++ [f (zs.getD i 0)] := by rw [take_snoc h, List.map_append]; rfl
theorem getD_mem {zs : List Int} {i : Nat} (h : i < zs.length) : zs.getD i 0 ∈ zs := by rw [getD_lt h]; exact List.getElem_mem h
theorem take_min {zs : List Int} {i n : Nat} (h : i = min n zs.length) : zs.take i = zs.take n := by
  subst h
  rcases Nat.le_total n zs.length with hl | hl
  · rw [Nat.min_eq_left hl]
  · rw [Nat.min_eq_right hl, List.take_of_length_le (Nat.le_refl _), List.take_of_length_le hl]
end Go.Proofs.Ytmmikeabacodnaa
/- A number behind one of several rows of the call's own: the others stay. -/
namespace Go.Proofs.Ytmmikeabacodnaa
open Go Go.Proofs.Ytmmikeabacodnaa.E
set_option linter.unusedVariables false
set_option linter.unusedSimpArgs false
/-- Two rows are not of one object. -/
def Apart (x y : SV) : Prop := ∀ id, isId x id → ¬ isId y id
theorem Apart.symm {x y : SV} (h : Apart x y) : Apart y x := fun id h1 h2 => h id h2 h1
theorem apart_nil (y : SV) : Apart .nilSlice y := fun id h _ => h.elim
theorem own_lives {N : Nat} {μ : AMem} {k : IntKind} {e : TypeId} {x : SV} {zs : List Int} (h : OwnRow N μ k e x zs) {id : Nat} (hi : isId x id) : N ≤ id ∧ ∃ o, μ.obj id = some o := by
  rcases h with ⟨rfl, _⟩ | ⟨j, ver, o, rfl, hN, ho, _⟩
  · exact hi.elim
  · have : j = id := hi
    subst this
    exact ⟨hN, o, ho⟩
/-- The literal's box is written, then the row grows: what else lives stays, what else is free stays free. -/
theorem pushX {μ0 m : AMem} (h0 : WF μ0) (hs : Same μ0 m) {k : IntKind} {e : TypeId} {x : SV} {zs : List Int} (h : OwnRow μ0.next m k e x zs) {B ra rb : Nat} (v : Int) (hB : 1 ≤ B) (hb : (zs.length + 1) * B ≤ 140737488355328)
    (ha0 : μ0.next ≤ ra) (hb0 : μ0.next ≤ rb) (ha : ra < m.next) (hbn : rb < m.next) (hab : ra ≠ rb) (hfa : m.obj ra = none) (hfb : m.obj rb = none) {q : Option Nat} :
    ∃ x' m', (∀ {R : Type} (K : AV → AMem → Option R), appendA e 1 B rb (m.set ra (rowObj [.int k v] 1 e q)) (.s x) (.s (.slice ra 0 0 1)) K = K (.s x') m') ∧ Same μ0 m' ∧ OwnRow μ0.next m' k e x' (zs ++ [v]) ∧ m'.next = m.next ∧
      (∀ id o, m.obj id = some o → ¬ isId x id → m'.obj id = some o) ∧ (∀ id, id ≠ ra → id ≠ rb → m.obj id = none → m'.obj id = none) ∧ (∀ id, isId x' id → isId x id ∨ id = rb) := by
  have hsm : Same μ0 (m.set ra (rowObj [.int k v] 1 e q)) := Keep.setS h0 hs ha0 ha
  have hy : IsRow (m.set ra (rowObj [.int k v] 1 e q)) k (.slice ra 0 0 1) [v] := IsRow.made (o := rowObj [.int k v] 1 e q) (by simp) rfl rfl rfl
  have hne : ∀ id o, m.obj id = some o → id ≠ ra := fun id o ho e => by rw [e, hfa] at ho; cases ho
  have h' : OwnRow μ0.next (m.set ra (rowObj [.int k v] 1 e q)) k e x zs := h.old fun id o ho _ => by rw [set_obj, if_neg (hne id o ho)]; exact ho
  obtain ⟨x', m', g1, g2, g3, g4, g5, g6⟩ := OwnRow.append hsm.wf h' hy hB (by simpa using hb) hb0 (by simp; exact hbn) (by rw [set_obj, if_neg (fun e => hab e.symm)]; exact hfb)
  refine ⟨x', m', g1, ⟨g3, by rw [g4]; exact hs.next, fun id o ho hf => g5.1 id o (hsm.old id o ho hf) (h'.notOld (h0.lt ho)), fun id hi hno => g5.2 id (by omega) (hsm.low id hi hno)⟩, g2, g4, fun id o ho hx => g5.1 id o (by rw [set_obj, if_neg (hne id o ho)]; exact ho) hx, fun id h1 h2 hno => g5.2 id h2 (by rw [set_obj, if_neg h1]; exact hno), g6⟩
/-- Another row of the call's own stays, and stays apart. -/
theorem other {N : Nat} {m m' : AMem} {k : IntKind} {e : TypeId} {x x' y : SV} {zs : List Int} {rb : Nat} (hy : OwnRow N m k e y zs) (hxy : Apart x y) (hfb : m.obj rb = none)
    (g5 : ∀ id o, m.obj id = some o → ¬ isId x id → m'.obj id = some o) (g6 : ∀ id, isId x' id → isId x id ∨ id = rb) : OwnRow N m' k e y zs ∧ Apart x' y := by
  refine ⟨hy.old fun id o ho hi => g5 id o ho fun hx => hxy id hx hi, fun id h1 h2 => ?_⟩
  rcases g6 id h1 with h3 | h3
  · exact hxy id h3 h2
  · obtain ⟨_, o, ho⟩ := own_lives hy h2
    rw [h3, hfb] at ho; cases ho
end Go.Proofs.Ytmmikeabacodnaa
/- A number is written into a row of the call's own. -/
namespace Go.Proofs.Ytmmikeabacodnaa
open Go Go.Proofs.Ytmmikeabacodnaa.E
set_option linter.unusedVariables false
set_option linter.unusedSimpArgs false
theorem overA_get (cs : List SV) (i : Nat) (v : SV) (h : i < cs.length) (j : Nat) : (overA cs i [v])[j]? = if j = i then some v else cs[j]? := by
  unfold overA
  have htl : (cs.take i).length = i := by simp; omega
  rw [List.append_assoc, List.getElem?_append, htl]
  split
  · rename_i h1
    rw [if_neg (by omega), List.getElem?_take, if_pos h1]
  · rename_i h1
    rw [List.getElem?_append]
    simp only [List.length_cons, List.length_nil]
    split
    · rename_i h2
      have : j = i := by omega
      rw [if_pos this, this, Nat.sub_self]; rfl
    · rename_i h2
      rw [if_neg (by omega), List.getElem?_drop]
      congr 1; omega
theorem storeS {μ0 m : AMem} (h0 : WF μ0) (hs : Same μ0 m) {k : IntKind} {e : TypeId} {x : SV} {zs : List Int} (h : OwnRow μ0.next m k e x zs) {i : Nat} (hi : i < zs.length) (v : Int) :
    ∃ m', (∀ {R : Type} (K : AMem → Option R), storeAt 1 m (plc x (i : Int)) (.s (.int k v)) K = K m') ∧ Same μ0 m' ∧ OwnRow μ0.next m' k e x (zs.set i v) ∧ m'.next = m.next ∧ (∀ id o, m.obj id = some o → ¬ isId x id → m'.obj id = some o) ∧ (∀ id, m.obj id = none → m'.obj id = none) := by
  rcases h with ⟨rfl, rfl⟩ | ⟨id, ver, o, rfl, hN, ho, how, hv, hsz, he, hc⟩
  · simp at hi
  · have hcl := cells_len hc
    have hne : ∀ j p, m.obj j = some p → ¬ isId (.slice id ver 0 zs.length) j → j ≠ id := fun j p _ hh e => hh e.symm
    have hnone : ∀ j, m.obj j = none → j ≠ id := fun j hj e => by rw [e, ho] at hj; cases hj
    refine ⟨m.set id { o with cells := overA o.cells i [.int k v] }, fun K => ?_, ⟨hs.wf.set (hs.wf.lt ho), hs.next, fun j p hp hf => ?_, fun j hj hno => ?_⟩, ?_, rfl, fun j p hp hh => ?_, fun j hj => ?_⟩
    · have hii : (0 + (i : Int).toNat * 1) = i := by omega
      simp only [storeAt, plc, AV.cells, AMem.store, ho, Option.bind_some, hii, List.length_singleton, if_true]
      rw [if_pos ⟨how, hv, by omega⟩, Option.bind_some]
    · have : j ≠ id := by have := h0.lt hp; omega
      rw [set_obj, if_neg this]; exact hs.old j p hp hf
    · have : j ≠ id := by omega
      rw [set_obj, if_neg this]; exact hs.low j hj hno
    · refine .inr ⟨id, ver, { o with cells := overA o.cells i [.int k v] }, by simp, hN, by simp, how, hv, hsz, he, fun j n hj => ?_⟩
      show (overA o.cells i [.int k v])[j]? = _
      rw [overA_get _ _ _ (by omega)]
      rw [List.getElem?_set] at hj
      split at hj
      · rename_i hij
        rw [if_pos hij.symm]
        cases hj; rfl
      · rename_i hij
        rw [if_neg (fun e => hij e.symm)]; exact hc j n hj
    · rw [set_obj, if_neg (hne j p hp hh)]; exact hp
    · rw [set_obj, if_neg (hnone j hj)]; exact hj
/-- Another row stays. -/
theorem rowOther {m m' : AMem} {k : IntKind} {x y : SV} {zs : List Int} (hy : IsRow m k y zs) (hxy : Apart x y) (g : ∀ id o, m.obj id = some o → ¬ isId x id → m'.obj id = some o) : IsRow m' k y zs := by
  rcases hy with ⟨rfl, rfl⟩ | ⟨id, ver, off, o, rfl, ho, r⟩
  · exact .inl ⟨rfl, rfl⟩
  · exact .inr ⟨id, ver, off, o, rfl, g id o ho fun h => hxy id h rfl, r⟩
theorem row_lives {m : AMem} {k : IntKind} {y : SV} {zs : List Int} (hy : IsRow m k y zs) {id : Nat} (h : isId y id) : ∃ o, m.obj id = some o := by
  rcases hy with ⟨rfl, _⟩ | ⟨j, ver, off, o, rfl, ho, r⟩
  · exact h.elim
  · have : j = id := h
    exact ⟨o, this ▸ ho⟩
/-- A row that lived before is apart from one of the call's own. -/
theorem apart_old {μ0 m : AMem} (h0 : WF μ0) {k k' : IntKind} {e : TypeId} {x y : SV} {zs ws : List Int} (hx : OwnRow μ0.next m k e x zs) (hy : IsRow μ0 k' y ws) : Apart x y := fun id h1 h2 => by
  obtain ⟨o, ho⟩ := row_lives hy h2
  have := h0.lt ho
  have := (own_lives hx h1).1
  omega
/-- A row of the call's own is written: all else stays. -/
theorem storeK {N : Nat} {m : AMem} (hw : WF m) {k : IntKind} {e : TypeId} {x : SV} {zs : List Int} (h : OwnRow N m k e x zs) {i : Nat} (hi : i < zs.length) (v : Int) :
    ∃ m', (∀ {R : Type} (K : AMem → Option R), storeAt 1 m (plc x (i : Int)) (.s (.int k v)) K = K m') ∧ Keep (isId x) m m' ∧ OwnRow N m' k e x (zs.set i v) ∧ m'.next = m.next := by
  rcases h with ⟨rfl, rfl⟩ | ⟨id, ver, o, rfl, hN, ho, how, hv, hsz, he, hc⟩
  · simp at hi
  · have hcl := cells_len hc
    refine ⟨m.set id { o with cells := overA o.cells i [.int k v] }, fun K => ?_, Keep.set hw ho rfl, ?_, rfl⟩
    · have hii : (0 + (i : Int).toNat * 1) = i := by omega
      simp only [storeAt, plc, AV.cells, AMem.store, ho, Option.bind_some, hii, List.length_singleton, if_true]
      rw [if_pos ⟨how, hv, by omega⟩, Option.bind_some]
    · refine .inr ⟨id, ver, { o with cells := overA o.cells i [.int k v] }, by simp, hN, by simp, how, hv, hsz, he, fun j n hj => ?_⟩
      show (overA o.cells i [.int k v])[j]? = _
      rw [overA_get _ _ _ (by omega)]
      rw [List.getElem?_set] at hj
      split at hj
      · rename_i hij
        rw [if_pos hij.symm]
        cases hj; rfl
      · rename_i hij
        rw [if_neg (fun e => hij e.symm)]; exact hc j n hj
/-- A number behind a row of the call's own: only that row changes. -/
theorem pushK {N : Nat} {μ : AMem} (hw : WF μ) {k : IntKind} {e : TypeId} {x : SV} {zs : List Int} (h : OwnRow N μ k e x zs) {B a b n : Nat} (v : Int) (hB : 1 ≤ B) (hb : (zs.length + 1) * B ≤ 140737488355328) (hN : N ≤ μ.next) (ha : a < n) (hbn : b < n) (hab : a ≠ b) {q : Option Nat} :
    ∃ x' μ', (∀ {R : Type} (K : AV → AMem → Option R), appendA e 1 B (μ.next + b) ((μ.bump n).set (μ.next + a) (rowObj [.int k v] 1 e q)) (.s x) (.s (.slice (μ.next + a) 0 0 1)) K = K (.s x') μ') ∧ Keep (isId x) μ μ' ∧ OwnRow N μ' k e x' (zs ++ [v]) ∧ ∀ j, isId x' j → isId x j ∨ μ.next ≤ j := by
  obtain ⟨x', μ', p1, p2, p3, p4, p5, p6⟩ := OwnRow.push (B := B) (a := a) (b := b) (n := n) (q := q) hw h v hB hb hN ha hbn hab
  exact ⟨x', μ', p1, ⟨p3, p4, p5.1, p5.2⟩, p2, p6⟩
theorem E.Keep.weak0 {S T : Nat → Prop} {μ μ' : AMem} (h : Keep S μ μ') (hST : ∀ j, S j → T j) : Keep T μ μ' := ⟨h.wf, h.next, fun id o ho hf => h.old id o ho fun hs => hf (hST id hs), h.low⟩
theorem keepSame {μ0 m m' : AMem} {S : Nat → Prop} (h0 : WF μ0) (hs : Same μ0 m) (hk : Keep S m m') (hS : ∀ j, S j → μ0.next ≤ j) : Same μ0 m' :=
  ⟨hk.wf, Nat.le_trans hs.next hk.next, fun id o ho hf => hk.old id o (hs.old id o ho hf) fun h => by have := hS id h; have := h0.lt ho; omega, fun id hi hn => hk.low id (Nat.lt_of_lt_of_le hi hs.next) (hs.low id hi hn)⟩
theorem rowKeep {m m' : AMem} {S : Nat → Prop} {k : IntKind} {y : SV} {zs : List Int} (hy : IsRow m k y zs) (hk : Keep S m m') (hS : ∀ j, S j → ¬ isId y j) : IsRow m' k y zs := by
  rcases hy with ⟨rfl, rfl⟩ | ⟨id, ver, off, o, rfl, ho, r⟩
  · exact .inl ⟨rfl, rfl⟩
  · exact .inr ⟨id, ver, off, o, rfl, hk.old id o ho fun h => hS id h rfl, r⟩
theorem ownKeep {N : Nat} {m m' : AMem} {S : Nat → Prop} {k : IntKind} {e : TypeId} {y : SV} {zs : List Int} (hy : OwnRow N m k e y zs) (hk : Keep S m m') (hS : ∀ j, S j → ¬ isId y j) : OwnRow N m' k e y zs :=
  hy.old fun id o ho hi => hk.old id o ho fun h => hS id h hi
end Go.Proofs.Ytmmikeabacodnaa
/- What a table of counts comes to. -/
namespace Go.Proofs.Ytmmikeabacodnaa
open Go Go.Proofs.Ytmmikeabacodnaa.E
set_option linter.unusedVariables false
set_option linter.unusedSimpArgs false
/-- A table: a box that holds a row of the call's own. -/
def Tab (N : Nat) (μ : AMem) (x s : SV) (cs : List Int) : Prop := ∃ id o, x = .ptr id 0 0 ∧ N ≤ id ∧ μ.obj id = some o ∧ o.ver = 0 ∧ o.cells[0]? = some s ∧ OwnRow N μ .i64 3 s cs ∧ ¬ isId s id
theorem Tab.keep {N : Nat} {μ μ' : AMem} {S : Nat → Prop} {x s : SV} {cs : List Int} (h : Tab N μ x s cs) (hk : Keep S μ μ') (h1 : ∀ j, S j → ¬ isId s j) (h2 : ∀ j, S j → x ≠ .ptr j 0 0) : Tab N μ' x s cs := by
  obtain ⟨id, o, rfl, hN, ho, hv, hc, hr, hi⟩ := h
  exact ⟨id, o, rfl, hN, hk.old id o ho fun h => h2 id h rfl, hv, hc, ownKeep hr hk h1, hi⟩
theorem Tab.same {N : Nat} {μ μ' : AMem} {x s : SV} {cs : List Int} (h : Tab N μ x s cs) (hk : Same μ μ') : Tab N μ' x s cs := h.keep hk (fun _ h => h.elim) (fun _ h => h.elim)
theorem Tab.wrote {N : Nat} {μ μ' : AMem} {x s : SV} {cs ds : List Int} (h : Tab N μ x s cs) (hk : Keep (isId s) μ μ') (hr : OwnRow N μ' .i64 3 s ds) : Tab N μ' x s ds := by
  obtain ⟨id, o, rfl, hN, ho, hv, hc, _, hi⟩ := h
  exact ⟨id, o, rfl, hN, hk.old id o ho hi, hv, hc, hr, hi⟩
theorem Tab.row {N : Nat} {μ : AMem} {x s : SV} {cs : List Int} (h : Tab N μ x s cs) : OwnRow N μ .i64 3 s cs := by
  obtain ⟨id, o, rfl, hN, ho, hv, hc, hr, hi⟩ := h
  exact hr
theorem Tab.less {N M : Nat} {μ : AMem} {x s : SV} {cs : List Int} (h : Tab N μ x s cs) (hM : M ≤ N) : Tab M μ x s cs := by
  obtain ⟨id, o, rfl, hN, ho, hv, hc, hr, hi⟩ := h
  exact ⟨id, o, rfl, by omega, ho, hv, hc, hr.less hM, hi⟩
theorem Tab.nn {N : Nat} {μ : AMem} {x s : SV} {cs : List Int} (h : Tab N μ x s cs) : isNil (.s x) = some false := by
  obtain ⟨id, o, rfl, _⟩ := h; rfl
theorem Tab.ids {N : Nat} {μ : AMem} {x s : SV} {cs : List Int} (h : Tab N μ x s cs) {j : Nat} (hj : isId s j) : N ≤ j := (own_lives h.row hj).1
def mayI (cs : List Int) (i : Int) : Bool := decide (0 ≤ i) && decide (i < cs.length)
theorem mayI_t {cs : List Int} {i : Int} (h : mayI cs i = true) : 0 ≤ i ∧ i < cs.length := by
  simp only [mayI, Bool.and_eq_true, decide_eq_true_eq] at h; exact h
def ofI (cs : List Int) (i : Int) : Int := if mayI cs i then cs.getD i.toNat 0 else 0
def incZ (c : List Int) (i : Int) : List Int := c.set i.toNat (c.getD i.toNat 0 + 1)
def decZ (c : List Int) (i : Int) : List Int := c.set i.toNat (c.getD i.toNat 0 - 1)
def addZ (cs ls : List Int) : List Int := ls.foldl incZ cs
def fits (cs : List Int) (k : Nat) : Prop := ∀ v ∈ cs, 0 ≤ v ∧ v + k ≤ 1000000
def ownF (cs : List Int) : Nat → Nat → List Int
  | 0, _ => []
  | k + 1, i => if cs.getD i 0 > 0 then (i : Int) :: ownF cs k (i + 1) else ownF cs k (i + 1)
def sumR (cs : List Int) : Nat → Int
  | 0 => 0
  | n + 1 => sumR cs n + cs.getD n 0
theorem incZ_len (c : List Int) (i : Int) : (incZ c i).length = c.length := by simp [incZ]
theorem decZ_len (c : List Int) (i : Int) : (decZ c i).length = c.length := by simp [decZ]
theorem addZ_len : ∀ (ls cs : List Int), (addZ cs ls).length = cs.length
  | [], cs => rfl
  | v :: ls, cs => by
    show (addZ (incZ cs v) ls).length = _
    rw [addZ_len ls, incZ_len]
theorem getD_fit {cs : List Int} {k : Nat} (h : fits cs k) (hk : k ≤ 1000000) (i : Nat) : 0 ≤ cs.getD i 0 ∧ cs.getD i 0 + k ≤ 1000000 := by
  rcases Nat.lt_or_ge i cs.length with h1 | h1
  · exact h _ (getD_mem h1)
  · rw [List.getD_eq_getElem?_getD, List.getElem?_eq_none h1]; simp; omega
theorem incZ_fit {c : List Int} {k : Nat} (h : fits c (k + 1)) (hk : k + 1 ≤ 1000000) (i : Int) : fits (incZ c i) k := by
  intro v hv
  have := getD_fit h hk i.toNat
  rcases List.mem_or_eq_of_mem_set hv with h1 | h1
  · have := h v h1; omega
  · rw [h1]; omega
theorem may2_is {N : Nat} {μ : AMem} {x s : SV} {cs : List Int} (h : Tab N μ x s cs) (i : Int) : refs_Table_may [.s x, .s (.int .i64 i)] μ = some (.s (.bool (mayI cs i)), μ) := by
  obtain ⟨id, o, rfl, hN, ho, hv, hc, hr, hi⟩ := h
  have hcell : μ.cell id 0 (0 + 0) = some s := by simp only [AMem.cell, ho, Option.bind_some, hv, if_true]; exact hc
  rw [refs_Table_may_eq]
  unfold mayI
  by_cases h1 : 0 ≤ i
  · rw [decide_eq_true h1, Bool.true_and]
    simp -implicitDefEqProofs (disch := omega) only [lt_t, lt_f, gt_t, gt_f, le_t, le_f, ge_t, ge_f, ne_t, ne_f, eq_t, eq_f, w64, chk_true, Option.bind_some, decide_true, decide_false, cond_true, cond_false, seqJ_n, seqJ_r, seqJ_e, headK_c, asB_bool, asI_int, asS_s, asN_int, extrK_0, extrK_1, extrK_2, Bool.not_true, Bool.not_false, Nat.beq_refl, hcell, hr.row.len]
  · rw [decide_eq_false h1, Bool.false_and]
    simp -implicitDefEqProofs (disch := omega) only [lt_t, lt_f, gt_t, gt_f, le_t, le_f, ge_t, ge_f, ne_t, ne_f, eq_t, eq_f, w64, chk_true, Option.bind_some, decide_true, decide_false, cond_true, cond_false, seqJ_n, seqJ_r, seqJ_e, headK_c, asB_bool, asI_int, asS_s, asN_int, extrK_0, extrK_1, extrK_2, Bool.not_true, Bool.not_false, Nat.beq_refl]
theorem of_is {N : Nat} {μ : AMem} {x s : SV} {cs : List Int} (h : Tab N μ x s cs) (i : Int) : refs_Table_Of [.s x, .s (.int .i64 i)] μ = some (.s (.int .i64 (ofI cs i)), μ) := by
  have hm := may2_is h i
  obtain ⟨id, o, rfl, hN, ho, hv, hc, hr, hi⟩ := h
  have hcell : μ.cell id 0 (0 + 0) = some s := by simp only [AMem.cell, ho, Option.bind_some, hv, if_true]; exact hc
  rw [refs_Table_Of_eq]
  unfold ofI
  cases hmm : mayI cs i
  · rw [hmm] at hm
    simp only [Bool.false_eq_true, if_false]
    simp -implicitDefEqProofs (disch := omega) only [lt_t, lt_f, gt_t, gt_f, le_t, le_f, ge_t, ge_f, ne_t, ne_f, eq_t, eq_f, w64, chk_true, Option.bind_some, decide_true, decide_false, cond_true, cond_false, seqJ_n, seqJ_r, seqJ_e, headK_c, asB_bool, asI_int, asS_s, asN_int, extrK_0, extrK_1, extrK_2, Bool.not_true, Bool.not_false, Nat.beq_refl, hm]
  · rw [hmm] at hm
    have := mayI_t hmm
    simp only [if_true]
    simp -implicitDefEqProofs (disch := omega) only [lt_t, lt_f, gt_t, gt_f, le_t, le_f, ge_t, ge_f, ne_t, ne_f, eq_t, eq_f, w64, chk_true, Option.bind_some, decide_true, decide_false, cond_true, cond_false, seqJ_n, seqJ_r, seqJ_e, headK_c, asB_bool, asI_int, asS_s, asN_int, extrK_0, extrK_1, extrK_2, Bool.not_true, Bool.not_false, Nat.beq_refl, hm, hcell, hr.row.ind, hr.row.load]
theorem drop_is {N : Nat} {μ : AMem} (hw : WF μ) {x s : SV} {cs : List Int} (h : Tab N μ x s cs) (hf : fits cs 0) (i : Int) :
    (ofI cs i = 0 → refs_Table_Drop [.s x, .s (.int .i64 i)] μ = some (.tuple [.s (.int .i64 0), .s (.bool false)], μ)) ∧
    (ofI cs i ≠ 0 → ∃ μ', refs_Table_Drop [.s x, .s (.int .i64 i)] μ = some (.tuple [.s (.int .i64 (ofI cs i - 1)), .s (.bool true)], μ') ∧ Keep (isId s) μ μ' ∧ Tab N μ' x s (decZ cs i)) := by
  have ho := of_is h i
  refine ⟨fun h0 => ?_, fun h0 => ?_⟩
  · rw [h0] at ho
    obtain ⟨id, o, rfl, _⟩ := h
    rw [refs_Table_Drop_eq]
    have t0 : ((0 : Int) == 0) = true := rfl
    simp -implicitDefEqProofs only [ho, t0, Option.bind_some, decide_true, decide_false, cond_true, cond_false, seqJ_n, seqJ_r, seqJ_e, headK_c, asB_bool, asI_int, asS_s, asN_int, extrK_0, extrK_1, extrK_2, Bool.not_true, Bool.not_false, Nat.beq_refl]
  · have hm : mayI cs i = true := by
      cases hmm : mayI cs i
      · exact absurd (by unfold ofI; rw [hmm]; rfl) h0
      · rfl
    have hmi := mayI_t hm
    have hof : ofI cs i = cs.getD i.toNat 0 := by unfold ofI; rw [if_pos hm]
    have hg := getD_fit hf (by omega) i.toNat
    obtain ⟨μ', s1, s2, s3, s4⟩ := storeK hw h.row (i := i.toNat) (by omega) (cs.getD i.toNat 0 - 1)
    have hti : ((i.toNat : Nat) : Int) = i := by omega
    rw [hti] at s1
    have h' := h.wrote s2 s3
    obtain ⟨id, o, rfl, hN, hob, hv, hc, hr, hi⟩ := h
    have hcell : μ.cell id 0 (0 + 0) = some s := by simp only [AMem.cell, hob, Option.bind_some, hv, if_true]; exact hc
    have hcell' : μ'.cell id 0 (0 + 0) = some s := by simp only [AMem.cell, s2.old id o hob hi, Option.bind_some, hv, if_true]; exact hc
    have hlen : ((cs.set i.toNat (cs.getD i.toNat 0 - 1)).length : Int) = cs.length := by simp
    have hset : (cs.set i.toNat (cs.getD i.toNat 0 - 1)).getD i.toNat 0 = cs.getD i.toNat 0 - 1 := by
      rw [List.getD_eq_getElem?_getD, List.getElem?_set_self (by omega)]; rfl
    have hi2 := fun {R : Type} (K : AV → Option R) => s3.row.ind (i := i) (by omega) (by omega) K
    have hl2 := fun {R : Type} (K : AV → Option R) => s3.row.load (i := i) (by omega) (by omega) K
    rw [hset] at hl2
    have hb : (ofI cs i == 0) = false := by simp [h0]
    have hwr : IntKind.wrap .i64 (cs.getD i.toNat 0 - 1) = cs.getD i.toNat 0 - 1 := wr (by omega)
    have hi1 := fun {R : Type} (K : AV → Option R) => hr.row.ind (i := i) (by omega) (by omega) K
    have hl1 := fun {R : Type} (K : AV → Option R) => hr.row.load (i := i) (by omega) (by omega) K
    refine ⟨μ', ?_, s2, h'⟩
    rw [refs_Table_Drop_eq]
    simp -implicitDefEqProofs only [ho, hb, hcell, hi1, hl1, hwr, s1, hcell', hl2, Option.bind_some, decide_true, decide_false, cond_true, cond_false, seqJ_n, seqJ_r, seqJ_e, headK_c, asB_bool, asI_int, asS_s, asN_int, extrK_0, extrK_1, extrK_2, Bool.not_true, Bool.not_false, Nat.beq_refl]
    rw [hof]
theorem addMay_loop {N : Nat} {μ : AMem} {x s y : SV} {cs ls : List Int} (h : Tab N μ x s cs) (hy : IsRow μ .i64 y ls) (hb : ls.length ≤ 100000) :
    ∀ k j : Nat, j + k = ls.length → refs_Table_Add_L1 [.s x, .s y, .s y, .s (.int .i64 ls.length)] [.s (.int .i64 j)] μ = if (ls.drop j).all (mayI cs) then some (.exit 0, [.s x, .s y], μ) else some (.ret, [.s (.bool false)], μ)
  | 0, j, hj => by
    obtain ⟨id, o, rfl, _⟩ := h
    rw [refs_Table_Add_L1_eq, refs_Table_Add_L1_B_eq, List.drop_eq_nil_of_le (by omega)]
    simp -implicitDefEqProofs (disch := omega) only [lt_t, lt_f, gt_t, gt_f, le_t, le_f, ge_t, ge_f, ne_t, ne_f, eq_t, eq_f, w64, chk_true, Option.bind_some, decide_true, decide_false, cond_true, cond_false, seqJ_n, seqJ_r, seqJ_e, headK_c, asB_bool, asI_int, asS_s, asN_int, extrK_0, extrK_1, extrK_2, Bool.not_true, Bool.not_false, Nat.beq_refl, List.all_nil, if_true]
  | k + 1, j, hj => by
    have ih := addMay_loop h hy hb k (j + 1) (by omega)
    rw [nsu] at ih
    have hm := may2_is h (ls.getD j 0)
    obtain ⟨id, o, rfl, _⟩ := h
    rw [refs_Table_Add_L1_eq, refs_Table_Add_L1_B_eq, drop_cons (i := j) (by omega)]
    cases hmm : mayI cs (ls.getD j 0)
    · rw [hmm] at hm
      simp -implicitDefEqProofs (disch := omega) only [lt_t, lt_f, gt_t, gt_f, le_t, le_f, ge_t, ge_f, ne_t, ne_f, eq_t, eq_f, w64, chk_true, Option.bind_some, decide_true, decide_false, cond_true, cond_false, seqJ_n, seqJ_r, seqJ_e, headK_c, asB_bool, asI_int, asS_s, asN_int, extrK_0, extrK_1, extrK_2, Bool.not_true, Bool.not_false, Nat.beq_refl, hy.ind, hy.load, nat_toNat, hm, hmm, List.all_cons, Bool.false_and, Bool.false_eq_true, if_false]
    · rw [hmm] at hm
      simp -implicitDefEqProofs (disch := omega) only [lt_t, lt_f, gt_t, gt_f, le_t, le_f, ge_t, ge_f, ne_t, ne_f, eq_t, eq_f, w64, chk_true, Option.bind_some, decide_true, decide_false, cond_true, cond_false, seqJ_n, seqJ_r, seqJ_e, headK_c, asB_bool, asI_int, asS_s, asN_int, extrK_0, extrK_1, extrK_2, Bool.not_true, Bool.not_false, Nat.beq_refl, hy.ind, hy.load, nat_toNat, hm, hmm, List.all_cons, Bool.true_and]
      exact ih
theorem addInc_loop {N : Nat} {x s y : SV} {ls : List Int} {n : Nat} (hls : ∀ v ∈ ls, 0 ≤ v ∧ v < n) (hb : ls.length ≤ 100000) (hap : Apart s y) :
    ∀ (k j : Nat) (μ : AMem) (c : List Int), j + k = ls.length → c.length = n → fits c k → WF μ → Tab N μ x s c → IsRow μ .i64 y ls →
      ∃ μ', refs_Table_Add_L2 [.s x, .s y, .s (.int .i64 ls.length)] [.s (.int .i64 j)] μ = some (.exit 2, [], μ') ∧ Keep (isId s) μ μ' ∧ Tab N μ' x s (addZ c (ls.drop j))
  | 0, j, μ, c, hj, hc, hf, hw, h, hy => by
    rw [refs_Table_Add_L2_eq, refs_Table_Add_L2_B_eq, List.drop_eq_nil_of_le (by omega)]
    simp -implicitDefEqProofs (disch := omega) only [lt_t, lt_f, gt_t, gt_f, le_t, le_f, ge_t, ge_f, ne_t, ne_f, eq_t, eq_f, w64, chk_true, Option.bind_some, decide_true, decide_false, cond_true, cond_false, seqJ_n, seqJ_r, seqJ_e, headK_c, asB_bool, asI_int, asS_s, asN_int, extrK_0, extrK_1, extrK_2, Bool.not_true, Bool.not_false, Nat.beq_refl]
    exact ⟨μ, rfl, Keep.refl hw, h⟩
  | k + 1, j, μ, c, hj, hc, hf, hw, h, hy => by
    have hv := hls _ (getD_mem (zs := ls) (i := j) (by omega))
    have hg := getD_fit hf (by omega) (ls.getD j 0).toNat
    obtain ⟨m1, s1, s2, s3, s4⟩ := storeK hw h.row (i := (ls.getD j 0).toNat) (by omega) (c.getD (ls.getD j 0).toNat 0 + 1)
    have hti : (((ls.getD j 0).toNat : Nat) : Int) = ls.getD j 0 := by omega
    rw [hti] at s1
    have h' := h.wrote s2 s3
    obtain ⟨μ', q1, q2, q3⟩ := addInc_loop hls hb hap k (j + 1) m1 (incZ c (ls.getD j 0)) (by omega) (by rw [incZ_len]; exact hc) (incZ_fit hf (by omega) _) s2.wf h' (rowKeep hy s2 hap)
    rw [nsu] at q1
    rw [drop_cons (i := j) (by omega)]
    obtain ⟨id, o, rfl, hN, hob, hver, hcl, hr, hi⟩ := h
    have hcell : μ.cell id 0 (0 + 0) = some s := by simp only [AMem.cell, hob, Option.bind_some, hver, if_true]; exact hcl
    refine ⟨μ', ?_, s2.trans q2, q3⟩
    rw [refs_Table_Add_L2_eq, refs_Table_Add_L2_B_eq]
    simp -implicitDefEqProofs (disch := omega) only [lt_t, lt_f, gt_t, gt_f, le_t, le_f, ge_t, ge_f, ne_t, ne_f, eq_t, eq_f, w64, chk_true, Option.bind_some, decide_true, decide_false, cond_true, cond_false, seqJ_n, seqJ_r, seqJ_e, headK_c, asB_bool, asI_int, asS_s, asN_int, extrK_0, extrK_1, extrK_2, Bool.not_true, Bool.not_false, Nat.beq_refl, hy.ind, hy.load, nat_toNat, nonNil_ptr, ptrAdd_p, loadAt_p, hcell, hr.row.ind, hr.row.load, s1]
    exact q1
theorem add_is {N : Nat} {μ : AMem} (hw : WF μ) {x s y : SV} {cs ls : List Int} (h : Tab N μ x s cs) (hy : IsRow μ .i64 y ls) (hap : Apart s y) (hb : ls.length ≤ 100000) (hf : fits cs ls.length) :
    (ls.all (mayI cs) = false → refs_Table_Add [.s x, .s y] μ = some (.s (.bool false), μ)) ∧
    (ls.all (mayI cs) = true → ∃ μ', refs_Table_Add [.s x, .s y] μ = some (.s (.bool true), μ') ∧ Keep (isId s) μ μ' ∧ Tab N μ' x s (addZ cs ls)) := by
  have hl1 := addMay_loop h hy hb _ 0 (Nat.zero_add _)
  rw [n0, List.drop_zero] at hl1
  refine ⟨fun ha => ?_, fun ha => ?_⟩
  · rw [ha] at hl1
    simp only [Bool.false_eq_true, if_false] at hl1
    obtain ⟨id, o, rfl, _⟩ := h
    rw [refs_Table_Add_eq]
    simp -implicitDefEqProofs only [hy.len, hl1, Option.bind_some, decide_true, decide_false, cond_true, cond_false, seqJ_n, seqJ_r, seqJ_e, headK_c, asB_bool, asI_int, asS_s, asN_int, extrK_0, extrK_1, extrK_2, Bool.not_true, Bool.not_false, Nat.beq_refl]
  · rw [ha] at hl1
    simp only [if_true] at hl1
    obtain ⟨μ', q1, q2, q3⟩ := addInc_loop (n := cs.length) (fun v hv => mayI_t (List.all_eq_true.mp ha v hv)) hb hap _ 0 μ cs (Nat.zero_add _) rfl hf hw h hy
    rw [n0] at q1
    refine ⟨μ', ?_, q2, q3⟩
    obtain ⟨id, o, rfl, _⟩ := h
    rw [refs_Table_Add_eq]
    simp -implicitDefEqProofs only [hy.len, hl1, q1, Option.bind_some, decide_true, decide_false, cond_true, cond_false, seqJ_n, seqJ_r, seqJ_e, headK_c, asB_bool, asI_int, asS_s, asN_int, extrK_0, extrK_1, extrK_2, Bool.not_true, Bool.not_false, Nat.beq_refl]
theorem sumR_le {cs : List Int} (hf : fits cs 0) : ∀ n : Nat, 0 ≤ sumR cs n ∧ sumR cs n ≤ 1000000 * n
  | 0 => by simp [sumR]
  | n + 1 => by
    have := sumR_le hf n
    have := getD_fit hf (by omega) n
    rw [sumR]; omega
theorem new_is {μ : AMem} (hw : WF μ) {n : Nat} (hn : 1 ≤ n ∧ n ≤ 4096) :
    ∃ x s μ', refs_New [.s (.int .i64 n)] μ = some (.tuple [.s x, .s (.int .i64 0)], μ') ∧ Same μ μ' ∧ Tab μ.next μ' x s (List.replicate n 0) := by
  have hif : 0 ≤ (n : Int) ∧ (n : Int) ≤ (n : Int) ∧ (n : Int) ≤ 9223372036854775807 ∧ ((8 : Nat) : Int) * (n : Int) ≤ 140737488355328 := by omega
  have q1 := lt_f (a := (n : Int)) (b := 1) (by omega)
  have q2 := gt_f (a := (n : Int)) (b := 4096) (by omega)
  refine ⟨.ptr (μ.next + 3) 0 0, .slice (μ.next + 1) 0 0 n, _, ?_, Keep.setS hw (Keep.setS hw (Keep.bump (S := fun _ => False) hw 6) (i := μ.next + 1) (o := rowObj (zerosA [.int .i64 0] n) 1 3 (some n)) (by omega) (by simp)) (i := μ.next + 3) (o := rowObj [.slice (μ.next + 1) 0 0 n] 1 44 (some 1)) (by omega) (by simp), ?_⟩
  · rw [refs_New_eq]
    simp -implicitDefEqProofs only [q1, q2, Option.bind_some, decide_true, decide_false, cond_true, cond_false, seqJ_n, seqJ_r, seqJ_e, headK_c, asB_bool, asI_int, asS_s, asN_int, extrK_0, extrK_1, extrK_2, Bool.not_true, Bool.not_false, Nat.beq_refl]
    rw [if_pos hif]
    rfl
  · refine ⟨μ.next + 3, rowObj [.slice (μ.next + 1) 0 0 n] 1 44 (some 1), rfl, by omega, by simp, rfl, rfl, ?_, fun h => ?_⟩
    · exact OwnRow.new (o := rowObj (zerosA [.int .i64 0] n) 1 3 (some n)) (by simp) (by omega) (by simp) rfl rfl rfl rfl (by show zerosA _ _ = _; rw [zerosA_rep]; simp)
    · have : μ.next + 1 = μ.next + 3 := h
      omega
end Go.Proofs.Ytmmikeabacodnaa
/- Tables: who has one, all counts. -/
namespace Go.Proofs.Ytmmikeabacodnaa
open Go Go.Proofs.Ytmmikeabacodnaa.E
set_option linter.unusedVariables false
set_option linter.unusedSimpArgs false
theorem owned_loop {μ0 : AMem} (h0 : WF μ0) {s : SV} {cs : List Int} (hr : IsRow μ0 .i64 s cs) (hb : cs.length ≤ 100000) :
    ∀ (k i : Nat) (μ : AMem) (y : SV) (zs : List Int), i + k = cs.length → zs.length ≤ i → Same μ0 μ → OwnRow μ0.next μ .i64 3 y zs →
      ∃ y' μ', refs_Table_Owned_L1 [.s s, .s (.int .i64 cs.length)] [.s y, .s (.int .i64 i)] μ = some (.exit 0, [.s y'], μ') ∧ Same μ0 μ' ∧ OwnRow μ0.next μ' .i64 3 y' (zs ++ ownF cs k i)
  | 0, i, μ, y, zs, h, hl, hs, hy => by
    rw [refs_Table_Owned_L1_eq, refs_Table_Owned_L1_B_eq, ownF, List.append_nil]
    simp -implicitDefEqProofs (disch := omega) only [lt_t, lt_f, gt_t, gt_f, le_t, le_f, ge_t, ge_f, ne_t, ne_f, eq_t, eq_f, w64, chk_true, Option.bind_some, decide_true, decide_false, cond_true, cond_false, seqJ_n, seqJ_r, seqJ_e, headK_c, asB_bool, asI_int, asS_s, asN_int, extrK_0, extrK_1, extrK_2, Bool.not_true, Bool.not_false, Nat.beq_refl]
    exact ⟨y, μ, rfl, hs, hy⟩
  | k + 1, i, μ, y, zs, h, hl, hs, hy => by
    have hr1 := hr.same hs
    rw [refs_Table_Owned_L1_eq, refs_Table_Owned_L1_B_eq, ownF]
    by_cases c1 : cs.getD i 0 > 0
    · obtain ⟨y', μ', p1, p2, p3⟩ := pushS (B := 8) (a := 2) (b := 3) (n := 5) (q := some 1) h0 hs hy (i : Int) (by omega) (by omega) (by omega) (by omega) (by omega)
      obtain ⟨y2, μ2, q1, q2, q3⟩ := owned_loop h0 hr hb k (i + 1) μ' y' _ (by omega) (by simp; omega) p2 p3
      rw [nsu] at q1
      rw [List.append_assoc] at q3
      rw [if_pos c1]
      refine ⟨y2, μ2, ?_, q2, q3⟩
      simp -implicitDefEqProofs (disch := omega) only [lt_t, lt_f, gt_t, gt_f, le_t, le_f, ge_t, ge_f, ne_t, ne_f, eq_t, eq_f, w64, chk_true, Option.bind_some, decide_true, decide_false, cond_true, cond_false, seqJ_n, seqJ_r, seqJ_e, headK_c, asB_bool, asI_int, asS_s, asN_int, extrK_0, extrK_1, extrK_2, Bool.not_true, Bool.not_false, Nat.beq_refl, hr1.ind, hr1.load, nat_toNat, p1]
      exact q1
    · obtain ⟨y2, μ2, q1, q2, q3⟩ := owned_loop h0 hr hb k (i + 1) μ y zs (by omega) (by omega) hs hy
      rw [nsu] at q1
      rw [if_neg c1]
      refine ⟨y2, μ2, ?_, q2, q3⟩
      simp -implicitDefEqProofs (disch := omega) only [lt_t, lt_f, gt_t, gt_f, le_t, le_f, ge_t, ge_f, ne_t, ne_f, eq_t, eq_f, w64, chk_true, Option.bind_some, decide_true, decide_false, cond_true, cond_false, seqJ_n, seqJ_r, seqJ_e, headK_c, asB_bool, asI_int, asS_s, asN_int, extrK_0, extrK_1, extrK_2, Bool.not_true, Bool.not_false, Nat.beq_refl, hr1.ind, hr1.load, nat_toNat]
      exact q1
theorem owned_is {N : Nat} {μ : AMem} (hw : WF μ) {x s : SV} {cs : List Int} (h : Tab N μ x s cs) (hb : cs.length ≤ 100000) :
    ∃ y μ', refs_Table_Owned [.s x] μ = some (.s y, μ') ∧ Same μ μ' ∧ OwnRow μ.next μ' .i64 3 y (ownF cs cs.length 0) := by
  obtain ⟨y, μ', q1, q2, q3⟩ := owned_loop hw h.row.row hb _ 0 μ .nilSlice [] (Nat.zero_add _) (by simp) (Keep.refl hw) (OwnRow.nil _ _ _ _)
  rw [n0] at q1
  rw [List.nil_append] at q3
  obtain ⟨id, o, rfl, hN, hob, hver, hcl, hr, hi⟩ := h
  have hcell : μ.cell id 0 (0 + 0) = some s := by simp only [AMem.cell, hob, Option.bind_some, hver, if_true]; exact hcl
  refine ⟨y, μ', ?_, q2, q3⟩
  rw [refs_Table_Owned_eq]
  simp -implicitDefEqProofs only [hcell, hr.row.len, q1, Option.bind_some, decide_true, decide_false, cond_true, cond_false, seqJ_n, seqJ_r, seqJ_e, headK_c, asB_bool, asI_int, asS_s, asN_int, extrK_0, extrK_1, extrK_2, Bool.not_true, Bool.not_false, Nat.beq_refl]
theorem sum_loop {μ : AMem} {s : SV} {cs : List Int} (hr : IsRow μ .i64 s cs) (hb : cs.length ≤ 100000) (hf : fits cs 0) :
    ∀ k i : Nat, i + k = cs.length → refs_Table_Sum_L1 [.s s, .s (.int .i64 cs.length)] [.s (.int .i64 (sumR cs i)), .s (.int .i64 i)] μ = some (.exit 0, [.s (.int .i64 (sumR cs cs.length))], μ)
  | 0, i, h => by
    obtain rfl : i = cs.length := by omega
    rw [refs_Table_Sum_L1_eq, refs_Table_Sum_L1_B_eq]
    simp -implicitDefEqProofs (disch := omega) only [lt_t, lt_f, gt_t, gt_f, le_t, le_f, ge_t, ge_f, ne_t, ne_f, eq_t, eq_f, w64, chk_true, Option.bind_some, decide_true, decide_false, cond_true, cond_false, seqJ_n, seqJ_r, seqJ_e, headK_c, asB_bool, asI_int, asS_s, asN_int, extrK_0, extrK_1, extrK_2, Bool.not_true, Bool.not_false, Nat.beq_refl]
  | k + 1, i, h => by
    have ih := sum_loop hr hb hf k (i + 1) (by omega)
    rw [nsu] at ih
    have h1 := sumR_le hf i
    have h2 := getD_fit hf (by omega) i
    rw [refs_Table_Sum_L1_eq, refs_Table_Sum_L1_B_eq]
    simp -implicitDefEqProofs (disch := omega) only [lt_t, lt_f, gt_t, gt_f, le_t, le_f, ge_t, ge_f, ne_t, ne_f, eq_t, eq_f, w64, chk_true, Option.bind_some, decide_true, decide_false, cond_true, cond_false, seqJ_n, seqJ_r, seqJ_e, headK_c, asB_bool, asI_int, asS_s, asN_int, extrK_0, extrK_1, extrK_2, Bool.not_true, Bool.not_false, Nat.beq_refl, hr.ind, hr.load, nat_toNat]
    exact ih
theorem sum_is {N : Nat} {μ : AMem} {x s : SV} {cs : List Int} (h : Tab N μ x s cs) (hb : cs.length ≤ 100000) (hf : fits cs 0) :
    refs_Table_Sum [.s x] μ = some (.s (.int .i64 (sumR cs cs.length)), μ) := by
  have q1 := sum_loop h.row.row hb hf _ 0 (Nat.zero_add _)
  rw [n0, show sumR cs 0 = 0 from rfl] at q1
  obtain ⟨id, o, rfl, hN, hob, hver, hcl, hr, hi⟩ := h
  have hcell : μ.cell id 0 (0 + 0) = some s := by simp only [AMem.cell, hob, Option.bind_some, hver, if_true]; exact hcl
  rw [refs_Table_Sum_eq]
  simp -implicitDefEqProofs only [hcell, hr.row.len, q1, Option.bind_some, decide_true, decide_false, cond_true, cond_false, seqJ_n, seqJ_r, seqJ_e, headK_c, asB_bool, asI_int, asS_s, asN_int, extrK_0, extrK_1, extrK_2, Bool.not_true, Bool.not_false, Nat.beq_refl]
end Go.Proofs.Ytmmikeabacodnaa
/- Tables in a law: additions of literals, drops; laws of counts. -/
namespace Go.Proofs.Ytmmikeabacodnaa
open Go Go.Proofs.Ytmmikeabacodnaa.E
set_option linter.unusedVariables false
set_option linter.unusedSimpArgs false
theorem apart_fresh {N : Nat} {m : AMem} (hw : WF m) {k : IntKind} {e : TypeId} {s : SV} {cs : List Int} (h : OwnRow N m k e s cs) (a v o l : Nat) : Apart s (.slice (m.next + a) v o l) := fun id h1 h2 => by
  obtain ⟨_, ob, ho⟩ := own_lives h h1
  have := hw.lt ho
  have : m.next + a = id := h2
  omega
theorem tab_same {μ0 m m' : AMem} (h0 : WF μ0) (hs : Same μ0 m) {x s : SV} {cs : List Int} (h : Tab μ0.next m x s cs) (hk : Keep (isId s) m m') : Same μ0 m' := keepSame h0 hs hk fun j hj => h.ids hj
theorem addS {μ0 m : AMem} (h0 : WF μ0) (hs : Same μ0 m) {x s y : SV} {cs ls : List Int} (h : Tab μ0.next m x s cs) (hy : IsRow m .i64 y ls) (hap : Apart s y) (hb : ls.length ≤ 100000) (hf : fits cs ls.length) :
    (ls.all (mayI cs) = false → refs_Table_Add [.s x, .s y] m = some (.s (.bool false), m)) ∧
    (ls.all (mayI cs) = true → ∃ m', refs_Table_Add [.s x, .s y] m = some (.s (.bool true), m') ∧ Same μ0 m' ∧ Tab μ0.next m' x s (addZ cs ls) ∧ Keep (isId s) m m') := by
  have ha := add_is hs.wf h hy hap hb hf
  refine ⟨ha.1, fun hall => ?_⟩
  obtain ⟨m', q1, q2, q3⟩ := ha.2 hall
  exact ⟨m', q1, tab_same h0 hs h q2, q3, q2⟩
theorem add1 {μ0 m : AMem} (h0 : WF μ0) (hs : Same μ0 m) {x s : SV} {cs : List Int} (h : Tab μ0.next m x s cs) {n a : Nat} (ha : a < n) (v : Int) (hf : fits cs 1) :
    (mayI cs v = false → refs_Table_Add [.s x, .s (.slice (m.next + a) 0 0 1)] ((m.bump n).set (m.next + a) (rowObj [.int .i64 v] 1 3 (some 1))) = some (.s (.bool false), (m.bump n).set (m.next + a) (rowObj [.int .i64 v] 1 3 (some 1)))) ∧
    (mayI cs v = true → ∃ m', refs_Table_Add [.s x, .s (.slice (m.next + a) 0 0 1)] ((m.bump n).set (m.next + a) (rowObj [.int .i64 v] 1 3 (some 1))) = some (.s (.bool true), m') ∧ Same μ0 m' ∧ Tab μ0.next m' x s (incZ cs v)) := by
  have k := Same.bumpSet hs.wf ha (rowObj [.int .i64 v] 1 3 (some 1))
  have hy : IsRow ((m.bump n).set (m.next + a) (rowObj [.int .i64 v] 1 3 (some 1))) .i64 (.slice (m.next + a) 0 0 1) [v] := IsRow.made (o := rowObj [.int .i64 v] 1 3 (some 1)) (by simp) rfl rfl rfl
  have hadd := addS h0 (hs.trans k) (h.same k) hy (apart_fresh hs.wf h.row _ _ _ _) (by simp) (by simpa using hf)
  refine ⟨fun hm => hadd.1 (by simp [hm]), fun hm => ?_⟩
  obtain ⟨m', q1, q2, q3, _⟩ := hadd.2 (by simp [hm])
  exact ⟨m', q1, q2, q3⟩
theorem dropS {μ0 m : AMem} (h0 : WF μ0) (hs : Same μ0 m) {x s : SV} {cs : List Int} (h : Tab μ0.next m x s cs) (hf : fits cs 0) (i : Int) (hn : ofI cs i ≠ 0) :
    ∃ m', refs_Table_Drop [.s x, .s (.int .i64 i)] m = some (.tuple [.s (.int .i64 (ofI cs i - 1)), .s (.bool true)], m') ∧ Same μ0 m' ∧ Tab μ0.next m' x s (decZ cs i) ∧ Keep (isId s) m m' := by
  obtain ⟨m', q1, q2, q3⟩ := (drop_is hs.wf h hf i).2 hn
  exact ⟨m', q1, tab_same h0 hs h q2, q3, q2⟩
theorem getD_set_self {c : List Int} {i : Nat} (h : i < c.length) (v : Int) : (c.set i v).getD i 0 = v := by
  rw [List.getD_eq_getElem?_getD, List.getElem?_set_self h]; rfl
theorem getD_set_ne {c : List Int} {i j : Nat} (h : i ≠ j) (v : Int) : (c.set i v).getD j 0 = c.getD j 0 := by
  rw [List.getD_eq_getElem?_getD, List.getD_eq_getElem?_getD, List.getElem?_set_ne h]
theorem set_getD {c : List Int} {i : Nat} : c.set i (c.getD i 0) = c := by
  rcases Nat.lt_or_ge i c.length with h | h
  · rw [getD_lt h, List.set_getElem_self]
  · rw [List.set_eq_of_length_le h]
theorem dec_inc {c : List Int} {i : Int} (h : i.toNat < c.length) : decZ (incZ c i) i = c := by
  unfold decZ incZ
  rw [getD_set_self h, List.set_set, show c.getD i.toNat 0 + 1 - 1 = c.getD i.toNat 0 by omega, set_getD]
theorem addZ_snoc (cs ls : List Int) (v : Int) : addZ cs (ls ++ [v]) = incZ (addZ cs ls) v := by
  unfold addZ; rw [List.foldl_append]; rfl
theorem addZ_append (cs ls ms : List Int) : addZ cs (ls ++ ms) = addZ (addZ cs ls) ms := by
  unfold addZ; rw [List.foldl_append]
theorem inc_comm (c : List Int) (i j : Int) : incZ (incZ c i) j = incZ (incZ c j) i := by
  by_cases h : i.toNat = j.toNat
  · unfold incZ; rw [h]
  · unfold incZ
    rw [getD_set_ne h, getD_set_ne (fun e => h e.symm), List.set_comm _ _ h]
theorem inc_add (v : Int) : ∀ (l c : List Int), incZ (addZ c l) v = addZ (incZ c v) l
  | [], c => rfl
  | w :: l, c => by
    show incZ (addZ (incZ c w) l) v = addZ (incZ (incZ c v) w) l
    rw [inc_add v l, inc_comm]
theorem addZ_reverse : ∀ (l c : List Int), addZ c l.reverse = addZ c l
  | [], c => rfl
  | v :: l, c => by
    rw [List.reverse_cons, addZ_snoc, addZ_reverse l, inc_add]; rfl
theorem sumR_set {c : List Int} {i : Nat} (v : Int) : ∀ n : Nat, n ≤ c.length → sumR (c.set i v) n = if i < n then sumR c n + v - c.getD i 0 else sumR c n
  | 0, _ => by simp [sumR]
  | n + 1, h => by
    have ih := sumR_set (c := c) (i := i) v n (by omega)
    rw [sumR, sumR, ih]
    by_cases h1 : i = n
    · subst h1
      rw [if_neg (by omega), if_pos (by omega), getD_set_self (c := c) (by omega)]; omega
    · rw [getD_set_ne h1]
      by_cases h2 : i < n
      · rw [if_pos h2, if_pos (by omega)]; omega
      · rw [if_neg h2, if_neg (by omega)]
theorem sumR_inc {c : List Int} {i : Int} (h : i.toNat < c.length) : sumR (incZ c i) c.length = sumR c c.length + 1 := by
  unfold incZ; rw [sumR_set _ _ (Nat.le_refl _), if_pos h]; omega
theorem sumR_add {n : Nat} : ∀ (l c : List Int), c.length = n → (∀ v ∈ l, 0 ≤ v ∧ v < n) → sumR (addZ c l) n = sumR c n + l.length
  | [], c, _, _ => by simp [addZ]
  | v :: l, c, hc, h => by
    show sumR (addZ (incZ c v) l) n = _
    have hv := h v (List.mem_cons_self ..)
    rw [sumR_add l (incZ c v) (by rw [incZ_len]; exact hc) (fun w hw => h w (List.mem_cons_of_mem _ hw))]
    have := sumR_inc (c := c) (i := v) (by omega)
    rw [hc] at this
    rw [this]; simp; omega
theorem sumR_zero (n : Nat) : ∀ m, sumR (List.replicate n 0) m = 0
  | 0 => rfl
  | m + 1 => by
    have : (List.replicate n (0 : Int)).getD m 0 = 0 := by rw [List.getD_eq_getElem?_getD, List.getElem?_replicate]; split <;> rfl
    rw [sumR, sumR_zero n m, this]; rfl
theorem fits_zero (n k : Nat) (h : k ≤ 1000000) : fits (List.replicate n 0) k := fun v hv => by rw [(List.mem_replicate.mp hv).2]; omega
theorem fits_add {k : Nat} : ∀ (l c : List Int), fits c (l.length + k) → l.length + k ≤ 1000000 → fits (addZ c l) k
  | [], c, h, _ => by
    show fits c k
    simpa using h
  | v :: l, c, h, hk => by
    show fits (addZ (incZ c v) l) k
    simp only [List.length_cons] at h hk
    have e : l.length + 1 + k = (l.length + k) + 1 := by omega
    rw [e] at h
    exact fits_add l _ (incZ_fit h (by omega) v) (by omega)
theorem fits_less {c : List Int} {k j : Nat} (h : fits c k) (hj : j ≤ k) : fits c j := fun v hv => by have := h v hv; omega
theorem all_may {c l : List Int} (h : ∀ v ∈ l, 0 ≤ v ∧ v < c.length) : l.all (mayI c) = true := by
  rw [List.all_eq_true]
  intro v hv
  have := h v hv
  unfold mayI; rw [decide_eq_true this.1, decide_eq_true this.2]; rfl
end Go.Proofs.Ytmmikeabacodnaa
/- What Within comes to. -/
namespace Go.Proofs.Ytmmikeabacodnaa
open Go Go.Proofs.Ytmmikeabacodnaa.E
set_option linter.unusedVariables false
set_option linter.unusedSimpArgs false
theorem within_is (p n : Int) (hp : -9223372036854775808 ≤ p ∧ p ≤ 9223372036854775807) (hn : 1 ≤ n) (hn2 : n ≤ 4611686018427387904) (μ : AMem) :
    overdubkeep_Within [.s (.int .i64 p), .s (.int .i64 n)] μ = some (.s (.int .i64 (p % n)), μ) := by
  rw [overdubkeep_Within_eq]
  have h1 : ¬ n < 1 := by omega
  have h2 : ¬ n = 0 := by omega
  have hlt := Int.emod_lt_of_pos p (show 0 < n by omega)
  have hge := Int.emod_nonneg p h2
  have ht : Int.tmod p n = if 0 ≤ p ∨ p % n = 0 then p % n else p % n - n := by
    rw [Int.tmod_eq_emod]
    by_cases h : 0 ≤ p
    · simp [h]
    · by_cases h3 : p % n = 0
      · have : n ∣ p := Int.dvd_of_emod_eq_zero h3
        simp [h3, this]
      · have : ¬ n ∣ p := fun hd => h3 (Int.emod_eq_zero_of_dvd hd)
        simp [h, this, h3]; omega
  rw [ht]
  by_cases h : 0 ≤ p ∨ p % n = 0
  · have : ¬ p % n < 0 := by omega
    simp [h1, h2, h, this]
  · have h4 : p % n - n < 0 := by omega
    simp only [h, if_false, h4, h1, h2, decide_true, decide_false, cond_true, cond_false, seqJ_n, headK_c, asI_int]
    rw [wr (by omega)]
    congr 4; omega
end Go.Proofs.Ytmmikeabacodnaa
/- What Same comes to. -/
namespace Go.Proofs.Ytmmikeabacodnaa
open Go Go.Proofs.Ytmmikeabacodnaa.E
set_option linter.unusedVariables false
set_option linter.unusedSimpArgs false
theorem same_loop {μ : AMem} {x y : SV} {zs ws : List Int} (hx : IsRow μ .i64 x zs) (hy : IsRow μ .i64 y ws) (hl : zs.length = ws.length) (hb : zs.length ≤ 4611686018427387904) :
    ∀ k i : Nat, i + k = zs.length → overdubkeep_Same_int_L1 [.s x, .s y] [.s (.int .i64 i)] μ = if zs.drop i = ws.drop i then some (.exit 0, [], μ) else some (.ret, [.s (.bool false)], μ)
  | 0, i, h => by
    have h1 : ¬ (i : Int) < (zs.length : Int) := by omega
    rw [overdubkeep_Same_int_L1_eq, overdubkeep_Same_int_L1_B_eq, hx.len]
    rw [List.drop_eq_nil_of_le (by omega), List.drop_eq_nil_of_le (by omega), if_pos rfl]
    simp only [h1, Option.bind_some, decide_true, decide_false, cond_true, cond_false, seqJ_n, seqJ_r, seqJ_e, headK_c, asB_bool, asI_int, asS_s, asN_int, Bool.not_true, Bool.not_false, Nat.beq_refl]
  | k + 1, i, h => by
    have ih := same_loop hx hy hl hb k (i + 1) (by omega)
    have h1 : (i : Int) < (zs.length : Int) := by omega
    have e1 : IntKind.wrap .i64 ((i : Int) + 1) = ((i + 1 : Nat) : Int) := by rw [wr (by omega)]; omega
    have e3 : (((i : Nat) : Int)).toNat = i := by omega
    have hi : i < zs.length := by omega
    have hi2 : i < ws.length := by omega
    rw [overdubkeep_Same_int_L1_eq, overdubkeep_Same_int_L1_B_eq, hx.len]
    simp only [h1, Option.bind_some, decide_true, decide_false, cond_true, cond_false, seqJ_n, seqJ_r, seqJ_e, headK_c, asB_bool, asI_int, asS_s, asN_int, Bool.not_true, Bool.not_false, Nat.beq_refl]
    rw [hx.ind (by omega) h1, hx.load (by omega) h1, asI_int, hy.ind (by omega) (by omega), hy.load (by omega) (by omega), asI_int, e3]
    rw [List.drop_eq_getElem_cons hi, List.drop_eq_getElem_cons hi2]
    have g1 : zs.getD i 0 = zs[i] := by rw [List.getD_eq_getElem?_getD, List.getElem?_eq_getElem hi]; rfl
    have g2 : ws.getD i 0 = ws[i] := by rw [List.getD_eq_getElem?_getD, List.getElem?_eq_getElem hi2]; rfl
    rw [g1, g2]
    by_cases he : zs[i] = ws[i]
    · have hb1 : (zs[i] != ws[i]) = false := by simp [he]
      have hb2 : (ws[i] != ws[i]) = false := by simp
      simp only [hb2, e1, he, List.cons.injEq, true_and, Option.bind_some, decide_true, decide_false, cond_true, cond_false, seqJ_n, seqJ_r, seqJ_e, headK_c, asB_bool, asI_int, asS_s, asN_int, Bool.not_true, Bool.not_false, Nat.beq_refl]
      exact ih
    · have hb1 : (zs[i] != ws[i]) = true := by simp [he]
      simp only [hb1, he, List.cons.injEq, false_and, if_false, Option.bind_some, decide_true, decide_false, cond_true, cond_false, seqJ_n, seqJ_r, seqJ_e, headK_c, asB_bool, asI_int, asS_s, asN_int, Bool.not_true, Bool.not_false, Nat.beq_refl]
theorem same_is {μ : AMem} {x y : SV} {zs ws : List Int} (hx : IsRow μ .i64 x zs) (hy : IsRow μ .i64 y ws) (hb : zs.length ≤ 4611686018427387904) :
    overdubkeep_Same_int [.s x, .s y] μ = some (.s (.bool (decide (zs = ws))), μ) := by
  rw [overdubkeep_Same_int_eq, hx.len, hy.len]
  by_cases hl : zs.length = ws.length
  · have h1 : ((zs.length : Int) != (ws.length : Int)) = false := by simp [hl]
    have := same_loop hx hy hl hb _ 0 (Nat.zero_add _)
    simp only [h1, Option.bind_some, decide_true, decide_false, cond_true, cond_false, seqJ_n, seqJ_r, seqJ_e, headK_c, asB_bool, asI_int, asS_s, asN_int, Bool.not_true, Bool.not_false, Nat.beq_refl]
    rw [show overdubkeep_Same_int_L1 [.s x, .s y] [.s (.int .i64 0)] μ = _ from this]
    simp only [List.drop_zero]
    by_cases he : zs = ws
    · simp only [he, if_true, Option.bind_some, decide_true, decide_false, cond_true, cond_false, seqJ_n, seqJ_r, seqJ_e, headK_c, asB_bool, asI_int, asS_s, asN_int, Bool.not_true, Bool.not_false, Nat.beq_refl]
    · simp only [he, if_false, Option.bind_some, decide_true, decide_false, cond_true, cond_false, seqJ_n, seqJ_r, seqJ_e, headK_c, asB_bool, asI_int, asS_s, asN_int, Bool.not_true, Bool.not_false, Nat.beq_refl]
  · have h1 : ((zs.length : Int) != (ws.length : Int)) = true := by simp; omega
    have he : ¬ zs = ws := fun h => hl (by rw [h])
    simp only [h1, he, Option.bind_some, decide_true, decide_false, cond_true, cond_false, seqJ_n, seqJ_r, seqJ_e, headK_c, asB_bool, asI_int, asS_s, asN_int, Bool.not_true, Bool.not_false, Nat.beq_refl]
end Go.Proofs.Ytmmikeabacodnaa
/- A play: the table and the document's counts go alike. -/
namespace Go.Proofs.Ytmmikeabacodnaa
open Go Go.Proofs.Ytmmikeabacodnaa.E
set_option linter.unusedVariables false
set_option linter.unusedSimpArgs false
theorem ok_loop {μ : AMem} {p : Nat} {c acts l : SV} {cs ls : List Int} {s7 : Int} (hc : IsRow μ .i64 c cs) (hl : IsRow μ .i64 l ls) (hb : ls.length ≤ 1000) :
    ∀ (k i : Nat) (b : Bool), i + k = ls.length → overdublaw12_play_L2 [.s (.ptr p 0 0), .s c, .s acts, .s (.int .i64 s7), .s l, .s (.int .i64 (ls.length : Int))] [.s (.bool b), .s (.int .i64 (i : Int))] μ = some (.exit 2, [.s (.ptr p 0 0), .s c, .s acts, .s (.int .i64 s7), .s l, .s (.bool (b && (ls.drop i).all (mayI cs)))], μ)
  | 0, i, b, h => by
    obtain rfl : i = ls.length := by omega
    rw [overdublaw12_play_L2_eq, overdublaw12_play_L2_B_eq, List.drop_eq_nil_of_le (Nat.le_refl _)]
    simp -implicitDefEqProofs only [lt_f (Int.le_refl (ls.length : Int)), List.all_nil, Bool.and_true, Option.bind_some, decide_true, decide_false, cond_true, cond_false, seqJ_n, seqJ_r, seqJ_e, headK_c, asB_bool, asI_int, asS_s, asN_int, extrK_0, extrK_1, extrK_2, Bool.not_true, Bool.not_false, Nat.beq_refl]
  | k + 1, i, b, h => by
    have hi : i < ls.length := by omega
    have c1 := lt_t (show (i : Int) < (ls.length : Int) by omega)
    have ei : IntKind.wrap .i64 ((i : Int) + 1) = ((i + 1 : Nat) : Int) := by rw [wr (by omega)]; rfl
    rw [overdublaw12_play_L2_eq, overdublaw12_play_L2_B_eq, drop_cons hi, List.all_cons]
    cases b
    · have ih := ok_loop (p := p) (acts := acts) (s7 := s7) hc hl hb k (i + 1) false (by omega)
      rw [Bool.false_and] at ih ⊢
      simp -implicitDefEqProofs only [c1, ei, Option.bind_some, decide_true, decide_false, cond_true, cond_false, seqJ_n, seqJ_r, seqJ_e, headK_c, asB_bool, asI_int, asS_s, asN_int, extrK_0, extrK_1, extrK_2, Bool.not_true, Bool.not_false, Nat.beq_refl]
      exact ih
    · have g1 := fun {R : Type} (K : AV → Option R) => hl.ind (i := (i : Int)) (by omega) (by omega) K
      have l1 := fun {R : Type} (K : AV → Option R) => hl.load (i := (i : Int)) (by omega) (by omega) K
      have ih := ok_loop (p := p) (acts := acts) (s7 := s7) hc hl hb k (i + 1) (mayI cs (ls.getD i 0)) (by omega)
      rw [Bool.true_and]
      by_cases h0 : 0 ≤ ls.getD i 0
      · have hm : mayI cs (ls.getD i 0) = decide (ls.getD i 0 < (cs.length : Int)) := by unfold mayI; rw [decide_eq_true h0, Bool.true_and]
        rw [hm] at ih ⊢
        simp -implicitDefEqProofs only [c1, g1, l1, nat_toNat, ge_t h0, hc.len, ei, Option.bind_some, decide_true, decide_false, cond_true, cond_false, seqJ_n, seqJ_r, seqJ_e, headK_c, asB_bool, asI_int, asS_s, asN_int, extrK_0, extrK_1, extrK_2, Bool.not_true, Bool.not_false, Nat.beq_refl]
        exact ih
      · have hm : mayI cs (ls.getD i 0) = false := by unfold mayI; rw [decide_eq_false h0, Bool.false_and]
        rw [hm] at ih ⊢
        simp -implicitDefEqProofs only [c1, g1, l1, nat_toNat, ge_f (show ls.getD i 0 < 0 by omega), ei, Option.bind_some, decide_true, decide_false, cond_true, cond_false, seqJ_n, seqJ_r, seqJ_e, headK_c, asB_bool, asI_int, asS_s, asN_int, extrK_0, extrK_1, extrK_2, Bool.not_true, Bool.not_false, Nat.beq_refl]
        exact ih
theorem inc_loop {N : Nat} {x c acts l : SV} {ls : List Int} {s7 : Int} {n : Nat} (hb : ls.length ≤ 1000) (hls : ∀ v ∈ ls, 0 ≤ v ∧ v < n) (hcl : Apart c l) :
    ∀ (k i : Nat) (μ : AMem) (cs : List Int), i + k = ls.length → WF μ → OwnRow N μ .i64 3 c cs → IsRow μ .i64 l ls → cs.length = n → fits cs k →
      ∃ μ', overdublaw12_play_L3 [.s x, .s c, .s acts, .s (.int .i64 s7), .s l, .s (.bool true)] [.s (.int .i64 (i : Int))] μ = some (.exit 4, [.s x, .s c, .s acts, .s (.int .i64 s7)], μ') ∧ Keep (isId c) μ μ' ∧ OwnRow N μ' .i64 3 c (addZ cs (ls.drop i))
  | 0, i, μ, cs, h, hw, hc, hl, hn, hf => by
    obtain rfl : i = ls.length := by omega
    refine ⟨μ, ?_, Keep.refl hw, by rw [List.drop_eq_nil_of_le (Nat.le_refl _)]; exact hc⟩
    rw [overdublaw12_play_L3_eq, overdublaw12_play_L3_B_eq, hl.len]
    simp -implicitDefEqProofs only [lt_f (Int.le_refl (ls.length : Int)), Option.bind_some, decide_true, decide_false, cond_true, cond_false, seqJ_n, seqJ_r, seqJ_e, headK_c, asB_bool, asI_int, asS_s, asN_int, extrK_0, extrK_1, extrK_2, Bool.not_true, Bool.not_false, Nat.beq_refl]
  | k + 1, i, μ, cs, h, hw, hc, hl, hn, hf => by
    have hi : i < ls.length := by omega
    have hv := hls _ (getD_mem hi)
    obtain ⟨w, hw2⟩ : ∃ w : Nat, ls.getD i 0 = w := ⟨(ls.getD i 0).toNat, by omega⟩
    have c1 := lt_t (show (i : Int) < (ls.length : Int) by omega)
    have ei : IntKind.wrap .i64 ((i : Int) + 1) = ((i + 1 : Nat) : Int) := by rw [wr (by omega)]; rfl
    have g1 := fun {R : Type} (K : AV → Option R) => hl.ind (i := (i : Int)) (by omega) (by omega) K
    have l1 := fun {R : Type} (K : AV → Option R) => hl.load (i := (i : Int)) (by omega) (by omega) K
    have g2 := fun {R : Type} (K : AV → Option R) => hc.row.ind (i := (w : Int)) (by omega) (by omega) K
    have l2 := fun {R : Type} (K : AV → Option R) => hc.row.load (i := (w : Int)) (by omega) (by omega) K
    have hg := getD_fit hf (by
      have := hf _ (getD_mem (zs := cs) (i := w) (by omega)); omega) w
    have ew : IntKind.wrap .i64 (cs.getD w 0 + 1) = cs.getD w 0 + 1 := wr (by omega)
    obtain ⟨m, t1, t2, t3, _⟩ := storeK hw hc (i := w) (by omega) (cs.getD w 0 + 1)
    have hinc : cs.set w (cs.getD w 0 + 1) = incZ cs (ls.getD i 0) := by rw [hw2]; rfl
    rw [hinc] at t3
    have hk : k + 1 ≤ 1000000 := by omega
    obtain ⟨m2, q1, q2, q3⟩ := inc_loop (x := x) (acts := acts) (s7 := s7) hb hls hcl k (i + 1) m _ (by omega) t2.wf t3 (rowKeep hl t2 fun j hj hl' => hcl j hj hl') (by rw [incZ_len]; exact hn) (incZ_fit hf hk _)
    refine ⟨m2, ?_, t2.trans q2, by rw [drop_cons hi]; exact q3⟩
    rw [overdublaw12_play_L3_eq, overdublaw12_play_L3_B_eq, hl.len]
    simp -implicitDefEqProofs only [c1, g1, l1, nat_toNat, hw2, g2, l2, ew, t1, ei, Option.bind_some, decide_true, decide_false, cond_true, cond_false, seqJ_n, seqJ_r, seqJ_e, headK_c, asB_bool, asI_int, asS_s, asN_int, extrK_0, extrK_1, extrK_2, Bool.not_true, Bool.not_false, Nat.beq_refl]
    exact q1
theorem inc_not {x c acts l : SV} {ls : List Int} {s7 : Int} {μ : AMem} (hl : IsRow μ .i64 l ls) : overdublaw12_play_L3 [.s x, .s c, .s acts, .s (.int .i64 s7), .s l, .s (.bool false)] [.s (.int .i64 0)] μ = some (.exit 4, [.s x, .s c, .s acts, .s (.int .i64 s7)], μ) := by
  rw [overdublaw12_play_L3_eq, overdublaw12_play_L3_B_eq, hl.len]
  by_cases h : (0 : Int) < (ls.length : Int)
  · simp -implicitDefEqProofs only [lt_t h, Option.bind_some, decide_true, decide_false, cond_true, cond_false, seqJ_n, seqJ_r, seqJ_e, headK_c, asB_bool, asI_int, asS_s, asN_int, extrK_0, extrK_1, extrK_2, Bool.not_true, Bool.not_false, Nat.beq_refl]
  · simp -implicitDefEqProofs only [lt_f (show (ls.length : Int) ≤ 0 by omega), Option.bind_some, decide_true, decide_false, cond_true, cond_false, seqJ_n, seqJ_r, seqJ_e, headK_c, asB_bool, asI_int, asS_s, asN_int, extrK_0, extrK_1, extrK_2, Bool.not_true, Bool.not_false, Nat.beq_refl]
theorem look_loop {m0 : AMem} (h0 : WF m0) {N p : Nat} {s c acts : SV} {cs : List Int} {s7 : Int} (ht : Tab N m0 (.ptr p 0 0) s cs) (hc : IsRow m0 .i64 c cs) (hb : cs.length ≤ 4096) (hf : fits cs 0) :
    ∀ (k i : Nat) (μ : AMem) (y : SV) (zs : List Int), i + k = cs.length → zs.length ≤ i → Same m0 μ → OwnRow m0.next μ .i64 3 y zs →
      ∃ y' μ', overdublaw12_play_L4 [.s (.ptr p 0 0), .s c, .s acts, .s (.int .i64 s7), .s (.int .i64 (cs.length : Int))] [.s y, .s (.int .i64 (sumR cs i)), .s (.int .i64 (i : Int))] μ = some (.exit 6, [.s (.ptr p 0 0), .s c, .s acts, .s (.int .i64 s7), .s y', .s (.int .i64 (sumR cs cs.length))], μ') ∧ Same m0 μ' ∧ OwnRow m0.next μ' .i64 3 y' (zs ++ ownF cs k i)
  | 0, i, μ, y, zs, h, hl, hs, hy => by
    obtain rfl : i = cs.length := by omega
    refine ⟨y, μ, ?_, hs, by rw [ownF, List.append_nil]; exact hy⟩
    rw [overdublaw12_play_L4_eq, overdublaw12_play_L4_B_eq]
    simp -implicitDefEqProofs only [lt_f (Int.le_refl (cs.length : Int)), Option.bind_some, decide_true, decide_false, cond_true, cond_false, seqJ_n, seqJ_r, seqJ_e, headK_c, asB_bool, asI_int, asS_s, asN_int, extrK_0, extrK_1, extrK_2, Bool.not_true, Bool.not_false, Nat.beq_refl]
  | k + 1, i, μ, y, zs, h, hl, hs, hy => by
    have hi : i < cs.length := by omega
    have hc1 := hc.same hs
    have c1 := lt_t (show (i : Int) < (cs.length : Int) by omega)
    have ei : IntKind.wrap .i64 ((i : Int) + 1) = ((i + 1 : Nat) : Int) := by rw [wr (by omega)]; rfl
    have g1 := fun {R : Type} (K : AV → Option R) => hc1.ind (i := (i : Int)) (by omega) (by omega) K
    have l1 := fun {R : Type} (K : AV → Option R) => hc1.load (i := (i : Int)) (by omega) (by omega) K
    have e1 := of_is (ht.same hs) (i : Int)
    have ho : ofI cs (i : Int) = cs.getD i 0 := by
      unfold ofI mayI
      rw [decide_eq_true (p := (0 : Int) ≤ (i : Int)) (by omega), decide_eq_true (p := (i : Int) < (cs.length : Int)) (by omega)]; rfl
    rw [ho] at e1
    have h1 := sumR_le hf i
    have h2 := getD_fit hf (by omega) i
    have es : IntKind.wrap .i64 (sumR cs i + cs.getD i 0) = sumR cs (i + 1) := by rw [wr (by omega)]; rfl
    by_cases c2 : cs.getD i 0 > 0
    · obtain ⟨y', μ', p1, p2, p3⟩ := pushS (B := 8) (a := 2) (b := 3) (n := 5) (q := some 1) h0 hs hy (i : Int) (by omega) (by omega) (by omega) (by omega) (by omega)
      obtain ⟨y2, μ2, q1, q2, q3⟩ := look_loop (acts := acts) (s7 := s7) h0 ht hc hb hf k (i + 1) μ' y' _ (by omega) (by simp; omega) p2 p3
      have hc2 := hc.same p2
      have l2 := fun {R : Type} (K : AV → Option R) => hc2.load (i := (i : Int)) (by omega) (by omega) K
      refine ⟨y2, μ2, ?_, q2, by rw [ownF, if_pos c2]; simpa using q3⟩
      rw [overdublaw12_play_L4_eq, overdublaw12_play_L4_B_eq]
      simp -implicitDefEqProofs only [c1, g1, l1, nat_toNat, e1, chk_rfl, chk_true, ne_f (rfl : cs.getD i 0 = _), decide_eq_true c2, p1, l2, es, ei, Option.bind_some, decide_true, decide_false, cond_true, cond_false, seqJ_n, seqJ_r, seqJ_e, headK_c, asB_bool, asI_int, asS_s, asN_int, extrK_0, extrK_1, extrK_2, Bool.not_true, Bool.not_false, Nat.beq_refl]
      exact q1
    · obtain ⟨y2, μ2, q1, q2, q3⟩ := look_loop (acts := acts) (s7 := s7) h0 ht hc hb hf k (i + 1) μ y zs (by omega) (by omega) hs hy
      refine ⟨y2, μ2, ?_, q2, by rw [ownF, if_neg c2]; exact q3⟩
      rw [overdublaw12_play_L4_eq, overdublaw12_play_L4_B_eq]
      simp -implicitDefEqProofs only [c1, g1, l1, nat_toNat, e1, chk_rfl, chk_true, ne_f (rfl : cs.getD i 0 = _), decide_eq_false c2, es, ei, Option.bind_some, decide_true, decide_false, cond_true, cond_false, seqJ_n, seqJ_r, seqJ_e, headK_c, asB_bool, asI_int, asS_s, asN_int, extrK_0, extrK_1, extrK_2, Bool.not_true, Bool.not_false, Nat.beq_refl]
      exact q1
theorem ofI_out {cs : List Int} {i : Int} (h : i < 0 ∨ (cs.length : Int) ≤ i) : ofI cs i = 0 := by
  unfold ofI mayI
  rcases h with h | h
  · rw [decide_eq_false (p := (0 : Int) ≤ i) (by omega), Bool.false_and]; rfl
  · rw [decide_eq_false (p := i < (cs.length : Int)) (by omega), Bool.and_false]; rfl
theorem ownF_len (cs : List Int) : ∀ k i, (ownF cs k i).length ≤ k
  | 0, i => by simp [ownF]
  | k + 1, i => by
    have := ownF_len cs k (i + 1)
    rw [ownF]
    split
    · simp; omega
    · omega
/-- All is alike. -/
theorem look_is {m : AMem} (hw : WF m) {N p : Nat} {s c acts : SV} {cs : List Int} {s7 : Int} (ht : Tab N m (.ptr p 0 0) s cs) (hc : IsRow m .i64 c cs) (hb : cs.length ≤ 4096) (hf : fits cs 0) :
    ∃ y w m4 m5, overdublaw12_play_L4 [.s (.ptr p 0 0), .s c, .s acts, .s (.int .i64 s7), .s (.int .i64 (cs.length : Int))] [.s .nilSlice, .s (.int .i64 0), .s (.int .i64 0)] m = some (.exit 6, [.s (.ptr p 0 0), .s c, .s acts, .s (.int .i64 s7), .s y, .s (.int .i64 (sumR cs cs.length))], m4) ∧
      refs_Table_Owned [.s (.ptr p 0 0)] m4 = some (.s w, m5) ∧ overdubkeep_Same_int [.s w, .s y] m5 = some (.s (.bool true), m5) ∧ refs_Table_Sum [.s (.ptr p 0 0)] m5 = some (.s (.int .i64 (sumR cs cs.length)), m5) ∧ lenS (.s c) = some cs.length ∧
      refs_Table_Of [.s (.ptr p 0 0), .s (.int .i64 (-1))] m5 = some (.s (.int .i64 0), m5) ∧ refs_Table_Of [.s (.ptr p 0 0), .s (.int .i64 (cs.length : Int))] m5 = some (.s (.int .i64 0), m5) ∧ Same m m5 := by
  obtain ⟨y, m4, e1, k1, o1⟩ := look_loop (acts := acts) (s7 := s7) hw ht hc hb hf cs.length 0 m .nilSlice [] (Nat.zero_add _) (Nat.zero_le _) (Keep.refl hw) (OwnRow.nil _ _ _ _)
  rw [n0, show sumR cs 0 = 0 from rfl] at e1
  rw [List.nil_append] at o1
  obtain ⟨w, m5, e2, k2, o2⟩ := owned_is k1.wf (ht.same k1) (by omega)
  have hl := ownF_len cs cs.length 0
  have e3 := same_is o2.row (o1.row.same k2) (by omega)
  rw [decide_eq_true rfl] at e3
  have ht5 := ht.same (k1.trans k2)
  have e4 := sum_is ht5 (by omega) hf
  have e5 := of_is ht5 (-1)
  have e6 := of_is ht5 (cs.length : Int)
  rw [ofI_out (.inl (by omega))] at e5
  rw [ofI_out (.inr (Int.le_refl _))] at e6
  exact ⟨y, w, m4, m5, e1, e2, e3, e4, hc.len, e5, e6, k1.trans k2⟩
theorem dec_fit {cs : List Int} {w k : Nat} (hf : fits cs k) (h : cs.getD w 0 > 0) (hk : k ≤ 1000000) : fits (decZ cs (w : Int)) k := fun v hv => by
  rcases List.mem_or_eq_of_mem_set hv with h1 | h1
  · exact hf v h1
  · have := getD_fit hf hk w
    rw [h1]
    show 0 ≤ cs.getD w 0 - 1 ∧ cs.getD w 0 - 1 + k ≤ 1000000
    omega
theorem cell3 {m : AMem} {i T : Nat} {q : Option Nat} {a b c : SV} (h : m.obj i = some (rowObj [a, b, c] 3 T q)) : m.cell i 0 (0 + 0) = some a ∧ m.cell i 0 (0 + 1) = some b ∧ m.cell i 0 (0 + 2) = some c := by
  simp [AMem.cell, h, rowObj]
theorem play_loop {M : AMem} (h0 : WF M) {acts s c : SV} {p len n : Nat} (ha : IsActs M acts len) (hn : 1 ≤ n ∧ n ≤ 4096) (hap : Apart s c) (hpc : ¬ isId c p) :
    ∀ (k i : Nat) (μ : AMem) (cs : List Int) (r : Nat), i + k = min 30 len → Same M μ → Tab M.next μ (.ptr p 0 0) s cs → OwnRow M.next μ .i64 3 c cs → cs.length = n → fits cs (8 * k + r) → r ≤ 900000 →
      ∃ μ' cs', overdublaw12_play_L1 [.s (.ptr p 0 0), .s c, .s acts] [.s (.int .i64 (i : Int))] μ = some (.exit 0, [], μ') ∧ Keep (fun j => isId s j ∨ isId c j) μ μ' ∧ Tab M.next μ' (.ptr p 0 0) s cs' ∧ OwnRow M.next μ' .i64 3 c cs' ∧ cs'.length = n ∧ fits cs' r
  | 0, i, μ, cs, r, h, hs, ht, hc, hcn, hf, hr => by
    obtain rfl : i = min 30 len := by omega
    refine ⟨μ, cs, ?_, Keep.refl hs.wf, ht, hc, hcn, by simpa using hf⟩
    rw [overdublaw12_play_L1_eq, overdublaw12_play_L1_B_eq, (ha.same hs).lenS]
    by_cases h1 : ((min 30 len : Nat) : Int) < (len : Int)
    · simp -implicitDefEqProofs only [lt_t h1, lt_f (show (30 : Int) ≤ ((min 30 len : Nat) : Int) by omega), Option.bind_some, decide_true, decide_false, cond_true, cond_false, seqJ_n, seqJ_r, seqJ_e, headK_c, asB_bool, asI_int, asS_s, asN_int, extrK_0, extrK_1, extrK_2, Bool.not_true, Bool.not_false, Nat.beq_refl]
    · simp -implicitDefEqProofs only [lt_f (show (len : Int) ≤ ((min 30 len : Nat) : Int) by omega), Option.bind_some, decide_true, decide_false, cond_true, cond_false, seqJ_n, seqJ_r, seqJ_e, headK_c, asB_bool, asI_int, asS_s, asN_int, extrK_0, extrK_1, extrK_2, Bool.not_true, Bool.not_false, Nat.beq_refl]
  | k + 1, i, μ, cs, r, h, hs, ht, hc, hcn, hf, hr => by
    have hi : i < len := by omega
    obtain ⟨d, nn, rw', zs, hload, wd, wn, hrow, hz⟩ := ha.act hi
    have k2 : Same μ ((μ.bump 6).set (μ.next + 4) (rowObj [.int .i64 d, .int .i64 nn, rw'] 3 47 (some 1))) := Same.bumpSet hs.wf (by omega) _
    have hbox : ((μ.bump 6).set (μ.next + 4) (rowObj [.int .i64 d, .int .i64 nn, rw'] 3 47 (some 1))).obj (μ.next + 4) = some (rowObj [.int .i64 d, .int .i64 nn, rw'] 3 47 (some 1)) := set_self _ _ _
    have e1 := fun {R : Type} (K : AV → Option R) => hload (μ.bump 6) K (bumpS hs 6)
    have e2 := fun {R : Type} (K : AMem → Option R) => box3 (μ.bump 6) (μ.next + 4) 47 (some 1) (.int .i64 0) (.int .i64 0) .nilSlice (.int .i64 d) (.int .i64 nn) rw' K
    have g0 := fun {R : Type} (K : AV → Option R) => (ha.same hs).ind (i := (i : Int)) (by omega) (by omega) K
    generalize (μ.bump 6).set (μ.next + 4) (rowObj [.int .i64 d, .int .i64 nn, rw'] 3 47 (some 1)) = M2 at *
    obtain ⟨b0, b1, b2⟩ := cell3 hbox
    have hs2 := hs.trans k2
    have ht2 := ht.same k2
    have hc2 : OwnRow M.next M2 .i64 3 c cs := hc.old fun id o ho _ => k2.old id o ho fun h => h
    have hnc : ¬ isId c (μ.next + 4) := fun hh => by obtain ⟨_, o, ho⟩ := own_lives hc hh; have := hs.wf.lt ho; omega
    have c1 := lt_t (show (i : Int) < (len : Int) by omega)
    have c2 := lt_t (show (i : Int) < 30 by omega)
    have ei : IntKind.wrap .i64 ((i : Int) + 1) = ((i + 1 : Nat) : Int) := by rw [wr (by omega)]; rfl
    have wi := within_is d 3 (wf64 wd) (by omega) (by omega) M2
    have hb8 : 8 * (k + 1) + r = 8 + (8 * k + r) := by omega
    have hfr : fits cs (8 * k + r) := fits_less hf (by omega)
    -- what comes behind an act
    have rest : ∀ (m : AMem) (cs1 : List Int), Keep (fun j => isId s j ∨ isId c j) M2 m → Tab M.next m (.ptr p 0 0) s cs1 → OwnRow M.next m .i64 3 c cs1 → cs1.length = n → fits cs1 (8 * k + r) →
        ∃ y w m4 m5 μ' cs', overdublaw12_play_L4 [.s (.ptr p 0 0), .s c, .s acts, .s (.int .i64 (i : Int)), .s (.int .i64 (cs1.length : Int))] [.s .nilSlice, .s (.int .i64 0), .s (.int .i64 0)] m = some (.exit 6, [.s (.ptr p 0 0), .s c, .s acts, .s (.int .i64 (i : Int)), .s y, .s (.int .i64 (sumR cs1 cs1.length))], m4) ∧
          refs_Table_Owned [.s (.ptr p 0 0)] m4 = some (.s w, m5) ∧ overdubkeep_Same_int [.s w, .s y] m5 = some (.s (.bool true), m5) ∧ refs_Table_Sum [.s (.ptr p 0 0)] m5 = some (.s (.int .i64 (sumR cs1 cs1.length)), m5) ∧ lenS (.s c) = some cs1.length ∧
          refs_Table_Of [.s (.ptr p 0 0), .s (.int .i64 (-1))] m5 = some (.s (.int .i64 0), m5) ∧ refs_Table_Of [.s (.ptr p 0 0), .s (.int .i64 (cs1.length : Int))] m5 = some (.s (.int .i64 0), m5) ∧
          overdublaw12_play_L1 [.s (.ptr p 0 0), .s c, .s acts] [.s (.int .i64 ((i + 1 : Nat) : Int))] m5 = some (.exit 0, [], μ') ∧ Keep (fun j => isId s j ∨ isId c j) μ μ' ∧ Tab M.next μ' (.ptr p 0 0) s cs' ∧ OwnRow M.next μ' .i64 3 c cs' ∧ cs'.length = n ∧ fits cs' r := by
      intro m cs1 hk ht1 hc1 hl1 hf1
      obtain ⟨y, w, m4, m5, f1, f2, f3, f4, f5, f6, f7, k5⟩ := look_is (acts := acts) (s7 := (i : Int)) hk.wf ht1 hc1.row (by omega) (fits_less hf1 (Nat.zero_le _))
      have hkm : Keep (fun j => isId s j ∨ isId c j) μ m := (k2.weak0 fun _ h => h.elim).trans hk
      have hk5 : Keep (fun j => isId s j ∨ isId c j) μ m5 := hkm.trans (k5.weak0 fun _ h => h.elim)
      have hs5 : Same M m5 := keepSame h0 hs hk5 fun j hj => hj.elim (fun h => ht.ids h) fun h => (own_lives hc h).1
      obtain ⟨μ', cs', q1, q2, q3, q4, q5, q6⟩ := play_loop h0 ha hn hap hpc k (i + 1) m5 cs1 r (by omega) hs5 (ht1.same k5) (hc1.old fun id o ho _ => k5.old id o ho fun h => h) hl1 hf1 hr
      exact ⟨y, w, m4, m5, μ', cs', f1, f2, f3, f4, f5, f6, f7, q1, hk5.trans q2, q3, q4, q5, q6⟩
    by_cases cd : d % 3 = 2
    · have hdr := drop_is k2.wf ht2 (fits_less hf (Nat.zero_le _)) nn
      by_cases hof : ofI cs nn = 0
      · have e3 := hdr.1 hof
        obtain ⟨y, w, m4, m5, μ', cs', f1, f2, f3, f4, f5, f6, f7, q1, q2⟩ := rest M2 cs (Keep.refl k2.wf) ht2 hc2 hcn hfr
        refine ⟨μ', cs', ?_, q2⟩
        rw [overdublaw12_play_L1_eq, overdublaw12_play_L1_B_eq, (ha.same hs).lenS]
        by_cases n1 : nn < 0
        · simp -implicitDefEqProofs only [c1, c2, g0, e1, e2, b0, b1, wi, eq_t cd, ge_f n1, e3, ne_f (rfl : (0 : Int) = 0), f1, f2, f3, f4, f5, f6, f7, ne_f (rfl : sumR cs cs.length = _), BEq.rfl, ei, Option.bind_some, decide_true, decide_false, cond_true, cond_false, seqJ_n, seqJ_r, seqJ_e, headK_c, asB_bool, asI_int, asS_s, asN_int, extrK_0, extrK_1, extrK_2, Bool.not_true, Bool.not_false, Nat.beq_refl]
          exact q1
        · by_cases n2 : nn < (cs.length : Int)
          · have hz0 : ¬ cs.getD nn.toNat 0 > 0 := by
              have hm : ofI cs nn = cs.getD nn.toNat 0 := by unfold ofI mayI; rw [decide_eq_true (p := (0 : Int) ≤ nn) (by omega), decide_eq_true n2]; rfl
              omega
            have g3 := fun {R : Type} (K : AV → Option R) => hc2.row.ind (i := nn) (by omega) n2 K
            have l3 := fun {R : Type} (K : AV → Option R) => hc2.row.load (i := nn) (by omega) n2 K
            simp -implicitDefEqProofs only [c1, c2, g0, e1, e2, b0, b1, wi, eq_t cd, ge_t (show (0 : Int) ≤ nn by omega), f5, lt_t n2, g3, l3, decide_eq_false hz0, e3, ne_f (rfl : (0 : Int) = 0), f1, f2, f3, f4, f6, f7, ne_f (rfl : sumR cs cs.length = _), BEq.rfl, ei, Option.bind_some, decide_true, decide_false, cond_true, cond_false, seqJ_n, seqJ_r, seqJ_e, headK_c, asB_bool, asI_int, asS_s, asN_int, extrK_0, extrK_1, extrK_2, Bool.not_true, Bool.not_false, Nat.beq_refl]
            exact q1
          · simp -implicitDefEqProofs only [c1, c2, g0, e1, e2, b0, b1, wi, eq_t cd, ge_t (show (0 : Int) ≤ nn by omega), f5, lt_f (show (cs.length : Int) ≤ nn by omega), e3, ne_f (rfl : (0 : Int) = 0), f1, f2, f3, f4, f6, f7, ne_f (rfl : sumR cs cs.length = _), BEq.rfl, ei, Option.bind_some, decide_true, decide_false, cond_true, cond_false, seqJ_n, seqJ_r, seqJ_e, headK_c, asB_bool, asI_int, asS_s, asN_int, extrK_0, extrK_1, extrK_2, Bool.not_true, Bool.not_false, Nat.beq_refl]
            exact q1
      · have hmay : mayI cs nn = true := by
          cases hm : mayI cs nn
          · exact absurd (by unfold ofI; rw [hm]; rfl) hof
          · rfl
        have hin := mayI_t hmay
        obtain ⟨w, rfl⟩ : ∃ w : Nat, nn = w := ⟨nn.toNat, by omega⟩
        have ho : ofI cs (w : Int) = cs.getD w 0 := by unfold ofI; rw [hmay]; rfl
        have hg := getD_fit hf (by have := hf _ (getD_mem (zs := cs) (i := w) (by omega)); omega) w
        have hpos : cs.getD w 0 > 0 := by omega
        have g3 := fun {R : Type} (K : AV → Option R) => hc2.row.ind (i := (w : Int)) (by omega) (by omega) K
        have l3 := fun {R : Type} (K : AV → Option R) => hc2.row.load (i := (w : Int)) (by omega) (by omega) K
        have ewd : IntKind.wrap .i64 (cs.getD w 0 - 1) = cs.getD w 0 - 1 := wr (by omega)
        obtain ⟨m3, t1, t2, t3, _⟩ := storeK k2.wf hc2 (i := w) (by omega) (cs.getD w 0 - 1)
        have hb3 := t2.old _ _ hbox hnc
        obtain ⟨x0, x1, x2⟩ := cell3 hb3
        have hl3 : (cs.set w (cs.getD w 0 - 1)).length = cs.length := List.length_set
        have g4 := fun {R : Type} (K : AV → Option R) => t3.row.ind (i := (w : Int)) (by omega) (by omega) K
        have l4 := fun {R : Type} (K : AV → Option R) => t3.row.load (i := (w : Int)) (by omega) (by omega) K
        have hgs : (cs.set w (cs.getD w 0 - 1)).getD w 0 = cs.getD w 0 - 1 := getD_set_self (by omega) _
        have ht3 := ht2.keep t2 (fun j hj hsj => hap j hsj hj) (fun j hj he => by cases he; exact hpc hj)
        obtain ⟨m4, e3, t4, ht4⟩ := (drop_is t2.wf ht3 (fits_less hf (Nat.zero_le _)) (w : Int)).2 hof
        rw [ho] at e3
        have hc4 : OwnRow M.next m4 .i64 3 c (decZ cs (w : Int)) := ownKeep t3 t4 fun j hj hcj => hap j hj hcj
        obtain ⟨y, v, m5, m6, μ', cs', f1, f2, f3, f4, f5, f6, f7, q1, q2⟩ := rest m4 (decZ cs (w : Int)) ((t2.weak0 fun _ h => .inr h).trans (t4.weak0 fun _ h => .inl h)) ht4 hc4 (by rw [decZ_len]; exact hcn) (dec_fit hfr hpos (by have := hfr _ (getD_mem (zs := cs) (i := w) (by omega)); omega))
        refine ⟨μ', cs', ?_, q2⟩
        rw [overdublaw12_play_L1_eq, overdublaw12_play_L1_B_eq, (ha.same hs).lenS]
        have f5' : lenS (.s c) = some cs.length := hc2.row.len
        rw [decZ_len] at f1 f4 f7
        simp -implicitDefEqProofs only [c1, c2, g0, e1, e2, b0, b1, wi, eq_t cd, ge_t (show (0 : Int) ≤ (w : Int) by omega), f5', lt_t hin.2, g3, l3, nat_toNat, decide_eq_true hpos, ewd, t1, x1, g4, l4, hgs, e3, ne_f (rfl : cs.getD w 0 - 1 = _), ne_f (rfl : (0 : Int) = 0), f1, f2, f3, f4, f6, f7, ne_f (rfl : sumR (decZ cs (w : Int)) cs.length = _), BEq.rfl, ei, Option.bind_some, decide_true, decide_false, cond_true, cond_false, seqJ_n, seqJ_r, seqJ_e, headK_c, asB_bool, asI_int, asS_s, asN_int, extrK_0, extrK_1, extrK_2, Bool.not_true, Bool.not_false, Nat.beq_refl]
        exact q1
    · obtain ⟨l, hcut, hlr⟩ := cutC_is hrow 8
      have e3 := hcut M2 hs2
      rw [show ((8 : Nat) : Int) = 8 from rfl] at e3
      have hl8 : (zs.take 8).length ≤ 8 := by simp; omega
      generalize zs.take 8 = ls at *
      have hl2 := hlr.same hs2
      have e4 := ok_loop (p := p) (acts := acts) (s7 := (i : Int)) hc2.row hl2 (by omega) ls.length 0 true (Nat.zero_add _)
      rw [n0, Bool.true_and, List.drop_zero] at e4
      have hsl : Apart s l := apart_old h0 ht.row hlr
      have hcl : Apart c l := apart_old h0 hc hlr
      obtain ⟨A1, A2⟩ := add_is k2.wf ht2 hl2 hsl (by omega) (fits_less hf (by omega))
      cases hall : ls.all (mayI cs)
      · rw [hall] at e4
        have e5 := A1 hall
        have e6 := inc_not (x := .ptr p 0 0) (c := c) (acts := acts) (s7 := (i : Int)) hl2
        obtain ⟨y, w, m4, m5, μ', cs', f1, f2, f3, f4, f5, f6, f7, q1, q2⟩ := rest M2 cs (Keep.refl k2.wf) ht2 hc2 hcn hfr
        refine ⟨μ', cs', ?_, q2⟩
        rw [overdublaw12_play_L1_eq, overdublaw12_play_L1_B_eq, (ha.same hs).lenS]
        simp -implicitDefEqProofs only [c1, c2, g0, e1, e2, b0, b2, wi, eq_f cd, e3, hl2.len, e4, e5, e6, f1, f2, f3, f4, f5, f6, f7, ne_f (rfl : (0 : Int) = 0), ne_f (rfl : sumR cs cs.length = _), BEq.rfl, ei, Option.bind_some, decide_true, decide_false, cond_true, cond_false, seqJ_n, seqJ_r, seqJ_e, headK_c, asB_bool, asI_int, asS_s, asN_int, extrK_0, extrK_1, extrK_2, Bool.not_true, Bool.not_false, Nat.beq_refl]
        exact q1
      · rw [hall] at e4
        obtain ⟨m3, e5, t3, ht3⟩ := A2 hall
        have hls : ∀ v ∈ ls, 0 ≤ v ∧ v < n := fun v hv => by
          have := mayI_t (List.all_eq_true.mp hall v hv); omega
        have hc3 : OwnRow M.next m3 .i64 3 c cs := ownKeep hc2 t3 fun j hj hcj => hap j hj hcj
        obtain ⟨m4, e6, t4, hc4⟩ := inc_loop (x := .ptr p 0 0) (acts := acts) (s7 := (i : Int)) (by omega) hls hcl ls.length 0 m3 cs (Nat.zero_add _) t3.wf hc3 (rowKeep hl2 t3 fun j hj hlj => hsl j hj hlj) hcn (fits_less hf (by omega))
        rw [n0] at e6
        rw [List.drop_zero] at hc4
        have ht4 := ht3.keep t4 (fun j hj hsj => hap j hsj hj) (fun j hj he => by cases he; exact hpc hj)
        have hla : (addZ cs ls).length = cs.length := addZ_len ..
        obtain ⟨y, w, m5, m6, μ', cs', f1, f2, f3, f4, f5, f6, f7, q1, q2⟩ := rest m4 (addZ cs ls) ((t3.weak0 fun _ h => .inl h).trans (t4.weak0 fun _ h => .inr h)) ht4 hc4 (by omega) (fits_add ls cs (fits_less hf (by omega)) (by
          have := hf _ (getD_mem (zs := cs) (i := 0) (by omega)); omega))
        refine ⟨μ', cs', ?_, q2⟩
        rw [overdublaw12_play_L1_eq, overdublaw12_play_L1_B_eq, (ha.same hs).lenS]
        simp -implicitDefEqProofs only [c1, c2, g0, e1, e2, b0, b2, wi, eq_f cd, e3, hl2.len, e4, e5, e6, f1, f2, f3, f4, f5, f6, f7, ne_f (rfl : (0 : Int) = 0), ne_f (rfl : sumR (addZ cs ls) (addZ cs ls).length = _), BEq.rfl, ei, Option.bind_some, decide_true, decide_false, cond_true, cond_false, seqJ_n, seqJ_r, seqJ_e, headK_c, asB_bool, asI_int, asS_s, asN_int, extrK_0, extrK_1, extrK_2, Bool.not_true, Bool.not_false, Nat.beq_refl]
        exact q1
theorem play_is {M : AMem} (h0 : WF M) {acts s c : SV} {p len n : Nat} (ha : IsActs M acts len) (hn : 1 ≤ n ∧ n ≤ 4096) (hap : Apart s c) (hpc : ¬ isId c p) {μ : AMem} {cs : List Int} {r : Nat} (hs : Same M μ) (ht : Tab M.next μ (.ptr p 0 0) s cs) (hc : OwnRow M.next μ .i64 3 c cs) (hcn : cs.length = n) (hf : fits cs (300 + r)) (hr : r ≤ 900000) :
    ∃ μ' cs', overdublaw12_play [.s (.ptr p 0 0), .s c, .s acts] μ = some (.s (.bool true), μ') ∧ Keep (fun j => isId s j ∨ isId c j) μ μ' ∧ Tab M.next μ' (.ptr p 0 0) s cs' ∧ OwnRow M.next μ' .i64 3 c cs' ∧ cs'.length = n ∧ fits cs' r := by
  obtain ⟨μ', cs', q1, q2⟩ := play_loop h0 ha hn hap hpc (min 30 len) 0 μ cs r (Nat.zero_add _) hs ht hc hcn (fits_less hf (by omega)) hr
  rw [n0] at q1
  refine ⟨μ', cs', ?_, q2⟩
  rw [overdublaw12_play_eq]
  simp -implicitDefEqProofs only [q1, Option.bind_some, decide_true, decide_false, cond_true, cond_false, seqJ_n, seqJ_r, seqJ_e, headK_c, asB_bool, asI_int, asS_s, asN_int, extrK_0, extrK_1, extrK_2, Bool.not_true, Bool.not_false, Nat.beq_refl]
end Go.Proofs.Ytmmikeabacodnaa
/- The example of the document holds. -/
namespace Go.Proofs.Ytmmikeabacodnaa
open Go Go.Proofs.Ytmmikeabacodnaa.E
set_option linter.unusedVariables false
set_option linter.unusedSimpArgs false
theorem wakes_is (μ : AMem) (hw : WF μ) : ∃ μ', overdublaw12_wakes [] μ = some (.s (.bool true), μ') := by
  obtain ⟨x, s, m1, e1, k1, t1⟩ := new_is hw (n := 3) (by omega)
  have c3 : ((3 : Nat) : Int) = 3 := rfl
  rw [c3] at e1
  have k2 := Same.bumpSet k1.wf (n := 12) (a := 8) (by omega) (rowObj [.int .i64 1, .int .i64 1] 1 3 (some 2))
  have hy : IsRow ((m1.bump 12).set (m1.next + 8) (rowObj [.int .i64 1, .int .i64 1] 1 3 (some 2))) .i64 (.slice (m1.next + 8) 0 0 2) [1, 1] := IsRow.made (o := rowObj [.int .i64 1, .int .i64 1] 1 3 (some 2)) (by simp) rfl rfl rfl
  obtain ⟨m2, e2, k3, t2, _⟩ := (addS hw (k1.trans k2) (t1.same k2) hy (apart_fresh k1.wf t1.row _ _ _ _) (by simp) (fits_zero _ _ (by simp))).2 (by decide)
  obtain ⟨m3, e3, k4, t3, _⟩ := dropS hw k3 t2 (fits_add _ _ (fits_zero _ _ (by simp)) (by simp)) 1 (by decide)
  have hof : ofI (addZ (List.replicate 3 0) [1, 1]) 1 - 1 = 1 := by decide
  rw [hof] at e3
  have ne00 : ((0 : Int) != 0) = false := rfl
  have t11 : ((1 : Int) == 1) = true := rfl
  rw [overdublaw12_wakes_eq]
  simp -implicitDefEqProofs only [e1, ne00, t1.nn, e2, e3, t11, Option.bind_some, decide_true, decide_false, cond_true, cond_false, seqJ_n, seqJ_r, seqJ_e, headK_c, asB_bool, asI_int, asS_s, asN_int, extrK_0, extrK_1, extrK_2, Bool.not_true, Bool.not_false, Nat.beq_refl]
  exact ⟨_, rfl⟩
end Go.Proofs.Ytmmikeabacodnaa
/- What Copy comes to. -/
namespace Go.Proofs.Ytmmikeabacodnaa
open Go Go.Proofs.Ytmmikeabacodnaa.E
set_option linter.unusedVariables false
set_option linter.unusedSimpArgs false
theorem copy_is {μ : AMem} (h0 : WF μ) {x : SV} {zs : List Int} (hx : IsRow μ .i64 x zs) (hb : zs.length ≤ 1000000000000) :
    ∃ y μ', overdubkeep_Copy_int [.s x] μ = some (.s y, μ') ∧ Same μ μ' ∧ OwnRow μ.next μ' .i64 3 y zs := by
  obtain ⟨y, μ', g1, g2, g3⟩ := copyS (e := 3) (B := 8) (b := 1) (n := 3) h0 (Keep.refl h0) hx (by omega) (by omega) (by omega)
  refine ⟨y, μ', ?_, g2, g3⟩
  rw [overdubkeep_Copy_int_eq, g1, asS_s]
end Go.Proofs.Ytmmikeabacodnaa
