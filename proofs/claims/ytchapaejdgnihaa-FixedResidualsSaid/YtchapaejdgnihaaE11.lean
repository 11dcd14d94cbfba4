/- Words for plain answers: rows of numbers in abstract memory, what the combinators come to. -/
import Derived.Test.YtchapaejdgnihaaE8
namespace Go.Proofs.Ytchapaejdgnihaa.E
open Go
set_option linter.unusedVariables false
section
variable {R : Type} {μ : AMem}
@[simp] theorem seqJ_n (vs : List AV) (μ : AMem) (N E : List AV → AMem → Option R) (I : Nat → List AV → AMem → Option R) : seqJ (some (.normal, vs, μ)) N E I = N vs μ := rfl
@[simp] theorem seqJ_r (vs : List AV) (μ : AMem) (N E : List AV → AMem → Option R) (I : Nat → List AV → AMem → Option R) : seqJ (some (.ret, vs, μ)) N E I = E vs μ := rfl
@[simp] theorem seqJ_e (id : Nat) (vs : List AV) (μ : AMem) (N E : List AV → AMem → Option R) (I : Nat → List AV → AMem → Option R) : seqJ (some (.exit id, vs, μ)) N E I = I id vs μ := rfl
@[simp] theorem headK_c (v : AV) (r : List AV) (K : AV → List AV → Option R) : headK (v :: r) K = K v r := rfl
@[simp] theorem asI_int (k : IntKind) (n : Int) (K : Int → Option R) : asI k (.s (.int k n)) K = K n := by simp [asI]
@[simp] theorem asN_int (k : IntKind) (n : Int) (K : Int → Option R) : asN (.s (.int k n)) K = K n := rfl
@[simp] theorem asB_bool (b : Bool) (K : Bool → Option R) : asB (.s (.bool b)) K = K b := rfl
@[simp] theorem asS_s (x : SV) (K : SV → Option R) : asS (.s x) K = K x := rfl
@[simp] theorem isNil_nil : isNil (.s .nilPtr) = some true := rfl
@[simp] theorem isNil_ptr (a b c : Nat) : isNil (.s (.ptr a b c)) = some false := rfl
@[simp] theorem nonNil_ptr (a b c : Nat) (K : Option R) : nonNil (.s (.ptr a b c)) K = K := rfl
@[simp] theorem lenS_slice (id ver off len : Nat) : lenS (.s (.slice id ver off len)) = some len := rfl
@[simp] theorem lenS_nil : lenS (.s .nilSlice) = some 0 := rfl
@[simp] theorem extrK_0 (a : AV) (l : List AV) (K : AV → Option R) : extrK 0 (.tuple (a :: l)) K = K a := rfl
@[simp] theorem extrK_1 (a b : AV) (l : List AV) (K : AV → Option R) : extrK 1 (.tuple (a :: b :: l)) K = K b := rfl
@[simp] theorem extrK_2 (a b c : AV) (l : List AV) (K : AV → Option R) : extrK 2 (.tuple (a :: b :: c :: l)) K = K c := rfl
@[simp] theorem callV_func (Γ : FuncId → FunA) (g : FuncId) (caps : List (Nat × Nat × Nat)) (l : List AV) (μ : AMem) (K : AV → AMem → Option R) : callV Γ (.s (.func g caps)) l μ K = (Γ g (l ++ caps.map fun c => .s (.ptr c.1 c.2.1 c.2.2)) μ).bind fun r => K r.1 r.2 := rfl
@[simp] theorem set_next (μ : AMem) (i : Nat) (o : AObj) : (μ.set i o).next = μ.next := rfl
@[simp] theorem bump_next (μ : AMem) (n : Nat) : (μ.bump n).next = μ.next + n := rfl
@[simp] theorem bump_obj (μ : AMem) (n : Nat) : (μ.bump n).obj = μ.obj := rfl
@[simp] theorem set_obj (μ : AMem) (i : Nat) (o : AObj) (j : Nat) : (μ.set i o).obj j = if j = i then some o else μ.obj j := rfl

/-- No object has a number that is not given yet. -/
def WF (μ : AMem) : Prop := ∀ id, μ.next ≤ id → μ.obj id = none
theorem WF.bump (h : WF μ) (n : Nat) : WF (μ.bump n) := fun id hid => h id (by simp at hid; omega)
theorem WF.set (h : WF μ) {i : Nat} {o : AObj} (hi : i < μ.next) : WF (μ.set i o) := fun id hid => by
  simp at hid
  have : id ≠ i := by omega
  simp [this]; exact h id hid
theorem WF.lt (h : WF μ) {id : Nat} {o : AObj} (ho : μ.obj id = some o) : id < μ.next := by
  rcases Nat.lt_or_ge id μ.next with h1 | h1
  · exact h1
  · rw [h id h1] at ho; cases ho
theorem WF.args (as : List Arg) : WF (argMem as) := fun id hid => by
  have : as[id]? = none := List.getElem?_eq_none_iff.mpr hid
  simp [argMem, this]

/-- x is a row of the numbers zs. -/
def IsRow (μ : AMem) (k : IntKind) (x : SV) (zs : List Int) : Prop :=
  (x = .nilSlice ∧ zs = []) ∨ ∃ id ver off o, x = .slice id ver off zs.length ∧ μ.obj id = some o ∧ o.ver = ver ∧ off + zs.length ≤ o.cells.length ∧ ∀ (i : Nat) n, zs[i]? = some n → o.cells[off + i]? = some (.int k n)
/-- The place of an element. -/
def plc (x : SV) (i : Int) : AV :=
  match x with
  | .slice id ver off _ => .s (.ptr id ver (off + i.toNat * 1))
  | _ => .unk
theorem IsRow.len {k : IntKind} {x : SV} {zs : List Int} (h : IsRow μ k x zs) : lenS (.s x) = some zs.length := by
  rcases h with ⟨rfl, rfl⟩ | ⟨id, ver, off, o, rfl, _⟩ <;> rfl
theorem IsRow.ind {k : IntKind} {x : SV} {zs : List Int} (h : IsRow μ k x zs) {i : Int} (h0 : 0 ≤ i) (h1 : i < zs.length) (K : AV → Option R) : indS 1 (.s x) i K = K (plc x i) := by
  rcases h with ⟨rfl, rfl⟩ | ⟨id, ver, off, o, rfl, _⟩
  · simp at h1; omega
  · simp [indS, plc, h0, h1]
theorem IsRow.load {k : IntKind} {x : SV} {zs : List Int} (h : IsRow μ k x zs) {i : Int} (h0 : 0 ≤ i) (h1 : i < zs.length) (K : AV → Option R) : loadAt μ (plc x i) K = K (.s (.int k (zs.getD i.toNat 0))) := by
  rcases h with ⟨rfl, rfl⟩ | ⟨id, ver, off, o, rfl, ho, hv, hl, hc⟩
  · simp at h1; omega
  · have hi : i.toNat < zs.length := by omega
    have := hc i.toNat _ (List.getElem?_eq_getElem hi)
    simp only [loadAt, plc, AMem.cell, ho, Option.bind_some, hv, if_true, Nat.mul_one, this]
    rw [List.getD_eq_getElem?_getD, List.getElem?_eq_getElem hi]; rfl
/-- A cut of a row. -/
def cutV (x : SV) (l h : Int) : SV :=
  match x with
  | .slice id ver off len => .slice id ver (off + l.toNat * 1) (h.toNat - l.toNat)
  | y => y
theorem IsRow.cut {k : IntKind} {x : SV} {zs : List Int} (h : IsRow μ k x zs) {a b : Int} (h0 : 0 ≤ a) (h1 : a ≤ b) (h2 : b ≤ zs.length) (K : AV → Option R) : cutS 1 (.s x) a b K = K (.s (cutV x a b)) := by
  rcases h with ⟨rfl, rfl⟩ | ⟨id, ver, off, o, rfl, ho, hv, hl, hc⟩
  · simp at h2
    have : a = 0 := by omega
    have : b = 0 := by omega
    subst_vars; simp [cutS, cutV]
  · simp [cutS, cutV, h0, h1, h2]
theorem IsRow.cutRow {k : IntKind} {x : SV} {zs : List Int} (h : IsRow μ k x zs) {a b : Int} (h0 : 0 ≤ a) (h1 : a ≤ b) (h2 : b ≤ zs.length) : IsRow μ k (cutV x a b) ((zs.take b.toNat).drop a.toNat) := by
  rcases h with ⟨rfl, rfl⟩ | ⟨id, ver, off, o, rfl, ho, hv, hl, hc⟩
  · exact .inl ⟨rfl, by simp⟩
  · refine .inr ⟨id, ver, off + a.toNat * 1, o, ?_, ho, hv, by simp only [List.length_drop, List.length_take]; omega, fun i n hi => ?_⟩
    · simp only [cutV, SV.slice.injEq, true_and, List.length_drop, List.length_take]; omega
    · rw [List.getElem?_drop, List.getElem?_take] at hi
      split at hi
      · have := hc _ _ hi
        rw [← this]; congr 1; omega
      · cases hi
/-- What lives stays as it is, but the objects of S. -/
structure Keep (S : Nat → Prop) (μ μ' : AMem) : Prop where
  wf : WF μ'
  next : μ.next ≤ μ'.next
  old : ∀ id o, μ.obj id = some o → ¬ S id → μ'.obj id = some o
  low : ∀ id, id < μ.next → μ.obj id = none → μ'.obj id = none
theorem Keep.refl {S : Nat → Prop} (h : WF μ) : Keep S μ μ := ⟨h, Nat.le_refl _, fun _ _ h _ => h, fun _ _ h => h⟩
theorem Keep.trans {S : Nat → Prop} {μ1 μ2 : AMem} (h : Keep S μ μ1) (k : Keep S μ1 μ2) : Keep S μ μ2 := ⟨k.wf, Nat.le_trans h.next k.next, fun id o ho hs => k.old id o (h.old id o ho hs) hs, fun id hi hn => k.low id (Nat.lt_of_lt_of_le hi h.next) (h.low id hi hn)⟩
theorem Keep.bump {S : Nat → Prop} (h : WF μ) (n : Nat) : Keep S μ (μ.bump n) := ⟨h.bump n, by simp, fun _ _ h _ => h, fun _ _ h => h⟩
/-- An object of S that lives is written. -/
theorem Keep.set {S : Nat → Prop} (h : WF μ) {i : Nat} {x o : AObj} (hx : μ.obj i = some x) (hf : S i) : Keep S μ (μ.set i o) := by
  refine ⟨h.set (h.lt hx), Nat.le_refl _, fun id y hy hs => ?_, fun id hi hn => ?_⟩
  · have : id ≠ i := fun e => hs (e ▸ hf)
    simp [this, hy]
  · have : id ≠ i := fun e => by rw [e, hx] at hn; cases hn
    simp [this, hn]
/-- An object of a number given since is written. -/
theorem Keep.setS {S : Nat → Prop} {μ0 : AMem} (h0 : WF μ0) (hs : Keep S μ0 μ) {i : Nat} {o : AObj} (h1 : μ0.next ≤ i) (h2 : i < μ.next) : Keep S μ0 (μ.set i o) := by
  refine ⟨hs.wf.set h2, hs.next, fun id x hx hS => ?_, fun id hi hn => ?_⟩
  · have : id ≠ i := by have := h0.lt hx; omega
    simp [this, hs.old id x hx hS]
  · have : id ≠ i := by omega
    simp [this, hs.low id hi hn]
def offS (S : Nat → Prop) : SV → Prop
  | .slice id _ _ _ => ¬ S id
  | .ptr id _ _ => ¬ S id
  | _ => True
theorem IsRow.keep {S : Nat → Prop} {μ' : AMem} {k : IntKind} {x : SV} {zs : List Int} (h : IsRow μ k x zs) (hk : Keep S μ μ') (hs : offS S x) : IsRow μ' k x zs := by
  rcases h with ⟨rfl, rfl⟩ | ⟨id, ver, off, o, rfl, ho, hv, hl, hc⟩
  · exact .inl ⟨rfl, rfl⟩
  · exact .inr ⟨id, ver, off, o, rfl, hk.old id o ho hs, hv, hl, hc⟩
/-- A row that was made. -/
theorem IsRow.new {k : IntKind} {id : Nat} {o : AObj} {zs : List Int} (ho : μ.obj id = some o) (hv : o.ver = 0) (hc : o.cells = zs.map (.int k)) : IsRow μ k (.slice id 0 0 zs.length) zs :=
  .inr ⟨id, 0, 0, o, rfl, ho, hv, by rw [hc]; simp, fun i n hi => by rw [hc, Nat.zero_add, List.getElem?_map, hi]; rfl⟩
theorem IsRow.made {k : IntKind} {id len : Nat} {zs : List Int} {o : AObj} (ho : μ.obj id = some o) (hl : len = zs.length) (hv : o.ver = 0) (hc : o.cells = zs.map (.int k)) : IsRow μ k (.slice id 0 0 len) zs := by
  subst hl; exact IsRow.new ho hv hc
theorem IsRow.arg {k : IntKind} {zs : List Int} {l : List Arg} {j : Nat} {a : Arg} (h : Arg.isRow k zs a) (hj : l[j]? = some a) : ∃ x, a.val j = .s x ∧ IsRow (argMem l) k x zs := by
  cases a with
  | nil => exact ⟨.nilSlice, rfl, .inl ⟨rfl, h⟩⟩
  | r k' zs' =>
    obtain ⟨rfl, rfl⟩ := h
    exact ⟨_, rfl, IsRow.new (o := rowA (zs'.map (.int k'))) (by simp [argMem, hj, Arg.obj]) rfl rfl⟩
  | _ => exact h.elim
/-- All that lived lives on as it was. -/
abbrev Same (μ μ' : AMem) : Prop := Keep (fun _ => False) μ μ'
theorem IsRow.same {μ' : AMem} {k : IntKind} {x : SV} {zs : List Int} (h : IsRow μ k x zs) (hk : Same μ μ') : IsRow μ' k x zs := h.keep hk (by cases x <;> simp [offS])
def isId : SV → Nat → Prop
  | .slice id _ _ _, j => id = j
  | _, _ => False
/-- A row of the call's own, not older than N, that begins its object. -/
def OwnRow (N : Nat) (μ : AMem) (k : IntKind) (e : TypeId) (x : SV) (zs : List Int) : Prop :=
  (x = .nilSlice ∧ zs = []) ∨ ∃ id ver o, x = .slice id ver 0 zs.length ∧ N ≤ id ∧ μ.obj id = some o ∧ o.own = true ∧ o.ver = ver ∧ o.size = 1 ∧ o.elem = e ∧ ∀ (i : Nat) n, zs[i]? = some n → o.cells[i]? = some (.int k n)
theorem cells_len {k : IntKind} {zs : List Int} {cs : List SV} (hc : ∀ (i : Nat) n, zs[i]? = some n → cs[i]? = some (.int k n)) : zs.length ≤ cs.length := by
  rcases Nat.eq_zero_or_pos zs.length with h0 | h0
  · omega
  · have := (List.getElem?_eq_some_iff.mp (hc (zs.length - 1) _ (List.getElem?_eq_getElem (by omega)))).1
    omega
theorem OwnRow.row {N : Nat} {k : IntKind} {e : TypeId} {x : SV} {zs : List Int} (h : OwnRow N μ k e x zs) : IsRow μ k x zs := by
  rcases h with ⟨rfl, rfl⟩ | ⟨id, ver, o, rfl, _, ho, _, hv, _, _, hc⟩
  · exact .inl ⟨rfl, rfl⟩
  · exact .inr ⟨id, ver, 0, o, rfl, ho, hv, by rw [Nat.zero_add]; exact cells_len hc, fun i n hi => by rw [Nat.zero_add]; exact hc i n hi⟩
theorem OwnRow.old {N : Nat} {μ' : AMem} {k : IntKind} {e : TypeId} {x : SV} {zs : List Int} (h : OwnRow N μ k e x zs) (hk : ∀ id o, μ.obj id = some o → isId x id → μ'.obj id = some o) : OwnRow N μ' k e x zs := by
  rcases h with ⟨rfl, rfl⟩ | ⟨id, ver, o, rfl, hN, ho, r⟩
  · exact .inl ⟨rfl, rfl⟩
  · exact .inr ⟨id, ver, o, rfl, hN, hk id o ho rfl, r⟩
theorem OwnRow.less {N M : Nat} {k : IntKind} {e : TypeId} {x : SV} {zs : List Int} (h : OwnRow N μ k e x zs) (hM : M ≤ N) : OwnRow M μ k e x zs := by
  rcases h with ⟨rfl, rfl⟩ | ⟨id, ver, o, rfl, hN, r⟩
  · exact .inl ⟨rfl, rfl⟩
  · exact .inr ⟨id, ver, o, rfl, Nat.le_trans hM hN, r⟩
theorem OwnRow.new {N : Nat} {k : IntKind} {e : TypeId} {id len : Nat} {zs : List Int} {o : AObj} (ho : μ.obj id = some o) (hN : N ≤ id) (hl : len = zs.length) (hw : o.own = true) (hv : o.ver = 0) (hs : o.size = 1) (he : o.elem = e) (hc : o.cells = zs.map (.int k)) :
    OwnRow N μ k e (.slice id 0 0 len) zs := .inr ⟨id, 0, o, by rw [hl], hN, ho, hw, hv, hs, he, fun i n hi => by rw [hc, List.getElem?_map, hi]; rfl⟩
theorem row_cells {k : IntKind} {y : SV} {ws : List Int} (h : IsRow μ k y ws) : lenS (.s y) = some ws.length ∧ μ.row 1 ws.length (.s y) = some (ws.map (.int k)) := by
  rcases h with ⟨rfl, rfl⟩ | ⟨id, ver, off, o, rfl, ho, hv, hl, hc⟩
  · exact ⟨rfl, rfl⟩
  · refine ⟨rfl, ?_⟩
    have hcs : (o.cells.drop off).take ws.length = ws.map (.int k) := by
      apply List.ext_getElem?
      intro i
      rw [List.getElem?_take, List.getElem?_drop, List.getElem?_map]
      split
      · rename_i hi
        rw [hc i _ (List.getElem?_eq_getElem hi), List.getElem?_eq_getElem hi]; rfl
      · rename_i hi
        rw [List.getElem?_eq_none (by omega)]; rfl
    simp only [AMem.row, ho, Option.bind_some, hv, Nat.mul_one, true_and, Nat.le_refl]
    rw [if_pos hl, hcs]
/-- A row is put behind a row of the call's own. -/
theorem OwnRow.append {N : Nat} {k : IntKind} {e : TypeId} {x y : SV} {zs ws : List Int} (hw : WF μ) (h : OwnRow N μ k e x zs) (hy : IsRow μ k y ws) {B nid : Nat} (hB : 1 ≤ B) (hb : (zs.length + ws.length) * B ≤ 140737488355328)
    (hN : N ≤ nid) (hlt : nid < μ.next) (hf : μ.obj nid = none) : ∃ x' μ', (∀ {R : Type} (K : AV → AMem → Option R), appendA e 1 B nid μ (.s x) (.s y) K = K (.s x') μ') ∧ OwnRow N μ' k e x' (zs ++ ws) ∧ WF μ' ∧ μ'.next = μ.next ∧
      ((∀ id o, μ.obj id = some o → ¬ isId x id → μ'.obj id = some o) ∧ (∀ id, id ≠ nid → μ.obj id = none → μ'.obj id = none)) ∧ (∀ id, isId x' id → isId x id ∨ id = nid) := by
  obtain ⟨hyl, hyr⟩ := row_cells hy
  have hmul : zs.length + ws.length ≤ (zs.length + ws.length) * B := Nat.le_mul_of_pos_right _ hB
  have hwl : ws.length * B ≤ (zs.length + ws.length) * B := Nat.mul_le_mul_right _ (by omega)
  by_cases hw0 : ws = []
  · subst hw0
    refine ⟨x, μ, fun K => ?_, by simpa using h, hw, rfl, ⟨fun _ _ h _ => h, fun _ _ h => h⟩, fun _ h => .inl h⟩
    rcases h with ⟨rfl, rfl⟩ | ⟨id, ver, o, rfl, hN', ho, how, hv, hs, he, hc⟩
    · simp only [appendA, hyl, Option.bind_some, hyr, appendS]; simp
    · have := cells_len hc
      simp only [appendA, hyl, Option.bind_some, hyr, appendS, ho, how, hv, hs, he]
      have h1 : zs.length * B ≤ 140737488355328 := by simpa using hb
      simp only [List.length_nil, Nat.add_zero, Nat.mul_one] at *
      rw [if_pos ⟨trivial, trivial, trivial, trivial, this, h1, by omega⟩]; simp
  · have hwp : ¬ ws.length = 0 := fun h => hw0 (List.eq_nil_of_length_eq_zero h)
    rcases h with ⟨rfl, rfl⟩ | ⟨id, ver, o, rfl, hN', ho, how, hv, hs, he, hc⟩
    · refine ⟨.slice nid 0 0 ws.length, μ.set nid (rowObj (ws.map (.int k)) 1 e none), fun K => ?_, ?_, hw.set hlt, rfl, ⟨fun id o ho _ => ?_, fun id hne hn => by simp [hne, hn]⟩, fun id h => .inr h.symm⟩
      · simp only [appendA, hyl, Option.bind_some, hyr, appendS]
        rw [if_pos ⟨by simpa using hb, by simp at hmul hb ⊢; omega⟩, if_neg hwp]
      · exact OwnRow.new (o := rowObj (ws.map (.int k)) 1 e none) (by simp) hN (by simp) rfl rfl rfl rfl (by simp [rowObj])
      · have : id ≠ nid := fun e => by subst e; rw [hf] at ho; cases ho
        simp [this, ho]
    · have hcl := cells_len hc
      refine ⟨.slice id (ver + 1) 0 (zs.length + ws.length), μ.set id (newVer o (o.cells.take zs.length ++ ws.map (.int k))), fun K => ?_, ?_, hw.set (hw.lt ho), rfl, ⟨fun id' o' ho' hne => ?_, fun id' hne' hn => ?_⟩, fun id' h => .inl h⟩
      · simp only [appendA, hyl, Option.bind_some, hyr, appendS, ho, how, hv, hs, he, Nat.mul_one]
        rw [if_pos ⟨trivial, trivial, trivial, trivial, hcl, hb, by omega⟩, if_neg hwp]
      · refine .inr ⟨id, ver + 1, newVer o (o.cells.take zs.length ++ ws.map (.int k)), by simp, hN', by simp, how, by simp [newVer, hv], hs, he, fun i n hi => ?_⟩
        show (o.cells.take zs.length ++ ws.map (.int k))[i]? = _
        have htl : (o.cells.take zs.length).length = zs.length := by simp [Nat.min_eq_left hcl]
        rw [List.getElem?_append] at hi ⊢
        rw [htl]
        split at hi
        · rename_i hlt'
          rw [if_pos hlt', List.getElem?_take, if_pos hlt']; exact hc i n hi
        · rename_i hlt'
          rw [if_neg hlt', List.getElem?_map, hi]; rfl
      · have : id' ≠ id := fun e => hne e.symm
        simp [this, ho']
      · have : id' ≠ id := fun e => by rw [e, ho] at hn; cases hn
        simp [this, hn]
/-- A number is put behind a row of the call's own: the literal's object, then the append. -/
theorem OwnRow.push {N : Nat} {k : IntKind} {e : TypeId} {x : SV} {zs : List Int} (hw : WF μ) (h : OwnRow N μ k e x zs) {B a b n : Nat} (v : Int) (hB : 1 ≤ B) (hb : (zs.length + 1) * B ≤ 140737488355328)
    (hN : N ≤ μ.next) (ha : a < n) (hbn : b < n) (hab : a ≠ b) {q : Option Nat} : ∃ x' μ', (∀ {R : Type} (K : AV → AMem → Option R), appendA e 1 B (μ.next + b) ((μ.bump n).set (μ.next + a) (rowObj [.int k v] 1 e q)) (.s x) (.s (.slice (μ.next + a) 0 0 1)) K = K (.s x') μ') ∧
      OwnRow N μ' k e x' (zs ++ [v]) ∧ WF μ' ∧ μ.next ≤ μ'.next ∧ ((∀ id o, μ.obj id = some o → ¬ isId x id → μ'.obj id = some o) ∧ (∀ id, id < μ.next → μ.obj id = none → μ'.obj id = none)) ∧ (∀ id, isId x' id → isId x id ∨ μ.next ≤ id) := by
  have hw1 : WF ((μ.bump n).set (μ.next + a) (rowObj [.int k v] 1 e q)) := (hw.bump n).set (by simp [ha])
  have hy : IsRow ((μ.bump n).set (μ.next + a) (rowObj [.int k v] 1 e q)) k (.slice (μ.next + a) 0 0 1) [v] := IsRow.made (o := rowObj [.int k v] 1 e q) (by simp) rfl rfl rfl
  have hold : ∀ id o, μ.obj id = some o → ((μ.bump n).set (μ.next + a) (rowObj [.int k v] 1 e q)).obj id = some o := fun id o ho => by
    have := hw.lt ho
    have : id ≠ μ.next + a := by omega
    simp [this, ho]
  have hf : ((μ.bump n).set (μ.next + a) (rowObj [.int k v] 1 e q)).obj (μ.next + b) = none := by
    have : μ.next + b ≠ μ.next + a := by omega
    rw [set_obj, if_neg this]
    exact hw _ (by omega)
  obtain ⟨x', μ', g1, g2, g3, g4, g5, g6⟩ := OwnRow.append (B := B) (nid := μ.next + b) hw1 (h.old fun id o ho _ => hold id o ho) hy hB (by simpa using hb) (by omega) (by simp [hbn]) hf
  refine ⟨x', μ', g1, g2, g3, by rw [g4]; simp, ⟨fun id o ho hx => g5.1 id o (hold id o ho) hx, fun id hi hn => g5.2 id (by omega) (by rw [set_obj, if_neg (by omega)]; exact hn)⟩, fun j hx => (g6 j hx).imp (fun h => h) fun e => by omega⟩
theorem OwnRow.nil (N : Nat) (μ : AMem) (k : IntKind) (e : TypeId) : OwnRow N μ k e .nilSlice [] := .inl ⟨rfl, rfl⟩
/-- A row of the call's own is not of those that lived. -/
theorem OwnRow.notOld {N : Nat} {k : IntKind} {e : TypeId} {x : SV} {zs : List Int} (h : OwnRow N μ k e x zs) {id : Nat} (hi : id < N) : ¬ isId x id := by
  rcases h with ⟨rfl, rfl⟩ | ⟨j, ver, o, rfl, hN, _⟩
  · exact fun h => h
  · intro h
    have : j = id := h
    omega
theorem Same.push {μ0 μ' : AMem} {k : IntKind} {e : TypeId} {x : SV} {zs : List Int} (h0 : WF μ0) (hs : Same μ0 μ) (h : OwnRow μ0.next μ k e x zs) (hw : WF μ') (hn : μ.next ≤ μ'.next)
    (hk : (∀ id o, μ.obj id = some o → ¬ isId x id → μ'.obj id = some o) ∧ (∀ id, id < μ.next → μ.obj id = none → μ'.obj id = none)) : Same μ0 μ' :=
  ⟨hw, Nat.le_trans hs.next hn, fun id o ho hf => hk.1 id o (hs.old id o ho hf) (h.notOld (h0.lt ho)), fun id hi hno => hk.2 id (Nat.lt_of_lt_of_le hi hs.next) (hs.low id hi hno)⟩
theorem Same.bumpSet (hw : WF μ) {n a : Nat} (ha : a < n) (o : AObj) : Same μ ((μ.bump n).set (μ.next + a) o) :=
  Keep.setS hw (Keep.bump hw n) (by omega) (by simp [ha])
end
end Go.Proofs.Ytchapaejdgnihaa.E
