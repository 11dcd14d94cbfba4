/- The abstract machine is sound, part 1: what an abstract value, an abstract memory say of the model's; how they live on. -/
import Derived.Test.YtchapaejdgnihaaE0
import Derived.Laws.AppendOwn
import Derived.Laws.CopyRow
import Derived.Laws.Rows
import Derived.Laws.Cells
namespace Go.Proofs.Ytchapaejdgnihaa.E
open Go
set_option linter.unusedVariables false

/-- Where an object lies: its block, its first cell, its capacity in elements. -/
structure Loc where
  b : Nat
  o : Nat
  cap : Nat

def PtrR (ι : Nat → Loc) (μ : AMem) (id ver off : Nat) (v : Value) : Prop :=
  ∃ o, μ.obj id = some o ∧ ver ≤ o.ver ∧ ∃ a, v = .pointer (some a) ∧ (o.ver = ver → a = ⟨(ι id).b, (ι id).o + off, none⟩)
def SliceR (ι : Nat → Loc) (μ : AMem) (id ver off len : Nat) (v : Value) : Prop :=
  ∃ o, μ.obj id = some o ∧ ver ≤ o.ver ∧ ∃ a cap, v = .slice (some a) len cap ∧ len ≤ cap ∧
    (o.ver = ver → (off = 0 → cap = (ι id).cap) ∧ (a = ⟨(ι id).b, (ι id).o + off, none⟩ ∨ cap = 0))
def SVR (ι : Nat → Loc) (μ : AMem) (x : SV) (v : Value) : Prop :=
  match x with
  | .int k n => v = .int k n
  | .bool b => v = .bool b
  | .nilPtr => v = .pointer none
  | .ptr id ver off => PtrR ι μ id ver off v
  | .nilSlice => v = .slice none 0 0
  | .slice id ver off len => SliceR ι μ id ver off len v
  | .nilFunc => v = .nilFunc
  | .func f caps => ∃ cvs : Array Value, v = .func (.func f) #[] cvs ∧ cvs.size = caps.length ∧ ∀ (i : Nat) (c : Nat × Nat × Nat), caps[i]? = some c → ∃ u, cvs[i]? = some u ∧ PtrR ι μ c.1 c.2.1 c.2.2 u
  | .undef => v.oneCell' = true
def All2 {α β : Type} (R : α → β → Prop) (l : List α) (m : List β) : Prop := m.length = l.length ∧ ∀ (i : Nat) x, l[i]? = some x → ∃ y, m[i]? = some y ∧ R x y
mutual
def AVR (ι : Nat → Loc) (μ : AMem) : AV → Value → Prop
  | .s y, v => SVR ι μ y v
  | .agg l, v => ∃ cs : Array Value, v = .agg cs ∧ All2 (SVR ι μ) l cs.toList
  | .tuple l, v => ∃ vs : Array Value, v = .tuple vs ∧ AVRs ι μ l vs.toList
  | .unk, _ => True
def AVRs (ι : Nat → Loc) (μ : AMem) : List AV → List Value → Prop
  | [], m => m = []
  | x :: l, m => ∃ y m', m = y :: m' ∧ AVR ι μ x y ∧ AVRs ι μ l m'
end

theorem SVR.one {ι : Nat → Loc} {μ : AMem} {x : SV} {v : Value} (h : SVR ι μ x v) : v.oneCell' = true := by
  cases x with
  | ptr id ver off => obtain ⟨_, _, _, a, rfl, _⟩ := h; rfl
  | slice id ver off len => obtain ⟨_, _, _, a, c, rfl, _⟩ := h; rfl
  | func f caps => obtain ⟨_, rfl, _⟩ := h; rfl
  | undef => exact h
  | _ => first | (cases h; rfl) | (simp only [SVR] at h; subst h; rfl)

/-- The world goes on: what lives on, with what it is known by. -/
def Ext (ι : Nat → Loc) (μ : AMem) (ι' : Nat → Loc) (μ' : AMem) : Prop :=
  ∀ id o, μ.obj id = some o → ∃ o', μ'.obj id = some o' ∧ o.ver ≤ o'.ver ∧ (o'.ver = o.ver → ι' id = ι id ∧ o'.size = o.size)
theorem Ext.refl (ι : Nat → Loc) (μ : AMem) : Ext ι μ ι μ := fun _ o h => ⟨o, h, Nat.le_refl _, fun _ => ⟨rfl, rfl⟩⟩
theorem Ext.trans {ι ι1 ι2 : Nat → Loc} {μ μ1 μ2 : AMem} (h : Ext ι μ ι1 μ1) (k : Ext ι1 μ1 ι2 μ2) : Ext ι μ ι2 μ2 := by
  intro id o ho
  obtain ⟨o1, h1, l1, e1⟩ := h id o ho
  obtain ⟨o2, h2, l2, e2⟩ := k id o1 h1
  refine ⟨o2, h2, Nat.le_trans l1 l2, fun he => ?_⟩
  obtain ⟨a1, a2⟩ := e1 (by omega)
  obtain ⟨b1, b2⟩ := e2 (by omega)
  exact ⟨b1.trans a1, b2.trans a2⟩
section
variable {ι ι' : Nat → Loc} {μ μ' : AMem}
theorem PtrR.mono (hx : Ext ι μ ι' μ') {id ver off : Nat} {v : Value} (h : PtrR ι μ id ver off v) : PtrR ι' μ' id ver off v := by
  obtain ⟨o, ho, hv, a, rfl, ha⟩ := h
  obtain ⟨o', ho', hl, he⟩ := hx id o ho
  refine ⟨o', ho', Nat.le_trans hv hl, a, rfl, fun hh => ?_⟩
  obtain ⟨e1, _⟩ := he (by omega)
  rw [ha (by omega), e1]
theorem SVR.mono (hx : Ext ι μ ι' μ') {x : SV} {v : Value} (h : SVR ι μ x v) : SVR ι' μ' x v := by
  cases x with
  | ptr id ver off => exact PtrR.mono hx h
  | slice id ver off len =>
    obtain ⟨o, ho, hv, a, c, rfl, hc, ha⟩ := h
    obtain ⟨o', ho', hl, he⟩ := hx id o ho
    refine ⟨o', ho', Nat.le_trans hv hl, a, c, rfl, hc, fun hh => ?_⟩
    obtain ⟨e1, _⟩ := he (by omega)
    rw [e1]
    exact ha (by omega)
  | func f caps =>
    obtain ⟨cvs, rfl, hs, hc⟩ := h
    refine ⟨cvs, rfl, hs, fun i c hi => ?_⟩
    obtain ⟨u, hu, hp⟩ := hc i c hi
    exact ⟨u, hu, hp.mono hx⟩
  | _ => exact h
theorem All2.imp {α β : Type} {R S : α → β → Prop} {l : List α} {m : List β} (h : All2 R l m) (k : ∀ x y, R x y → S x y) : All2 S l m :=
  ⟨h.1, fun i x hi => let ⟨y, hy, hr⟩ := h.2 i x hi; ⟨y, hy, k _ _ hr⟩⟩
mutual
theorem AVR.mono' (hx : Ext ι μ ι' μ') : ∀ (x : AV) (v : Value), AVR ι μ x v → AVR ι' μ' x v
  | .s y, v, h => by unfold AVR at h ⊢; exact SVR.mono hx h
  | .agg l, v, h => by
    unfold AVR at h ⊢
    obtain ⟨cs, rfl, hc⟩ := h; exact ⟨cs, rfl, hc.imp fun _ _ => SVR.mono hx⟩
  | .tuple l, v, h => by
    unfold AVR at h ⊢
    obtain ⟨cs, rfl, hc⟩ := h; exact ⟨cs, rfl, AVRs.mono hx l _ hc⟩
  | .unk, v, h => by unfold AVR; trivial
theorem AVRs.mono (hx : Ext ι μ ι' μ') : ∀ (l : List AV) (m : List Value), AVRs ι μ l m → AVRs ι' μ' l m
  | [], m, h => h
  | x :: l, m, h => by
    unfold AVRs at h ⊢
    obtain ⟨y, m', e, h1, h2⟩ := h
    exact ⟨y, m', e, AVR.mono' hx x y h1, AVRs.mono hx l m' h2⟩
end
theorem AVR.mono (hx : Ext ι μ ι' μ') {x : AV} {v : Value} (h : AVR ι μ x v) : AVR ι' μ' x v := AVR.mono' hx x v h
end

theorem All2.nil {α β : Type} (R : α → β → Prop) : All2 R [] [] := ⟨rfl, fun _ _ h => by simp at h⟩
theorem All2.cons {α β : Type} {R : α → β → Prop} {x : α} {y : β} {l : List α} {m : List β} (h : R x y) (k : All2 R l m) : All2 R (x :: l) (y :: m) := by
  refine ⟨by simp [k.1], fun i z hz => ?_⟩
  cases i with
  | zero => simp at hz; subst hz; exact ⟨y, rfl, h⟩
  | succ i => simpa using k.2 i z (by simpa using hz)
theorem All2.cons_inv {α β : Type} {R : α → β → Prop} {x : α} {l : List α} {m : List β} (h : All2 R (x :: l) m) : ∃ y m', m = y :: m' ∧ R x y ∧ All2 R l m' := by
  cases m with
  | nil => have := h.1; simp at this
  | cons y m' =>
    refine ⟨y, m', rfl, ?_, ⟨by have := h.1; simpa using this, fun i z hz => by simpa using h.2 (i + 1) z (by simpa using hz)⟩⟩
    obtain ⟨z, hz, hr⟩ := h.2 0 x rfl
    simp at hz; subst hz; exact hr
theorem All2.nil_inv {α β : Type} {R : α → β → Prop} {m : List β} (h : All2 R [] m) : m = [] := List.eq_nil_of_length_eq_zero (by simpa using h.1)
theorem All2.append {α β : Type} {R : α → β → Prop} {l l' : List α} {m m' : List β} (h : All2 R l m) (k : All2 R l' m') : All2 R (l ++ l') (m ++ m') := by
  refine ⟨by simp [h.1, k.1], fun i x hx => ?_⟩
  rw [List.getElem?_append] at hx ⊢
  rw [h.1]
  split at hx
  · rename_i hi; rw [if_pos hi]; exact h.2 i x hx
  · rename_i hi; rw [if_neg hi]; exact k.2 _ x hx
theorem All2.take {α β : Type} {R : α → β → Prop} {l : List α} {m : List β} (h : All2 R l m) (n : Nat) : All2 R (l.take n) (m.take n) := by
  refine ⟨by simp [h.1], fun i x hx => ?_⟩
  rw [List.getElem?_take] at hx ⊢
  split at hx
  · rename_i hi; rw [if_pos hi]; exact h.2 i x hx
  · simp at hx
theorem All2.drop {α β : Type} {R : α → β → Prop} {l : List α} {m : List β} (h : All2 R l m) (n : Nat) : All2 R (l.drop n) (m.drop n) := by
  refine ⟨by simp [h.1], fun i x hx => ?_⟩
  rw [List.getElem?_drop] at hx ⊢
  exact h.2 _ x hx

theorem AVRs_iff {ι : Nat → Loc} {μ : AMem} : ∀ {l : List AV} {m : List Value}, AVRs ι μ l m ↔ All2 (AVR ι μ) l m
  | [], m => ⟨fun h => by unfold AVRs at h; subst h; exact All2.nil _, fun h => by unfold AVRs; exact h.nil_inv⟩
  | x :: l, m => by
    unfold AVRs
    constructor
    · rintro ⟨y, m', rfl, h1, h2⟩; exact All2.cons h1 (AVRs_iff.mp h2)
    · intro h; obtain ⟨y, m', e, h1, h2⟩ := h.cons_inv; exact ⟨y, m', e, h1, AVRs_iff.mpr h2⟩

/-- All cells of a block are single ones; behind what is known of a row of a first version are zeros. -/
def Sp (P : Program) (o : AObj) (arr : Array Value) : Prop := (∀ (j : Nat) v, arr[j]? = some v → v.oneCell' = true) ∧
  (o.ver = 0 → o.size = 1 → ∀ j, o.cells.length ≤ j → j < arr.size → ∃ i z, P.info? o.elem = some i ∧ i.zero = some z ∧ arr[j]? = z.cells[0]?)
/-- An object, and its block. -/
structure ObjR (P : Program) (ι : Nat → Loc) (μ : AMem) (w : World) (id : Nat) (o : AObj) : Prop where
  ex : ∃ arr e fr, w.heap[(ι id).b]? = some (.cells arr e fr) ∧
    (∀ (j : Nat) x, o.cells[j]? = some x → ∃ v, arr[(ι id).o + j]? = some v ∧ SVR ι μ x v) ∧
    (o.own = true → (ι id).o = 0 ∧ fr = (0, 0) ∧ e = o.elem ∧ arr.size = (ι id).cap * o.size ∧ (ι id).cap ≤ maxLen)
  cap : ∀ c, o.cap = some c → (ι id).cap = c
  sp : o.own = true → ∀ arr e fr, w.heap[(ι id).b]? = some (.cells arr e fr) → Sp P o arr
structure Sim (P : Program) (ι : Nat → Loc) (μ : AMem) (w : World) : Prop where
  live : ∀ id o, μ.obj id = some o → id < μ.next ∧ ObjR P ι μ w id o
  sep : ∀ i j oi oj, μ.obj i = some oi → μ.obj j = some oj → oi.own = true → i ≠ j → (ι i).b ≠ (ι j).b
/-- One step, or many: a world with its abstract memory, and the next one. -/
structure Tr (P : Program) (ι : Nat → Loc) (μ : AMem) (w : World) (ι' : Nat → Loc) (μ' : AMem) (w' : World) : Prop where
  sim : Sim P ι' μ' w'
  ext : Ext ι μ ι' μ'
  next : μ.next ≤ μ'.next
  os : w'.os = w.os
  tape : w'.tape = w.tape
  output : w'.output = w.output
  size : w.heap.size ≤ w'.heap.size
  block : ∀ b, b < w.heap.size → (∀ id o, μ.obj id = some o → o.own = true → (ι id).b ≠ b) → w'.heap[b]? = w.heap[b]?
  own : ∀ id o', μ'.obj id = some o' → o'.own = true → (∃ o, μ.obj id = some o ∧ o.own = true ∧ (ι' id).b = (ι id).b) ∨ w.heap.size ≤ (ι' id).b
variable {P : Program}
theorem Tr.refl {ι : Nat → Loc} {μ : AMem} {w : World} (h : Sim P ι μ w) : Tr P ι μ w ι μ w :=
  ⟨h, Ext.refl _ _, Nat.le_refl _, rfl, rfl, rfl, Nat.le_refl _, fun _ _ _ => rfl, fun _ o' ho' hw => .inl ⟨o', ho', hw, rfl⟩⟩
theorem Tr.trans {ι ι1 ι2 : Nat → Loc} {μ μ1 μ2 : AMem} {w w1 w2 : World} (h : Tr P ι μ w ι1 μ1 w1) (k : Tr P ι1 μ1 w1 ι2 μ2 w2) : Tr P ι μ w ι2 μ2 w2 := by
  refine ⟨k.sim, h.ext.trans k.ext, Nat.le_trans h.next k.next, k.os.trans h.os, k.tape.trans h.tape, k.output.trans h.output, Nat.le_trans h.size k.size, ?_, ?_⟩
  · intro b hb hne
    rw [k.block b (Nat.lt_of_lt_of_le hb h.size) ?_, h.block b hb hne]
    intro id o1 ho1 hw1 e
    rcases h.own id o1 ho1 hw1 with ⟨o, ho, hw, heq⟩ | hge
    · exact hne id o ho hw (heq ▸ e)
    · omega
  · intro id o2 ho2 hw2
    rcases k.own id o2 ho2 hw2 with ⟨o1, ho1, hw1, heq1⟩ | hge
    · rcases h.own id o1 ho1 hw1 with ⟨o, ho, hw, heq⟩ | hge
      · exact .inl ⟨o, ho, hw, heq1.trans heq⟩
      · exact .inr (by omega)
    · exact .inr (Nat.le_trans h.size hge)

/-- The world alone goes on, by draws. -/
theorem Sim.drewN {ι : Nat → Loc} {μ : AMem} {w : World} (h : Sim P ι μ w) {w' : World} (hh : w'.heap = w.heap) : Sim P ι μ w' := by
  refine ⟨fun id o ho => ⟨(h.live id o ho).1, ⟨?_, (h.live id o ho).2.cap, ?_⟩⟩, h.sep⟩
  · rw [hh]; exact (h.live id o ho).2.ex
  · rw [hh]; exact (h.live id o ho).2.sp
theorem Sim.bump {ι : Nat → Loc} {μ : AMem} {w : World} (h : Sim P ι μ w) (n : Nat) : Sim P ι (μ.bump n) w := by
  refine ⟨fun id o ho => ?_, h.sep⟩
  obtain ⟨h1, h2⟩ := h.live id o ho
  exact ⟨Nat.lt_of_lt_of_le h1 (Nat.le_add_right _ _), h2.ex, h2.cap, h2.sp⟩
theorem Tr.bump {ι : Nat → Loc} {μ : AMem} {w : World} (h : Sim P ι μ w) (n : Nat) : Tr P ι μ w ι (μ.bump n) w :=
  ⟨h.bump n, Ext.refl _ _, Nat.le_add_right _ _, rfl, rfl, rfl, Nat.le_refl _, fun _ _ _ => rfl, fun _ o' ho' hw => .inl ⟨o', ho', hw, rfl⟩⟩

/-! ### Cells -/
theorem oneCell_agg {v : Value} (h : v.oneCell' = true) : v.cells = #[v] := by cases v <;> first | rfl | (simp [Value.oneCell'] at h)
theorem Sim.cell {ι : Nat → Loc} {μ : AMem} {w : World} (h : Sim P ι μ w) {id ver off : Nat} {x : SV} (hc : μ.cell id ver off = some x) :
    ∃ o v, μ.obj id = some o ∧ o.ver = ver ∧ w.cell? ⟨(ι id).b, (ι id).o + off, none⟩ = some v ∧ SVR ι μ x v := by
  unfold AMem.cell at hc
  obtain ⟨o, ho, hc⟩ := Option.bind_eq_some_iff.mp hc
  split at hc
  · rename_i hv
    obtain ⟨arr, e, fr, hb, hcells, _⟩ := (h.live id o ho).2.ex
    obtain ⟨v, hv1, hv2⟩ := hcells off x hc
    exact ⟨o, v, ho, hv, by simp [World.cell?, hb, hv1], hv2⟩
  · cases hc
/-- A new object. -/
theorem Tr.alloc {ι : Nat → Loc} {μ : AMem} {w : World} (h : Sim P ι μ w) {nid : Nat} (hn : nid < μ.next) (hfree : μ.obj nid = none)
    (o : AObj) (ho : o.ver = 0) (arr : Array Value) (cap : Nat) (hs : arr.size = cap * o.size) (hm : cap ≤ maxLen)
    (hc : ∀ (j : Nat) x, o.cells[j]? = some x → ∃ v, arr[j]? = some v ∧ SVR ι μ x v) (hcap : ∀ c, o.cap = some c → cap = c) (hsp : Sp P o arr)
    {w0 : World} (hh : w0.heap = w.heap) (h1 : w0.os = w.os) (h2 : w0.tape = w.tape) (h3 : w0.output = w.output) :
    Tr P ι μ w (fun j => if j = nid then ⟨w.heap.size, 0, cap⟩ else ι j) (μ.set nid o) (w0.alloc (.cells arr o.elem)) := by
  have hne : ∀ id x, μ.obj id = some x → id ≠ nid := fun id x hx e => by subst e; rw [hfree] at hx; cases hx
  have hext : Ext ι μ (fun j => if j = nid then ⟨w.heap.size, 0, cap⟩ else ι j) (μ.set nid o) := by
    intro id x hx
    have := hne id x hx
    exact ⟨x, by simp [AMem.set, this, hx], Nat.le_refl _, fun _ => ⟨by simp [this], rfl⟩⟩
  have hlt : ∀ id x, μ.obj id = some x → (ι id).b < w.heap.size := by
    intro id x hx
    obtain ⟨arr', e, fr, hb, _⟩ := (h.live id x hx).2.ex
    exact (Array.getElem?_eq_some_iff.1 hb).1
  have hold : ∀ b, b < w.heap.size → (w0.alloc (.cells arr o.elem)).heap[b]? = w.heap[b]? := by
    intro b hb
    rw [heap_alloc_old _ _ _ (by rw [hh]; exact hb), hh]
  have hnew : (w0.alloc (.cells arr o.elem)).heap[w.heap.size]? = some (.cells arr o.elem) := by
    have := heap_alloc_new w0 (.cells arr o.elem)
    rwa [hh] at this
  have hsz : (w0.alloc (.cells arr o.elem)).heap.size = w.heap.size + 1 := by
    show (w0.heap.push _).size = _
    rw [Array.size_push, hh]
  refine ⟨⟨?_, ?_⟩, hext, Nat.le_refl _, h1, h2, h3, by omega, fun b hb _ => hold b hb, ?_⟩
  · intro id x hx
    by_cases e : id = nid
    · subst e
      simp only [AMem.set, if_true] at hx
      obtain rfl := Option.some.inj hx
      refine ⟨hn, ⟨arr, o.elem, (0, 0), by simpa using hnew, ?_, fun _ => ⟨by simp, rfl, rfl, by simpa using hs, by simpa using hm⟩⟩, fun c hcc => by simpa using hcap c hcc, fun _ arr' e' fr' hb' => ?_⟩
      · intro j y hy
        obtain ⟨v, hv, hr⟩ := hc j y hy
        exact ⟨v, by simpa using hv, hr.mono hext⟩
      · simp only [if_true] at hb'
        rw [hnew] at hb'
        cases hb'
        exact hsp
    · simp only [AMem.set, if_neg e] at hx
      obtain ⟨g1, ⟨arr', e', fr, hb, hcs, hown⟩, g3, g4⟩ := h.live id x hx
      refine ⟨g1, ⟨arr', e', fr, ?_, ?_, ?_⟩, ?_, ?_⟩
      · simp only [if_neg e]; rw [hold _ (hlt id x hx)]; exact hb
      · intro j y hy
        obtain ⟨v, hv, hr⟩ := hcs j y hy
        exact ⟨v, by simpa only [if_neg e] using hv, hr.mono hext⟩
      · simpa only [if_neg e] using hown
      · simpa only [if_neg e] using g3
      · simp only [if_neg e]; rw [hold _ (hlt id x hx)]; exact g4
  · intro i j oi oj hi hj hw hij
    by_cases ei : i = nid
    · subst ei
      have ej : j ≠ i := fun e => hij e.symm
      simp only [AMem.set, if_neg ej] at hj
      have := hlt j oj hj
      simp only [if_true, if_neg ej]
      omega
    · by_cases ej : j = nid
      · subst ej
        simp only [AMem.set, if_neg ei] at hi
        have := hlt i oi hi
        simp only [if_true, if_neg ei]
        omega
      · simp only [AMem.set, if_neg ei, if_neg ej] at hi hj ⊢
        exact h.sep i j oi oj hi hj hw hij
  · intro id x hx hw
    by_cases e : id = nid
    · right; subst e; simp
    · left
      simp only [AMem.set, if_neg e] at hx
      exact ⟨x, hx, hw, by simp [e]⟩
/-- An object of the call's own is changed where it lies. -/
theorem Tr.change {ι : Nat → Loc} {μ : AMem} {w : World} (h : Sim P ι μ w) {id : Nat} {o o' : AObj} (ho : μ.obj id = some o) (hw : o.own = true)
    (hown : o'.own = true) (hsize : o'.size = o.size) (helem : o'.elem = o.elem) (hver : o.ver ≤ o'.ver) (hcap : o'.cap = o.cap ∨ o'.cap = none)
    (arr : Array Value) (hs : arr.size = (ι id).cap * o.size)
    (hc : ∀ (j : Nat) x, o'.cells[j]? = some x → ∃ v, arr[j]? = some v ∧ SVR ι μ x v) (hsp : Sp P o' arr) :
    Tr P ι μ w ι (μ.set id o') (w.setRow (ι id).b arr) := by
  obtain ⟨g1, ⟨arr0, e0, fr0, hb, hcs, hown0⟩, g3, g4⟩ := h.live id o ho
  obtain ⟨q1, q2, q3, q4, q5⟩ := hown0 hw
  subst q2 q3
  have hext : Ext ι μ ι (μ.set id o') := by
    intro i x hx
    by_cases e : i = id
    · subst e
      rw [ho] at hx
      obtain rfl := Option.some.inj hx
      exact ⟨o', by simp [AMem.set], hver, fun _ => ⟨rfl, hsize⟩⟩
    · exact ⟨x, by simp [AMem.set, e, hx], Nat.le_refl _, fun _ => ⟨rfl, rfl⟩⟩
  have hne : ∀ i x, μ.obj i = some x → i ≠ id → (ι i).b ≠ (ι id).b := fun i x hx e => (h.sep id i o x ho hx hw (fun e' => e e'.symm)).symm
  refine ⟨⟨?_, ?_⟩, hext, Nat.le_refl _, rfl, rfl, rfl, by simp [World.setRow], ?_, ?_⟩
  · intro i x hx
    by_cases e : i = id
    · subst e
      simp only [AMem.set, if_true] at hx
      obtain rfl := Option.some.inj hx
      refine ⟨g1, ⟨arr, o.elem, (0, 0), setRow_heap w _ arr0 arr _ _ hb, ?_, fun _ => ⟨q1, rfl, helem.symm, by rw [hsize]; exact hs, q5⟩⟩, ?_, fun _ arr' e' fr' hb' => ?_⟩
      · intro j y hy
        obtain ⟨v, hv, hr⟩ := hc j y hy
        exact ⟨v, by rw [q1, Nat.zero_add]; exact hv, hr.mono hext⟩
      · intro c hcc
        rcases hcap with e | e
        · exact g3 c (e ▸ hcc)
        · rw [e] at hcc; cases hcc
      · rw [setRow_heap w _ arr0 arr _ _ hb] at hb'
        cases hb'
        exact hsp
    · simp only [AMem.set, if_neg e] at hx
      obtain ⟨k1, ⟨arr', e', fr, hb', hcs', hown'⟩, k3, k4⟩ := h.live i x hx
      refine ⟨k1, ⟨arr', e', fr, ?_, ?_, hown'⟩, k3, ?_⟩
      · rw [setRow_other _ _ _ _ (hne i x hx e)]; exact hb'
      · intro j y hy
        obtain ⟨v, hv, hr⟩ := hcs' j y hy
        exact ⟨v, hv, hr.mono hext⟩
      · rw [setRow_other _ _ _ _ (hne i x hx e)]; exact k4
  · intro i j oi oj hi hj hwi hij
    have key : ∀ k ok, (μ.set id o').obj k = some ok → ∃ ok0, μ.obj k = some ok0 ∧ (ok.own = true → ok0.own = true) := by
      intro k ok hk
      by_cases e : k = id
      · subst e; exact ⟨o, ho, fun _ => hw⟩
      · simp only [AMem.set, if_neg e] at hk; exact ⟨ok, hk, fun x => x⟩
    obtain ⟨oi0, hi0, hwi0⟩ := key i oi hi
    obtain ⟨oj0, hj0, _⟩ := key j oj hj
    exact h.sep i j oi0 oj0 hi0 hj0 (hwi0 hwi) hij
  · intro b _ hb'
    exact setRow_other _ _ _ _ (fun e => hb' id o ho hw e.symm)
  · intro i x hx hwx
    left
    by_cases e : i = id
    · subst e; exact ⟨o, ho, hw, rfl⟩
    · simp only [AMem.set, if_neg e] at hx; exact ⟨x, hx, hwx, rfl⟩
/-- An object of the call's own goes to a new block. -/
theorem Tr.moved {ι : Nat → Loc} {μ : AMem} {w : World} (h : Sim P ι μ w) {id : Nat} {o o' : AObj} (ho : μ.obj id = some o)
    (hsize : o'.size = o.size) (hver : o.ver < o'.ver) (hcap : o'.cap = none)
    (arr : Array Value) (cap : Nat) (hs : arr.size = cap * o.size) (hm : cap ≤ maxLen)
    (hc : ∀ (j : Nat) x, o'.cells[j]? = some x → ∃ v, arr[j]? = some v ∧ SVR ι μ x v) (hsp : Sp P o' arr)
    {w0 : World} (hh : w0.heap = w.heap) (h1 : w0.os = w.os) (h2 : w0.tape = w.tape) (h3 : w0.output = w.output) :
    Tr P ι μ w (fun j => if j = id then ⟨w.heap.size, 0, cap⟩ else ι j) (μ.set id o') (w0.alloc (.cells arr o'.elem)) := by
  have hext : Ext ι μ (fun j => if j = id then ⟨w.heap.size, 0, cap⟩ else ι j) (μ.set id o') := by
    intro i x hx
    by_cases e : i = id
    · subst e
      rw [ho] at hx
      obtain rfl := Option.some.inj hx
      exact ⟨o', by simp [AMem.set], Nat.le_of_lt hver, fun e => by omega⟩
    · exact ⟨x, by simp [AMem.set, e, hx], Nat.le_refl _, fun _ => ⟨by simp [e], rfl⟩⟩
  have hlt : ∀ i x, μ.obj i = some x → (ι i).b < w.heap.size := by
    intro i x hx
    obtain ⟨arr', e, fr, hb, _⟩ := (h.live i x hx).2.ex
    exact (Array.getElem?_eq_some_iff.1 hb).1
  have hold : ∀ b, b < w.heap.size → (w0.alloc (.cells arr o'.elem)).heap[b]? = w.heap[b]? := by
    intro b hb
    rw [heap_alloc_old _ _ _ (by rw [hh]; exact hb), hh]
  have hnew : (w0.alloc (.cells arr o'.elem)).heap[w.heap.size]? = some (.cells arr o'.elem) := by
    have := heap_alloc_new w0 (.cells arr o'.elem)
    rwa [hh] at this
  have hsz : (w0.alloc (.cells arr o'.elem)).heap.size = w.heap.size + 1 := by
    show (w0.heap.push _).size = _
    rw [Array.size_push, hh]
  obtain ⟨g1, _, _⟩ := h.live id o ho
  refine ⟨⟨?_, ?_⟩, hext, Nat.le_refl _, h1, h2, h3, by omega, fun b hb _ => hold b hb, ?_⟩
  · intro i x hx
    by_cases e : i = id
    · subst e
      simp only [AMem.set, if_true] at hx
      obtain rfl := Option.some.inj hx
      refine ⟨g1, ⟨arr, o'.elem, (0, 0), by simpa using hnew, ?_, fun _ => ⟨by simp, rfl, rfl, by simpa [hsize] using hs, by simpa using hm⟩⟩, fun c hcc => by (rw [hcap] at hcc; cases hcc), fun _ arr' e' fr' hb' => ?_⟩
      · intro j y hy
        obtain ⟨v, hv, hr⟩ := hc j y hy
        exact ⟨v, by simpa using hv, hr.mono hext⟩
      · simp only [if_true] at hb'
        rw [hnew] at hb'
        cases hb'
        exact hsp
    · simp only [AMem.set, if_neg e] at hx
      obtain ⟨k1, ⟨arr', e', fr, hb, hcs, hown⟩, k3, k4⟩ := h.live i x hx
      refine ⟨k1, ⟨arr', e', fr, ?_, ?_, ?_⟩, ?_, ?_⟩
      · simp only [if_neg e]; rw [hold _ (hlt i x hx)]; exact hb
      · intro j y hy
        obtain ⟨v, hv, hr⟩ := hcs j y hy
        exact ⟨v, by simpa only [if_neg e] using hv, hr.mono hext⟩
      · simpa only [if_neg e] using hown
      · simpa only [if_neg e] using k3
      · simp only [if_neg e]; rw [hold _ (hlt i x hx)]; exact k4
  · intro i j oi oj hi hj hwi hij
    by_cases ei : i = id
    · subst ei
      have ej : j ≠ i := fun e => hij e.symm
      simp only [AMem.set, if_neg ej] at hj
      have := hlt j oj hj
      simp only [if_true, if_neg ej]
      omega
    · by_cases ej : j = id
      · subst ej
        simp only [AMem.set, if_neg ei] at hi
        have := hlt i oi hi
        simp only [if_true, if_neg ei]
        omega
      · simp only [AMem.set, if_neg ei, if_neg ej] at hi hj ⊢
        exact h.sep i j oi oj hi hj hwi hij
  · intro i x hx hwx
    by_cases e : i = id
    · right; subst e; simp
    · left
      simp only [AMem.set, if_neg e] at hx
      exact ⟨x, hx, hwx, by simp [e]⟩

/-- Where all is known nothing is behind it. -/
theorem Sp.full {ι : Nat → Loc} {μ : AMem} {o : AObj} {arr : Array Value} (h : All2 (SVR ι μ) o.cells arr.toList) : Sp P o arr := by
  have hl := h.1
  rw [Array.length_toList] at hl
  refine ⟨fun j v hj => ?_, fun _ _ j h1 h2 => by omega⟩
  have hlt := (Array.getElem?_eq_some_iff.1 hj).1
  obtain ⟨u, hu, hr⟩ := h.2 j o.cells[j] (List.getElem?_eq_getElem (by omega))
  rw [Array.getElem?_toList, hj] at hu
  obtain rfl := Option.some.inj hu
  exact hr.one
/-- A later version: single cells alone. -/
theorem Sp.later {o : AObj} {arr : Array Value} (hv : o.ver ≠ 0) (h : ∀ u ∈ arr.toList, u.oneCell' = true) : Sp P o arr :=
  ⟨fun j v hj => h v (Array.mem_toList_iff.2 (Array.mem_of_getElem? hj)), fun h0 => absurd h0 hv⟩
end Go.Proofs.Ytchapaejdgnihaa.E
