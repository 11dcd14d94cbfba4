/- The abstract machine is sound, part 8: from a law's plain answer to the model's call. -/
import Derived.Test.YtchapaejdgnihaaE10
import Derived.Below
import Derived.WalkKit
import Derived.ChangeSlices
import Derived.SizedLaws
namespace Go.Proofs.Ytchapaejdgnihaa.E
open Go Go.RowKit
set_option linter.unusedVariables false
section
variable {P : Program}
theorem Sound.cond {g n : FuncId} {F G : FunA} (h : Sound P n F) (k : Sound P g G) : Sound P g (bif Nat.beq g n then F else G) := by
  cases hb : Nat.beq g n with
  | true => rw [Nat.eq_of_beq_eq_true hb]; exact h
  | false => exact k
/-- Arguments of a law. -/
inductive Arg where
  | i (k : IntKind) (n : Int)
  | tf (b : Bool)
  | nil
  | r (k : IntKind) (zs : List Int)
  | rs (k : IntKind) (zs : List Int) (len : Nat)
def rowA (l : List SV) : AObj := { cells := l, size := 1, elem := 0, ver := 0, own := false, cap := none }
def Arg.obj : Arg → Option AObj
  | .r k zs => some (rowA (zs.map (.int k)))
  | .rs k zs _ => some (rowA (zs.map (.int k)))
  | _ => none
def Arg.val (j : Nat) : Arg → AV
  | .i k n => .s (.int k n)
  | .tf b => .s (.bool b)
  | .nil => .s .nilSlice
  | .r _ zs => .s (.slice j 0 0 zs.length)
  | .rs _ _ len => .s (.slice j 0 0 len)
def argMem (as : List Arg) : AMem := ⟨as.length, fun j => (as[j]?).bind Arg.obj⟩
def argVals (j : Nat) : List Arg → List AV
  | [] => []
  | a :: l => a.val j :: argVals (j + 1) l
def ArgR (W : World) : Arg → Value → Prop
  | .i k n, v => v = .int k n
  | .tf b, v => v = .bool b
  | .nil, v => v = .slice none 0 0
  | .r k zs, v => ∃ x cap arr e fr, v = .slice (some x) zs.length cap ∧ zs.length ≤ cap ∧ x.spot = none ∧ W.heap[x.block]? = some (.cells arr e fr) ∧ ∀ i n, zs[i]? = some n → arr[x.off + i]? = some (.int k n)
  | .rs k zs len, v => ∃ x cap arr e fr, v = .slice (some x) len cap ∧ len ≤ cap ∧ x.spot = none ∧ W.heap[x.block]? = some (.cells arr e fr) ∧ ∀ i n, zs[i]? = some n → arr[x.off + i]? = some (.int k n)
def locOf : Option Value → Loc
  | some (.slice (some x) _ cap) => ⟨x.block, x.off, cap⟩
  | _ => ⟨0, 0, 0⟩
theorem argVals_get : ∀ (as : List Arg) (j i : Nat), (argVals j as)[i]? = (as[i]?).map (Arg.val (j + i))
  | [], j, i => by simp [argVals]
  | a :: l, j, 0 => by simp [argVals]
  | a :: l, j, i + 1 => by simp only [argVals, List.getElem?_cons_succ]; rw [argVals_get l (j + 1) i]; congr 2; omega
theorem argVals_length : ∀ (as : List Arg) (j : Nat), (argVals j as).length = as.length
  | [], j => rfl
  | a :: l, j => by simp [argVals, argVals_length l]
theorem args_sim {W : World} {as : List Arg} {vs : List Value} (h : All2 (ArgR W) as vs) : Sim P (fun j => locOf vs[j]?) (argMem as) W := by
  have hown : ∀ id o, (argMem as).obj id = some o → ∃ (a : Arg) (k : IntKind) (zs : List Int), as[id]? = some a ∧ o = rowA (zs.map (.int k)) ∧
      ∀ v, ArgR W a v → ∃ x len cap arr e fr, v = .slice (some x) len cap ∧ x.spot = none ∧ W.heap[x.block]? = some (.cells arr e fr) ∧ ∀ i n, zs[i]? = some n → arr[x.off + i]? = some (.int k n) := by
    intro id o ho
    obtain ⟨a, ha, hao⟩ := Option.bind_eq_some_iff.mp ho
    cases a with
    | r k zs => cases hao; exact ⟨_, k, zs, ha, rfl, fun v ⟨x, cap, arr, e, fr, h1, h2, h3, h4, h5⟩ => ⟨x, _, cap, arr, e, fr, h1, h3, h4, h5⟩⟩
    | rs k zs len => cases hao; exact ⟨_, k, zs, ha, rfl, fun v ⟨x, cap, arr, e, fr, h1, h2, h3, h4, h5⟩ => ⟨x, _, cap, arr, e, fr, h1, h3, h4, h5⟩⟩
    | _ => cases hao
  refine ⟨fun id o ho => ?_, fun i j oi oj hi hj hw hij => ?_⟩
  · obtain ⟨a, k, zs, ha, rfl, hr⟩ := hown id o ho
    refine ⟨(List.getElem?_eq_some_iff.mp ha).1, ?_, fun c hc => (by cases hc), fun hw => by cases hw⟩
    obtain ⟨v, hv, hva⟩ := h.2 id _ ha
    obtain ⟨x, len, cap, arr, e, fr, rfl, hsp, hb, hc⟩ := hr v hva
    refine ⟨arr, e, fr, ?_, ?_, fun hw => by cases hw⟩
    · show W.heap[(locOf vs[id]?).b]? = _; rw [hv]; exact hb
    · intro j y hy
      simp only [rowA, List.getElem?_map] at hy
      obtain ⟨n, hn, rfl⟩ := Option.map_eq_some_iff.mp hy
      refine ⟨.int k n, ?_, rfl⟩
      show arr[(locOf vs[id]?).o + j]? = _
      rw [hv]
      exact hc j n hn
  · obtain ⟨a, k, zs, ha, rfl, _⟩ := hown i oi hi
    cases hw
theorem args_rel {W : World} {as : List Arg} {vs : List Value} (h : All2 (ArgR W) as vs) : All2 (AVR (fun j => locOf vs[j]?) (argMem as)) (argVals 0 as) vs := by
  refine ⟨by rw [argVals_length]; exact h.1, fun i x hx => ?_⟩
  rw [argVals_get, Nat.zero_add] at hx
  obtain ⟨a, ha, rfl⟩ := Option.map_eq_some_iff.mp hx
  obtain ⟨v, hv, hr⟩ := h.2 i a ha
  refine ⟨v, hv, ?_⟩
  cases a with
  | i k n => unfold Arg.val AVR; exact hr
  | tf b => unfold Arg.val AVR; exact hr
  | nil => unfold Arg.val AVR; exact hr
  | r k zs =>
    obtain ⟨x, cap, arr, e, fr, rfl, hle, hsp, hb, hc⟩ := hr
    unfold Arg.val AVR
    refine ⟨rowA (zs.map (.int k)), ?_, Nat.le_refl _, x, cap, rfl, hle, fun _ => ⟨fun _ => ?_, .inl ?_⟩⟩
    · simp [argMem, ha, Arg.obj]
    · show cap = (locOf vs[i]?).cap; rw [hv]; rfl
    · show x = ⟨(locOf vs[i]?).b, (locOf vs[i]?).o + 0, none⟩; rw [hv]; show x = ⟨x.block, x.off + 0, none⟩; rw [← hsp]; rfl
  | rs k zs len =>
    obtain ⟨x, cap, arr, e, fr, rfl, hle, hsp, hb, hc⟩ := hr
    unfold Arg.val AVR
    refine ⟨rowA (zs.map (.int k)), ?_, Nat.le_refl _, x, cap, rfl, hle, fun _ => ⟨fun _ => ?_, .inl ?_⟩⟩
    · simp [argMem, ha, Arg.obj]
    · show cap = (locOf vs[i]?).cap; rw [hv]; rfl
    · show x = ⟨(locOf vs[i]?).b, (locOf vs[i]?).o + 0, none⟩; rw [hv]; show x = ⟨x.block, x.off + 0, none⟩; rw [← hsp]; rfl
theorem argMem_own {as : List Arg} {id : Nat} {o : AObj} (h : (argMem as).obj id = some o) : o.own = false := by
  obtain ⟨a, ha, hao⟩ := Option.bind_eq_some_iff.mp h
  cases a <;> cases hao <;> rfl
/-- A law's plain answer is the model's. -/
theorem Sound.row {f : FuncId} {F : FunA} (hS : Sound P f F) {W : World} {as : List Arg} {vs : List Value} (h : All2 (ArgR W) as vs) {μ' : AMem}
    (hF : F (argVals 0 as) (argMem as) = some (.s (.bool true), μ')) : Calls P f vs.toArray W (fun e W' => e = .returned (.bool true) ∧ Below W.heap.size W W') := by
  obtain ⟨_, hc⟩ := hS _ _ _ _ hF
  refine (hc _ W vs (args_sim h) (args_rel h)).mono fun e W' hp => ?_
  obtain ⟨ι', v, rfl, ht, _, hv⟩ := hp
  have : v = .bool true := hv
  subst this
  exact ⟨rfl, ht.os, ht.tape, ht.output, ht.size, fun b hb => ht.block b hb fun id o ho hw => by rw [argMem_own ho] at hw; cases hw⟩
/-- A row of numbers, nil or not. -/
def Arg.isRow (k : IntKind) (zs : List Int) : Arg → Prop
  | .nil => zs = []
  | .r k' zs' => k' = k ∧ zs' = zs
  | _ => False
theorem row_arg {H : Type} {enc : TypeId × Value → H} {W : World} {b0 base : Nat} {sp : Nat → Bool} {held : Bool} {t e : TypeId} {k : IntKind} {v : Value} {d : DataW H} {ps : List MemPlace}
    (ht : P.underlying t = some (.slice e)) (he : P.underlying e = some (.int k)) (hc : P.cellsOf e = 1) (hval : Value.okWide P W .any b0 t v) (hd : DataW.Trod enc P W base sp held t v d ps) :
    ∃ a zs, ArgR W a v ∧ Arg.isRow k zs a ∧ (∀ n ∈ zs, (Lit.int k n).wf = true) ∧ ∃ x cap, v = .slice x zs.length cap := by
  obtain ⟨fuel, hf⟩ := hd
  obtain ⟨a0, len0, cap0, rfl⟩ := Go.WideShapes.okWide_slice ht hval
  rcases Go.ChangeShapes.open_ints ht he hc hf with ⟨hcs, _⟩ | ⟨x, l, c, zs, hcs, _, hl, hm, hz, _, hcell, hwz⟩
  · simp [Value.cells] at hcs
    obtain ⟨rfl, rfl, rfl⟩ := hcs
    exact ⟨.nil, [], rfl, rfl, (fun _ h => by cases h), none, 0, rfl⟩
  · simp [Value.cells] at hcs
    obtain ⟨rfl, rfl, rfl⟩ := hcs
    simp only [Value.okWide, ht, Cell.okWide, Cell.ok] at hval
    obtain ⟨_, _, _, hsp, row, cells, hsh, _⟩ := hval
    have hlen : len0 ≤ zs.length := by rw [hz]; split <;> omega
    have hln : (zs.take len0).length = len0 := by simp [Nat.min_eq_left hlen]
    unfold World.shape? at hsh
    split at hsh
    · rename_i arr e' fr hb
      refine ⟨.r k (zs.take len0), zs.take len0, ⟨x, cap0, arr, e', fr, by rw [hln], by rw [hln]; exact hl, hsp, hb, fun i n hi => ?_⟩, ⟨rfl, rfl⟩, fun n hn => hwz n (List.mem_of_mem_take hn), some x, cap0, by rw [hln]⟩
      rw [List.getElem?_take] at hi
      split at hi
      · have hiz := (List.getElem?_eq_some_iff.mp hi).1
        have := hcell i hiz
        have hx : x.add i = ⟨x.block, x.off + i, none⟩ := by
          unfold Addr.add; split
          · subst_vars; show x = ⟨x.block, x.off + 0, none⟩; rw [← hsp]; rfl
          · rfl
        rw [hx] at this
        simp only [World.cell?, hb, Option.isSome_none, Bool.false_eq_true, if_false] at this
        rw [this, List.getD_eq_getElem?_getD, hi]; rfl
      · cases hi
    · cases hsh
/-- A row of records of numbers, nil or not: how many, and all the numbers. -/
def Arg.isRecs (k : IntKind) (zs : List Int) (len : Nat) : Arg → Prop
  | .nil => zs = [] ∧ len = 0
  | .rs k' zs' len' => k' = k ∧ zs' = zs ∧ len' = len
  | _ => False
def recB (P : Program) (k : IntKind) (fs : Array Field) : Bool := fs.toList.zipIdx.all fun p => p.1.offset == p.2 && (match P.underlying p.1.type with | some (.int k') => decide (k' = k) | _ => false) && P.cellsOf p.1.type == 1
theorem recB_is {k : IntKind} {fs : Array Field} (h : recB P k fs = true) {i : Nat} {f : Field} (hf : fs[i]? = some f) : f.offset = i ∧ P.underlying f.type = some (.int k) ∧ P.cellsOf f.type = 1 := by
  have hm : (f, i) ∈ fs.toList.zipIdx := by
    rw [List.mem_zipIdx_iff_getElem?]; simpa using hf
  have := List.all_eq_true.mp h _ hm
  simp only [Bool.and_eq_true, beq_iff_eq] at this
  obtain ⟨⟨h1, h2⟩, h3⟩ := this
  refine ⟨h1, ?_, h3⟩
  cases hu : P.underlying f.type with
  | none => rw [hu] at h2; cases h2
  | some d =>
    rw [hu] at h2
    cases d <;> simp at h2
    rw [h2]
def numC : Option Value → Int
  | some (.int _ n) => n
  | _ => 0
theorem rec_arg {H : Type} {enc : TypeId × Value → H} {W : World} {b0 base : Nat} {sp : Nat → Bool} {held : Bool} {t e : TypeId} {k : IntKind} {fs : Array Field} {m : Nat} {v : Value} {d : DataW H} {ps : List MemPlace}
    (ht : P.underlying t = some (.slice e)) (he : P.underlying e = some (.struct fs)) (hc : P.cellsOf e = m) (hm : fs.size = m) (hm0 : 0 < m) (hfs : recB P k fs = true) (hval : Value.okWide P W .any b0 t v) (hd : DataW.Trod enc P W base sp held t v d ps) :
    ∃ a zs len, ArgR W a v ∧ Arg.isRecs k zs len a ∧ zs.length = len * m ∧ (∀ n ∈ zs, (Lit.int k n).wf = true) := by
  obtain ⟨fuel, hf⟩ := hd
  obtain ⟨a0, len0, cap0, rfl⟩ := Go.WideShapes.okWide_slice ht hval
  rcases DataW.trod_slice ht hf with ⟨hcs, _⟩ | ⟨x, l, c, elems, rest, n, _, hcs, _, hb, hl, hm2, hlen, hel, _⟩
  · simp [Value.cells] at hcs
    obtain ⟨rfl, rfl, rfl⟩ := hcs
    exact ⟨.nil, [], 0, rfl, ⟨rfl, rfl⟩, by simp, (fun _ h => by cases h)⟩
  · simp [Value.cells] at hcs
    obtain ⟨rfl, rfl, rfl⟩ := hcs
    simp only [Value.okWide, ht, Cell.okWide, Cell.ok] at hval
    obtain ⟨_, _, _, hsp, row, cells, hsh, _⟩ := hval
    have each : ∀ i j, i < len0 → j < m → ∃ n, (Lit.int k n).wf = true ∧ W.cell? ((x.add (i * m)).add j) = some (.int k n) := by
      intro i j hi hj
      have h1 := hel i hi
      rw [List.getElem?_eq_getElem (by omega), Option.bind_eq_some_iff, hc] at h1
      obtain ⟨cs, h2, h3⟩ := h1
      obtain ⟨xs, n2, _, _, h4, h5, h6⟩ := DataW.trod_struct he h3
      have hjf : j < fs.size := by omega
      have hfj : fs[j]? = some fs[j] := Array.getElem?_eq_getElem hjf
      obtain ⟨g1, g2, g3⟩ := recB_is hfs hfj
      have h7 := h6 j _ hfj
      rw [g1, g3, List.getElem?_eq_getElem (by omega)] at h7
      obtain ⟨n, h8, _, h9⟩ := DataW.trod_int g2 h7
      refine ⟨n, h9, ?_⟩
      rw [(World.cells?_some h2).2.2 j hj]
      have h10 : ((cs.drop j).take 1)[0]? = some (.int k n) := by rw [h8]; rfl
      rw [List.getElem?_take, if_pos (by omega), List.getElem?_drop, Nat.add_zero] at h10
      exact h10
    unfold World.shape? at hsh
    split at hsh
    · rename_i arr e' fr hb'
      have hadd : ∀ q, (x.add q) = ⟨x.block, x.off + q, none⟩ := fun q => by
        unfold Addr.add; split
        · subst_vars; show x = ⟨x.block, x.off + 0, none⟩; rw [← hsp]; rfl
        · rfl
      have hadd2 : ∀ a b q, (Addr.add ⟨a, b, none⟩ q) = ⟨a, b + q, none⟩ := fun a b q => by
        unfold Addr.add; split
        · subst_vars; rfl
        · rfl
      have hq : ∀ q, q < len0 * m → ∃ n, (Lit.int k n).wf = true ∧ arr[x.off + q]? = some (.int k n) := fun q hq => by
        have hi : q / m < len0 := Nat.div_lt_of_lt_mul (by rw [Nat.mul_comm]; exact hq)
        have hj : q % m < m := Nat.mod_lt _ hm0
        obtain ⟨n, h1, h2⟩ := each (q / m) (q % m) hi hj
        refine ⟨n, h1, ?_⟩
        rw [hadd, hadd2] at h2
        simp only [World.cell?, hb', Option.isSome_none, Bool.false_eq_true, if_false] at h2
        rw [Nat.add_assoc, show q / m * m + q % m = q by rw [Nat.mul_comm]; exact Nat.div_add_mod q m] at h2
        exact h2
      refine ⟨.rs k ((List.range (len0 * m)).map fun q => numC arr[x.off + q]?) len0, _, len0, ⟨x, cap0, arr, e', fr, rfl, hl, hsp, hb', fun i n hi => ?_⟩, ⟨rfl, rfl, rfl⟩, by simp, fun n hn => ?_⟩
      · rw [List.getElem?_map] at hi
        obtain ⟨q, hq1, hq2⟩ := Option.map_eq_some_iff.mp hi
        have hql := (List.getElem?_eq_some_iff.mp hq1).1
        rw [List.length_range] at hql
        rw [List.getElem?_range hql] at hq1
        cases hq1
        obtain ⟨n', _, h3⟩ := hq i hql
        rw [h3] at hq2
        rw [h3, ← hq2]; rfl
      · obtain ⟨q, hq1, rfl⟩ := List.mem_map.mp hn
        obtain ⟨n', h2, h3⟩ := hq q (List.mem_range.mp hq1)
        rw [h3]; exact h2
    · cases hsh
/-- A row of numbers is no longer than its weight allows. -/
theorem row_sized {H : Type} {enc : TypeId × Value → H} {W : World} {base : Nat} {spare : Nat → Bool} {held : Bool} {t e : TypeId} {k : IntKind} {a : Option Addr} {len cap : Nat} {d : DataW H} {ps : List MemPlace} {ts : List TypeId} {ds : List (DataW H)} {j : Nat}
    (hsz : (DataW.weightsEach P ts ds).all (· ≤ reachBytes) = true) (ht : ts[j]? = some t) (hd : ds[j]? = some d) (hu : P.underlying t = some (.slice e)) (he : P.underlying e = some (.int k)) (hc : P.cellsOf e = 1) {B : Nat} (hB : P.bytesOf e = B)
    (h : DataW.Trod enc P W base spare held t (.slice a len cap) d ps) : len * B ≤ 140737488351232 := by
  obtain ⟨fuel, hf⟩ := h
  rcases Go.ChangeShapes.open_ints hu he hc hf with ⟨hcs, _⟩ | ⟨x, l, c, zs, hcs, _, hl, _, hz, hx, _, _⟩
  · simp [Value.cells] at hcs
    obtain ⟨rfl, rfl, rfl⟩ := hcs
    simp
  · simp [Value.cells] at hcs
    obtain ⟨rfl, rfl, rfl⟩ := hcs
    obtain ⟨hx, _⟩ := Prod.mk.inj hx
    subst hx
    have z := Go.sized_slice hsz ht hd hu
    rw [hB] at z
    have hl2 : len ≤ zs.length := by rw [hz]; split <;> omega
    have h1 : (Go.ChangeShapes.lits (H := H) k (zs.take len)).length + (Go.ChangeShapes.lits (H := H) k (zs.drop len)).length = zs.length := by
      simp [Go.ChangeShapes.lits]; omega
    rw [h1] at z
    exact Nat.le_trans (Nat.mul_le_mul_right _ hl2) z
end
end Go.Proofs.Ytchapaejdgnihaa.E
