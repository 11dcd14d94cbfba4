/- A number is written into a row of the call's own. -/
import Derived.Test.YtchapaejdgnihaaKPush
namespace Go.Proofs.Ytchapaejdgnihaa
open Go Go.Proofs.Ytchapaejdgnihaa.E
set_option linter.unusedVariables false
set_option linter.unusedSimpArgs false
theorem overA_get (cs : List SV) (i : Nat) (v : SV) (h : i < cs.length) (j : Nat) : (overA cs i [v])[j]? = if j = i then some v else cs[j]? := by
  unfold overA
  have htl : (cs.take i).length = i := by simp; omega
  rw [List.append_assoc, List.getElem?_append, htl]
  split
  · rename_i h1
    rw [if_neg (by omega), List.getElem?_take, if_pos h1]
  · rename_i h1
    rw [List.getElem?_append]
    simp only [List.length_cons, List.length_nil]
    split
    · rename_i h2
      have : j = i := by omega
      rw [if_pos this, this, Nat.sub_self]; rfl
    · rename_i h2
      rw [if_neg (by omega), List.getElem?_drop]
      congr 1; omega
theorem storeS {μ0 m : AMem} (h0 : WF μ0) (hs : Same μ0 m) {k : IntKind} {e : TypeId} {x : SV} {zs : List Int} (h : OwnRow μ0.next m k e x zs) {i : Nat} (hi : i < zs.length) (v : Int) :
    ∃ m', (∀ {R : Type} (K : AMem → Option R), storeAt 1 m (plc x (i : Int)) (.s (.int k v)) K = K m') ∧ Same μ0 m' ∧ OwnRow μ0.next m' k e x (zs.set i v) ∧ m'.next = m.next ∧ (∀ id o, m.obj id = some o → ¬ isId x id → m'.obj id = some o) ∧ (∀ id, m.obj id = none → m'.obj id = none) := by
  rcases h with ⟨rfl, rfl⟩ | ⟨id, ver, o, rfl, hN, ho, how, hv, hsz, he, hc⟩
  · simp at hi
  · have hcl := cells_len hc
    have hne : ∀ j p, m.obj j = some p → ¬ isId (.slice id ver 0 zs.length) j → j ≠ id := fun j p _ hh e => hh e.symm
    have hnone : ∀ j, m.obj j = none → j ≠ id := fun j hj e => by rw [e, ho] at hj; cases hj
    refine ⟨m.set id { o with cells := overA o.cells i [.int k v] }, fun K => ?_, ⟨hs.wf.set (hs.wf.lt ho), hs.next, fun j p hp hf => ?_, fun j hj hno => ?_⟩, ?_, rfl, fun j p hp hh => ?_, fun j hj => ?_⟩
    · have hii : (0 + (i : Int).toNat * 1) = i := by omega
      simp only [storeAt, plc, AV.cells, AMem.store, ho, Option.bind_some, hii, List.length_singleton, if_true]
      rw [if_pos ⟨how, hv, by omega⟩, Option.bind_some]
    · have : j ≠ id := by have := h0.lt hp; omega
      rw [set_obj, if_neg this]; exact hs.old j p hp hf
    · have : j ≠ id := by omega
      rw [set_obj, if_neg this]; exact hs.low j hj hno
    · refine .inr ⟨id, ver, { o with cells := overA o.cells i [.int k v] }, by simp, hN, by simp, how, hv, hsz, he, fun j n hj => ?_⟩
      show (overA o.cells i [.int k v])[j]? = _
      rw [overA_get _ _ _ (by omega)]
      rw [List.getElem?_set] at hj
      split at hj
      · rename_i hij
        rw [if_pos hij.symm]
        cases hj; rfl
      · rename_i hij
        rw [if_neg (fun e => hij e.symm)]; exact hc j n hj
    · rw [set_obj, if_neg (hne j p hp hh)]; exact hp
    · rw [set_obj, if_neg (hnone j hj)]; exact hj
/-- Another row stays. -/
theorem rowOther {m m' : AMem} {k : IntKind} {x y : SV} {zs : List Int} (hy : IsRow m k y zs) (hxy : Apart x y) (g : ∀ id o, m.obj id = some o → ¬ isId x id → m'.obj id = some o) : IsRow m' k y zs := by
  rcases hy with ⟨rfl, rfl⟩ | ⟨id, ver, off, o, rfl, ho, r⟩
  · exact .inl ⟨rfl, rfl⟩
  · exact .inr ⟨id, ver, off, o, rfl, g id o ho fun h => hxy id h rfl, r⟩
theorem row_lives {m : AMem} {k : IntKind} {y : SV} {zs : List Int} (hy : IsRow m k y zs) {id : Nat} (h : isId y id) : ∃ o, m.obj id = some o := by
  rcases hy with ⟨rfl, _⟩ | ⟨j, ver, off, o, rfl, ho, r⟩
  · exact h.elim
  · have : j = id := h
    exact ⟨o, this ▸ ho⟩
/-- A row that lived before is apart from one of the call's own. -/
theorem apart_old {μ0 m : AMem} (h0 : WF μ0) {k k' : IntKind} {e : TypeId} {x y : SV} {zs ws : List Int} (hx : OwnRow μ0.next m k e x zs) (hy : IsRow μ0 k' y ws) : Apart x y := fun id h1 h2 => by
  obtain ⟨o, ho⟩ := row_lives hy h2
  have := h0.lt ho
  have := (own_lives hx h1).1
  omega
/-- A row of the call's own is written: all else stays. -/
theorem storeK {N : Nat} {m : AMem} (hw : WF m) {k : IntKind} {e : TypeId} {x : SV} {zs : List Int} (h : OwnRow N m k e x zs) {i : Nat} (hi : i < zs.length) (v : Int) :
    ∃ m', (∀ {R : Type} (K : AMem → Option R), storeAt 1 m (plc x (i : Int)) (.s (.int k v)) K = K m') ∧ Keep (isId x) m m' ∧ OwnRow N m' k e x (zs.set i v) ∧ m'.next = m.next := by
  rcases h with ⟨rfl, rfl⟩ | ⟨id, ver, o, rfl, hN, ho, how, hv, hsz, he, hc⟩
  · simp at hi
  · have hcl := cells_len hc
    refine ⟨m.set id { o with cells := overA o.cells i [.int k v] }, fun K => ?_, Keep.set hw ho rfl, ?_, rfl⟩
    · have hii : (0 + (i : Int).toNat * 1) = i := by omega
      simp only [storeAt, plc, AV.cells, AMem.store, ho, Option.bind_some, hii, List.length_singleton, if_true]
      rw [if_pos ⟨how, hv, by omega⟩, Option.bind_some]
    · refine .inr ⟨id, ver, { o with cells := overA o.cells i [.int k v] }, by simp, hN, by simp, how, hv, hsz, he, fun j n hj => ?_⟩
      show (overA o.cells i [.int k v])[j]? = _
      rw [overA_get _ _ _ (by omega)]
      rw [List.getElem?_set] at hj
      split at hj
      · rename_i hij
        rw [if_pos hij.symm]
        cases hj; rfl
      · rename_i hij
        rw [if_neg (fun e => hij e.symm)]; exact hc j n hj
/-- A number behind a row of the call's own: only that row changes. -/
theorem pushK {N : Nat} {μ : AMem} (hw : WF μ) {k : IntKind} {e : TypeId} {x : SV} {zs : List Int} (h : OwnRow N μ k e x zs) {B a b n : Nat} (v : Int) (hB : 1 ≤ B) (hb : (zs.length + 1) * B ≤ 140737488355328) (hN : N ≤ μ.next) (ha : a < n) (hbn : b < n) (hab : a ≠ b) {q : Option Nat} :
    ∃ x' μ', (∀ {R : Type} (K : AV → AMem → Option R), appendA e 1 B (μ.next + b) ((μ.bump n).set (μ.next + a) (rowObj [.int k v] 1 e q)) (.s x) (.s (.slice (μ.next + a) 0 0 1)) K = K (.s x') μ') ∧ Keep (isId x) μ μ' ∧ OwnRow N μ' k e x' (zs ++ [v]) ∧ ∀ j, isId x' j → isId x j ∨ μ.next ≤ j := by
  obtain ⟨x', μ', p1, p2, p3, p4, p5, p6⟩ := OwnRow.push (B := B) (a := a) (b := b) (n := n) (q := q) hw h v hB hb hN ha hbn hab
  exact ⟨x', μ', p1, ⟨p3, p4, p5.1, p5.2⟩, p2, p6⟩
theorem E.Keep.weak0 {S T : Nat → Prop} {μ μ' : AMem} (h : Keep S μ μ') (hST : ∀ j, S j → T j) : Keep T μ μ' := ⟨h.wf, h.next, fun id o ho hf => h.old id o ho fun hs => hf (hST id hs), h.low⟩
theorem keepSame {μ0 m m' : AMem} {S : Nat → Prop} (h0 : WF μ0) (hs : Same μ0 m) (hk : Keep S m m') (hS : ∀ j, S j → μ0.next ≤ j) : Same μ0 m' :=
  ⟨hk.wf, Nat.le_trans hs.next hk.next, fun id o ho hf => hk.old id o (hs.old id o ho hf) fun h => by have := hS id h; have := h0.lt ho; omega, fun id hi hn => hk.low id (Nat.lt_of_lt_of_le hi hs.next) (hs.low id hi hn)⟩
theorem rowKeep {m m' : AMem} {S : Nat → Prop} {k : IntKind} {y : SV} {zs : List Int} (hy : IsRow m k y zs) (hk : Keep S m m') (hS : ∀ j, S j → ¬ isId y j) : IsRow m' k y zs := by
  rcases hy with ⟨rfl, rfl⟩ | ⟨id, ver, off, o, rfl, ho, r⟩
  · exact .inl ⟨rfl, rfl⟩
  · exact .inr ⟨id, ver, off, o, rfl, hk.old id o ho fun h => hS id h rfl, r⟩
theorem ownKeep {N : Nat} {m m' : AMem} {S : Nat → Prop} {k : IntKind} {e : TypeId} {y : SV} {zs : List Int} (hy : OwnRow N m k e y zs) (hk : Keep S m m') (hS : ∀ j, S j → ¬ isId y j) : OwnRow N m' k e y zs :=
  hy.old fun id o ho hi => hk.old id o ho fun h => hS id h hi
end Go.Proofs.Ytchapaejdgnihaa
