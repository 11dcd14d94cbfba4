/- Tables in a law: additions of literals, drops; laws of counts. -/
import Derived.Test.YtkikncdhmifkaaaQRefs
namespace Go.Proofs.Ytkikncdhmifkaaa
open Go Go.Proofs.Ytkikncdhmifkaaa.E
set_option linter.unusedVariables false
set_option linter.unusedSimpArgs false
theorem apart_fresh {N : Nat} {m : AMem} (hw : WF m) {k : IntKind} {e : TypeId} {s : SV} {cs : List Int} (h : OwnRow N m k e s cs) (a v o l : Nat) : Apart s (.slice (m.next + a) v o l) := fun id h1 h2 => by
  obtain ⟨_, ob, ho⟩ := own_lives h h1
  have := hw.lt ho
  have : m.next + a = id := h2
  omega
theorem tab_same {μ0 m m' : AMem} (h0 : WF μ0) (hs : Same μ0 m) {x s : SV} {cs : List Int} (h : Tab μ0.next m x s cs) (hk : Keep (isId s) m m') : Same μ0 m' := keepSame h0 hs hk fun j hj => h.ids hj
theorem addS {μ0 m : AMem} (h0 : WF μ0) (hs : Same μ0 m) {x s y : SV} {cs ls : List Int} (h : Tab μ0.next m x s cs) (hy : IsRow m .i64 y ls) (hap : Apart s y) (hb : ls.length ≤ 100000) (hf : fits cs ls.length) :
    (ls.all (mayI cs) = false → refs_Table_Add [.s x, .s y] m = some (.s (.bool false), m)) ∧
    (ls.all (mayI cs) = true → ∃ m', refs_Table_Add [.s x, .s y] m = some (.s (.bool true), m') ∧ Same μ0 m' ∧ Tab μ0.next m' x s (addZ cs ls) ∧ Keep (isId s) m m') := by
  have ha := add_is hs.wf h hy hap hb hf
  refine ⟨ha.1, fun hall => ?_⟩
  obtain ⟨m', q1, q2, q3⟩ := ha.2 hall
  exact ⟨m', q1, tab_same h0 hs h q2, q3, q2⟩
theorem add1 {μ0 m : AMem} (h0 : WF μ0) (hs : Same μ0 m) {x s : SV} {cs : List Int} (h : Tab μ0.next m x s cs) {n a : Nat} (ha : a < n) (v : Int) (hf : fits cs 1) :
    (mayI cs v = false → refs_Table_Add [.s x, .s (.slice (m.next + a) 0 0 1)] ((m.bump n).set (m.next + a) (rowObj [.int .i64 v] 1 3 (some 1))) = some (.s (.bool false), (m.bump n).set (m.next + a) (rowObj [.int .i64 v] 1 3 (some 1)))) ∧
    (mayI cs v = true → ∃ m', refs_Table_Add [.s x, .s (.slice (m.next + a) 0 0 1)] ((m.bump n).set (m.next + a) (rowObj [.int .i64 v] 1 3 (some 1))) = some (.s (.bool true), m') ∧ Same μ0 m' ∧ Tab μ0.next m' x s (incZ cs v)) := by
  have k := Same.bumpSet hs.wf ha (rowObj [.int .i64 v] 1 3 (some 1))
  have hy : IsRow ((m.bump n).set (m.next + a) (rowObj [.int .i64 v] 1 3 (some 1))) .i64 (.slice (m.next + a) 0 0 1) [v] := IsRow.made (o := rowObj [.int .i64 v] 1 3 (some 1)) (by simp) rfl rfl rfl
  have hadd := addS h0 (hs.trans k) (h.same k) hy (apart_fresh hs.wf h.row _ _ _ _) (by simp) (by simpa using hf)
  refine ⟨fun hm => hadd.1 (by simp [hm]), fun hm => ?_⟩
  obtain ⟨m', q1, q2, q3, _⟩ := hadd.2 (by simp [hm])
  exact ⟨m', q1, q2, q3⟩
theorem dropS {μ0 m : AMem} (h0 : WF μ0) (hs : Same μ0 m) {x s : SV} {cs : List Int} (h : Tab μ0.next m x s cs) (hf : fits cs 0) (i : Int) (hn : ofI cs i ≠ 0) :
    ∃ m', refs_Table_Drop [.s x, .s (.int .i64 i)] m = some (.tuple [.s (.int .i64 (ofI cs i - 1)), .s (.bool true)], m') ∧ Same μ0 m' ∧ Tab μ0.next m' x s (decZ cs i) ∧ Keep (isId s) m m' := by
  obtain ⟨m', q1, q2, q3⟩ := (drop_is hs.wf h hf i).2 hn
  exact ⟨m', q1, tab_same h0 hs h q2, q3, q2⟩
theorem getD_set_self {c : List Int} {i : Nat} (h : i < c.length) (v : Int) : (c.set i v).getD i 0 = v := by
  rw [List.getD_eq_getElem?_getD, List.getElem?_set_self h]; rfl
theorem getD_set_ne {c : List Int} {i j : Nat} (h : i ≠ j) (v : Int) : (c.set i v).getD j 0 = c.getD j 0 := by
  rw [List.getD_eq_getElem?_getD, List.getD_eq_getElem?_getD, List.getElem?_set_ne h]
theorem set_getD {c : List Int} {i : Nat} : c.set i (c.getD i 0) = c := by
  rcases Nat.lt_or_ge i c.length with h | h
  · rw [getD_lt h, List.set_getElem_self]
  · rw [List.set_eq_of_length_le h]
theorem dec_inc {c : List Int} {i : Int} (h : i.toNat < c.length) : decZ (incZ c i) i = c := by
  unfold decZ incZ
  rw [getD_set_self h, List.set_set, show c.getD i.toNat 0 + 1 - 1 = c.getD i.toNat 0 by omega, set_getD]
theorem addZ_snoc (cs ls : List Int) (v : Int) : addZ cs (ls ++ [v]) = incZ (addZ cs ls) v := by
  unfold addZ; rw [List.foldl_append]; rfl
theorem addZ_append (cs ls ms : List Int) : addZ cs (ls ++ ms) = addZ (addZ cs ls) ms := by
  unfold addZ; rw [List.foldl_append]
theorem inc_comm (c : List Int) (i j : Int) : incZ (incZ c i) j = incZ (incZ c j) i := by
  by_cases h : i.toNat = j.toNat
  · unfold incZ; rw [h]
  · unfold incZ
    rw [getD_set_ne h, getD_set_ne (fun e => h e.symm), List.set_comm _ _ h]
theorem inc_add (v : Int) : ∀ (l c : List Int), incZ (addZ c l) v = addZ (incZ c v) l
  | [], c => rfl
  | w :: l, c => by
    show incZ (addZ (incZ c w) l) v = addZ (incZ (incZ c v) w) l
    rw [inc_add v l, inc_comm]
theorem addZ_reverse : ∀ (l c : List Int), addZ c l.reverse = addZ c l
  | [], c => rfl
  | v :: l, c => by
    rw [List.reverse_cons, addZ_snoc, addZ_reverse l, inc_add]; rfl
theorem sumR_set {c : List Int} {i : Nat} (v : Int) : ∀ n : Nat, n ≤ c.length → sumR (c.set i v) n = if i < n then sumR c n + v - c.getD i 0 else sumR c n
  | 0, _ => by simp [sumR]
  | n + 1, h => by
    have ih := sumR_set (c := c) (i := i) v n (by omega)
    rw [sumR, sumR, ih]
    by_cases h1 : i = n
    · subst h1
      rw [if_neg (by omega), if_pos (by omega), getD_set_self (c := c) (by omega)]; omega
    · rw [getD_set_ne h1]
      by_cases h2 : i < n
      · rw [if_pos h2, if_pos (by omega)]; omega
      · rw [if_neg h2, if_neg (by omega)]
theorem sumR_inc {c : List Int} {i : Int} (h : i.toNat < c.length) : sumR (incZ c i) c.length = sumR c c.length + 1 := by
  unfold incZ; rw [sumR_set _ _ (Nat.le_refl _), if_pos h]; omega
theorem sumR_add {n : Nat} : ∀ (l c : List Int), c.length = n → (∀ v ∈ l, 0 ≤ v ∧ v < n) → sumR (addZ c l) n = sumR c n + l.length
  | [], c, _, _ => by simp [addZ]
  | v :: l, c, hc, h => by
    show sumR (addZ (incZ c v) l) n = _
    have hv := h v (List.mem_cons_self ..)
    rw [sumR_add l (incZ c v) (by rw [incZ_len]; exact hc) (fun w hw => h w (List.mem_cons_of_mem _ hw))]
    have := sumR_inc (c := c) (i := v) (by omega)
    rw [hc] at this
    rw [this]; simp; omega
theorem sumR_zero (n : Nat) : ∀ m, sumR (List.replicate n 0) m = 0
  | 0 => rfl
  | m + 1 => by
    have : (List.replicate n (0 : Int)).getD m 0 = 0 := by rw [List.getD_eq_getElem?_getD, List.getElem?_replicate]; split <;> rfl
    rw [sumR, sumR_zero n m, this]; rfl
theorem fits_zero (n k : Nat) (h : k ≤ 1000000) : fits (List.replicate n 0) k := fun v hv => by rw [(List.mem_replicate.mp hv).2]; omega
theorem fits_add {k : Nat} : ∀ (l c : List Int), fits c (l.length + k) → l.length + k ≤ 1000000 → fits (addZ c l) k
  | [], c, h, _ => by
    show fits c k
    simpa using h
  | v :: l, c, h, hk => by
    show fits (addZ (incZ c v) l) k
    simp only [List.length_cons] at h hk
    have e : l.length + 1 + k = (l.length + k) + 1 := by omega
    rw [e] at h
    exact fits_add l _ (incZ_fit h (by omega) v) (by omega)
theorem fits_less {c : List Int} {k j : Nat} (h : fits c k) (hj : j ≤ k) : fits c j := fun v hv => by have := h v hv; omega
theorem all_may {c l : List Int} (h : ∀ v ∈ l, 0 ≤ v ∧ v < c.length) : l.all (mayI c) = true := by
  rw [List.all_eq_true]
  intro v hv
  have := h v hv
  unfold mayI; rw [decide_eq_true this.1, decide_eq_true this.2]; rfl
end Go.Proofs.Ytkikncdhmifkaaa
