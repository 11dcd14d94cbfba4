/- What a table of counts comes to. -/
import Derived.Test.YtkikncdhmifkaaaKStore
namespace Go.Proofs.Ytkikncdhmifkaaa
open Go Go.Proofs.Ytkikncdhmifkaaa.E
set_option linter.unusedVariables false
set_option linter.unusedSimpArgs false
/-- A table: a box that holds a row of the call's own. -/
def Tab (N : Nat) (μ : AMem) (x s : SV) (cs : List Int) : Prop := ∃ id o, x = .ptr id 0 0 ∧ N ≤ id ∧ μ.obj id = some o ∧ o.ver = 0 ∧ o.cells[0]? = some s ∧ OwnRow N μ .i64 3 s cs ∧ ¬ isId s id
theorem Tab.keep {N : Nat} {μ μ' : AMem} {S : Nat → Prop} {x s : SV} {cs : List Int} (h : Tab N μ x s cs) (hk : Keep S μ μ') (h1 : ∀ j, S j → ¬ isId s j) (h2 : ∀ j, S j → x ≠ .ptr j 0 0) : Tab N μ' x s cs := by
  obtain ⟨id, o, rfl, hN, ho, hv, hc, hr, hi⟩ := h
  exact ⟨id, o, rfl, hN, hk.old id o ho fun h => h2 id h rfl, hv, hc, ownKeep hr hk h1, hi⟩
theorem Tab.same {N : Nat} {μ μ' : AMem} {x s : SV} {cs : List Int} (h : Tab N μ x s cs) (hk : Same μ μ') : Tab N μ' x s cs := h.keep hk (fun _ h => h.elim) (fun _ h => h.elim)
theorem Tab.wrote {N : Nat} {μ μ' : AMem} {x s : SV} {cs ds : List Int} (h : Tab N μ x s cs) (hk : Keep (isId s) μ μ') (hr : OwnRow N μ' .i64 3 s ds) : Tab N μ' x s ds := by
  obtain ⟨id, o, rfl, hN, ho, hv, hc, _, hi⟩ := h
  exact ⟨id, o, rfl, hN, hk.old id o ho hi, hv, hc, hr, hi⟩
theorem Tab.row {N : Nat} {μ : AMem} {x s : SV} {cs : List Int} (h : Tab N μ x s cs) : OwnRow N μ .i64 3 s cs := by
  obtain ⟨id, o, rfl, hN, ho, hv, hc, hr, hi⟩ := h
  exact hr
theorem Tab.less {N M : Nat} {μ : AMem} {x s : SV} {cs : List Int} (h : Tab N μ x s cs) (hM : M ≤ N) : Tab M μ x s cs := by
  obtain ⟨id, o, rfl, hN, ho, hv, hc, hr, hi⟩ := h
  exact ⟨id, o, rfl, by omega, ho, hv, hc, hr.less hM, hi⟩
theorem Tab.nn {N : Nat} {μ : AMem} {x s : SV} {cs : List Int} (h : Tab N μ x s cs) : isNil (.s x) = some false := by
  obtain ⟨id, o, rfl, _⟩ := h; rfl
theorem Tab.ids {N : Nat} {μ : AMem} {x s : SV} {cs : List Int} (h : Tab N μ x s cs) {j : Nat} (hj : isId s j) : N ≤ j := (own_lives h.row hj).1
def mayI (cs : List Int) (i : Int) : Bool := decide (0 ≤ i) && decide (i < cs.length)
theorem mayI_t {cs : List Int} {i : Int} (h : mayI cs i = true) : 0 ≤ i ∧ i < cs.length := by
  simp only [mayI, Bool.and_eq_true, decide_eq_true_eq] at h; exact h
def ofI (cs : List Int) (i : Int) : Int := if mayI cs i then cs.getD i.toNat 0 else 0
def incZ (c : List Int) (i : Int) : List Int := c.set i.toNat (c.getD i.toNat 0 + 1)
def decZ (c : List Int) (i : Int) : List Int := c.set i.toNat (c.getD i.toNat 0 - 1)
def addZ (cs ls : List Int) : List Int := ls.foldl incZ cs
def fits (cs : List Int) (k : Nat) : Prop := ∀ v ∈ cs, 0 ≤ v ∧ v + k ≤ 1000000
def ownF (cs : List Int) : Nat → Nat → List Int
  | 0, _ => []
  | k + 1, i => if cs.getD i 0 > 0 then (i : Int) :: ownF cs k (i + 1) else ownF cs k (i + 1)
def sumR (cs : List Int) : Nat → Int
  | 0 => 0
  | n + 1 => sumR cs n + cs.getD n 0
theorem incZ_len (c : List Int) (i : Int) : (incZ c i).length = c.length := by simp [incZ]
theorem decZ_len (c : List Int) (i : Int) : (decZ c i).length = c.length := by simp [decZ]
theorem addZ_len : ∀ (ls cs : List Int), (addZ cs ls).length = cs.length
  | [], cs => rfl
  | v :: ls, cs => by
    show (addZ (incZ cs v) ls).length = _
    rw [addZ_len ls, incZ_len]
theorem getD_fit {cs : List Int} {k : Nat} (h : fits cs k) (hk : k ≤ 1000000) (i : Nat) : 0 ≤ cs.getD i 0 ∧ cs.getD i 0 + k ≤ 1000000 := by
  rcases Nat.lt_or_ge i cs.length with h1 | h1
  · exact h _ (getD_mem h1)
  · rw [List.getD_eq_getElem?_getD, List.getElem?_eq_none h1]; simp; omega
theorem incZ_fit {c : List Int} {k : Nat} (h : fits c (k + 1)) (hk : k + 1 ≤ 1000000) (i : Int) : fits (incZ c i) k := by
  intro v hv
  have := getD_fit h hk i.toNat
  rcases List.mem_or_eq_of_mem_set hv with h1 | h1
  · have := h v h1; omega
  · rw [h1]; omega
theorem may2_is {N : Nat} {μ : AMem} {x s : SV} {cs : List Int} (h : Tab N μ x s cs) (i : Int) : refs_Table_may [.s x, .s (.int .i64 i)] μ = some (.s (.bool (mayI cs i)), μ) := by
  obtain ⟨id, o, rfl, hN, ho, hv, hc, hr, hi⟩ := h
  have hcell : μ.cell id 0 (0 + 0) = some s := by simp only [AMem.cell, ho, Option.bind_some, hv, if_true]; exact hc
  rw [refs_Table_may_eq]
  unfold mayI
  by_cases h1 : 0 ≤ i
  · rw [decide_eq_true h1, Bool.true_and]
    simp -implicitDefEqProofs (disch := omega) only [lt_t, lt_f, gt_t, gt_f, le_t, le_f, ge_t, ge_f, ne_t, ne_f, eq_t, eq_f, w64, chk_true, Option.bind_some, decide_true, decide_false, cond_true, cond_false, seqJ_n, seqJ_r, seqJ_e, headK_c, asB_bool, asI_int, asS_s, asN_int, extrK_0, extrK_1, extrK_2, Bool.not_true, Bool.not_false, Nat.beq_refl, hcell, hr.row.len]
  · rw [decide_eq_false h1, Bool.false_and]
    simp -implicitDefEqProofs (disch := omega) only [lt_t, lt_f, gt_t, gt_f, le_t, le_f, ge_t, ge_f, ne_t, ne_f, eq_t, eq_f, w64, chk_true, Option.bind_some, decide_true, decide_false, cond_true, cond_false, seqJ_n, seqJ_r, seqJ_e, headK_c, asB_bool, asI_int, asS_s, asN_int, extrK_0, extrK_1, extrK_2, Bool.not_true, Bool.not_false, Nat.beq_refl]
theorem of_is {N : Nat} {μ : AMem} {x s : SV} {cs : List Int} (h : Tab N μ x s cs) (i : Int) : refs_Table_Of [.s x, .s (.int .i64 i)] μ = some (.s (.int .i64 (ofI cs i)), μ) := by
  have hm := may2_is h i
  obtain ⟨id, o, rfl, hN, ho, hv, hc, hr, hi⟩ := h
  have hcell : μ.cell id 0 (0 + 0) = some s := by simp only [AMem.cell, ho, Option.bind_some, hv, if_true]; exact hc
  rw [refs_Table_Of_eq]
  unfold ofI
  cases hmm : mayI cs i
  · rw [hmm] at hm
    simp only [Bool.false_eq_true, if_false]
    simp -implicitDefEqProofs (disch := omega) only [lt_t, lt_f, gt_t, gt_f, le_t, le_f, ge_t, ge_f, ne_t, ne_f, eq_t, eq_f, w64, chk_true, Option.bind_some, decide_true, decide_false, cond_true, cond_false, seqJ_n, seqJ_r, seqJ_e, headK_c, asB_bool, asI_int, asS_s, asN_int, extrK_0, extrK_1, extrK_2, Bool.not_true, Bool.not_false, Nat.beq_refl, hm]
  · rw [hmm] at hm
    have := mayI_t hmm
    simp only [if_true]
    simp -implicitDefEqProofs (disch := omega) only [lt_t, lt_f, gt_t, gt_f, le_t, le_f, ge_t, ge_f, ne_t, ne_f, eq_t, eq_f, w64, chk_true, Option.bind_some, decide_true, decide_false, cond_true, cond_false, seqJ_n, seqJ_r, seqJ_e, headK_c, asB_bool, asI_int, asS_s, asN_int, extrK_0, extrK_1, extrK_2, Bool.not_true, Bool.not_false, Nat.beq_refl, hm, hcell, hr.row.ind, hr.row.load]
theorem drop_is {N : Nat} {μ : AMem} (hw : WF μ) {x s : SV} {cs : List Int} (h : Tab N μ x s cs) (hf : fits cs 0) (i : Int) :
    (ofI cs i = 0 → refs_Table_Drop [.s x, .s (.int .i64 i)] μ = some (.tuple [.s (.int .i64 0), .s (.bool false)], μ)) ∧
    (ofI cs i ≠ 0 → ∃ μ', refs_Table_Drop [.s x, .s (.int .i64 i)] μ = some (.tuple [.s (.int .i64 (ofI cs i - 1)), .s (.bool true)], μ') ∧ Keep (isId s) μ μ' ∧ Tab N μ' x s (decZ cs i)) := by
  have ho := of_is h i
  refine ⟨fun h0 => ?_, fun h0 => ?_⟩
  · rw [h0] at ho
    obtain ⟨id, o, rfl, _⟩ := h
    rw [refs_Table_Drop_eq]
    have t0 : ((0 : Int) == 0) = true := rfl
    simp -implicitDefEqProofs only [ho, t0, Option.bind_some, decide_true, decide_false, cond_true, cond_false, seqJ_n, seqJ_r, seqJ_e, headK_c, asB_bool, asI_int, asS_s, asN_int, extrK_0, extrK_1, extrK_2, Bool.not_true, Bool.not_false, Nat.beq_refl]
  · have hm : mayI cs i = true := by
      cases hmm : mayI cs i
      · exact absurd (by unfold ofI; rw [hmm]; rfl) h0
      · rfl
    have hmi := mayI_t hm
    have hof : ofI cs i = cs.getD i.toNat 0 := by unfold ofI; rw [if_pos hm]
    have hg := getD_fit hf (by omega) i.toNat
    obtain ⟨μ', s1, s2, s3, s4⟩ := storeK hw h.row (i := i.toNat) (by omega) (cs.getD i.toNat 0 - 1)
    have hti : ((i.toNat : Nat) : Int) = i := by omega
    rw [hti] at s1
    have h' := h.wrote s2 s3
    obtain ⟨id, o, rfl, hN, hob, hv, hc, hr, hi⟩ := h
    have hcell : μ.cell id 0 (0 + 0) = some s := by simp only [AMem.cell, hob, Option.bind_some, hv, if_true]; exact hc
    have hcell' : μ'.cell id 0 (0 + 0) = some s := by simp only [AMem.cell, s2.old id o hob hi, Option.bind_some, hv, if_true]; exact hc
    have hlen : ((cs.set i.toNat (cs.getD i.toNat 0 - 1)).length : Int) = cs.length := by simp
    have hset : (cs.set i.toNat (cs.getD i.toNat 0 - 1)).getD i.toNat 0 = cs.getD i.toNat 0 - 1 := by
      rw [List.getD_eq_getElem?_getD, List.getElem?_set_self (by omega)]; rfl
    have hi2 := fun {R : Type} (K : AV → Option R) => s3.row.ind (i := i) (by omega) (by omega) K
    have hl2 := fun {R : Type} (K : AV → Option R) => s3.row.load (i := i) (by omega) (by omega) K
    rw [hset] at hl2
    have hb : (ofI cs i == 0) = false := by simp [h0]
    have hwr : IntKind.wrap .i64 (cs.getD i.toNat 0 - 1) = cs.getD i.toNat 0 - 1 := wr (by omega)
    have hi1 := fun {R : Type} (K : AV → Option R) => hr.row.ind (i := i) (by omega) (by omega) K
    have hl1 := fun {R : Type} (K : AV → Option R) => hr.row.load (i := i) (by omega) (by omega) K
    refine ⟨μ', ?_, s2, h'⟩
    rw [refs_Table_Drop_eq]
    simp -implicitDefEqProofs only [ho, hb, hcell, hi1, hl1, hwr, s1, hcell', hl2, Option.bind_some, decide_true, decide_false, cond_true, cond_false, seqJ_n, seqJ_r, seqJ_e, headK_c, asB_bool, asI_int, asS_s, asN_int, extrK_0, extrK_1, extrK_2, Bool.not_true, Bool.not_false, Nat.beq_refl]
    rw [hof]
theorem addMay_loop {N : Nat} {μ : AMem} {x s y : SV} {cs ls : List Int} (h : Tab N μ x s cs) (hy : IsRow μ .i64 y ls) (hb : ls.length ≤ 100000) :
    ∀ k j : Nat, j + k = ls.length → refs_Table_Add_L1 [.s x, .s y, .s y, .s (.int .i64 ls.length)] [.s (.int .i64 j)] μ = if (ls.drop j).all (mayI cs) then some (.exit 0, [.s x, .s y], μ) else some (.ret, [.s (.bool false)], μ)
  | 0, j, hj => by
    obtain ⟨id, o, rfl, _⟩ := h
    rw [refs_Table_Add_L1_eq, refs_Table_Add_L1_B_eq, List.drop_eq_nil_of_le (by omega)]
    simp -implicitDefEqProofs (disch := omega) only [lt_t, lt_f, gt_t, gt_f, le_t, le_f, ge_t, ge_f, ne_t, ne_f, eq_t, eq_f, w64, chk_true, Option.bind_some, decide_true, decide_false, cond_true, cond_false, seqJ_n, seqJ_r, seqJ_e, headK_c, asB_bool, asI_int, asS_s, asN_int, extrK_0, extrK_1, extrK_2, Bool.not_true, Bool.not_false, Nat.beq_refl, List.all_nil, if_true]
  | k + 1, j, hj => by
    have ih := addMay_loop h hy hb k (j + 1) (by omega)
    rw [nsu] at ih
    have hm := may2_is h (ls.getD j 0)
    obtain ⟨id, o, rfl, _⟩ := h
    rw [refs_Table_Add_L1_eq, refs_Table_Add_L1_B_eq, drop_cons (i := j) (by omega)]
    cases hmm : mayI cs (ls.getD j 0)
    · rw [hmm] at hm
      simp -implicitDefEqProofs (disch := omega) only [lt_t, lt_f, gt_t, gt_f, le_t, le_f, ge_t, ge_f, ne_t, ne_f, eq_t, eq_f, w64, chk_true, Option.bind_some, decide_true, decide_false, cond_true, cond_false, seqJ_n, seqJ_r, seqJ_e, headK_c, asB_bool, asI_int, asS_s, asN_int, extrK_0, extrK_1, extrK_2, Bool.not_true, Bool.not_false, Nat.beq_refl, hy.ind, hy.load, nat_toNat, hm, hmm, List.all_cons, Bool.false_and, Bool.false_eq_true, if_false]
    · rw [hmm] at hm
      simp -implicitDefEqProofs (disch := omega) only [lt_t, lt_f, gt_t, gt_f, le_t, le_f, ge_t, ge_f, ne_t, ne_f, eq_t, eq_f, w64, chk_true, Option.bind_some, decide_true, decide_false, cond_true, cond_false, seqJ_n, seqJ_r, seqJ_e, headK_c, asB_bool, asI_int, asS_s, asN_int, extrK_0, extrK_1, extrK_2, Bool.not_true, Bool.not_false, Nat.beq_refl, hy.ind, hy.load, nat_toNat, hm, hmm, List.all_cons, Bool.true_and]
      exact ih
theorem addInc_loop {N : Nat} {x s y : SV} {ls : List Int} {n : Nat} (hls : ∀ v ∈ ls, 0 ≤ v ∧ v < n) (hb : ls.length ≤ 100000) (hap : Apart s y) :
    ∀ (k j : Nat) (μ : AMem) (c : List Int), j + k = ls.length → c.length = n → fits c k → WF μ → Tab N μ x s c → IsRow μ .i64 y ls →
      ∃ μ', refs_Table_Add_L2 [.s x, .s y, .s (.int .i64 ls.length)] [.s (.int .i64 j)] μ = some (.exit 2, [], μ') ∧ Keep (isId s) μ μ' ∧ Tab N μ' x s (addZ c (ls.drop j))
  | 0, j, μ, c, hj, hc, hf, hw, h, hy => by
    rw [refs_Table_Add_L2_eq, refs_Table_Add_L2_B_eq, List.drop_eq_nil_of_le (by omega)]
    simp -implicitDefEqProofs (disch := omega) only [lt_t, lt_f, gt_t, gt_f, le_t, le_f, ge_t, ge_f, ne_t, ne_f, eq_t, eq_f, w64, chk_true, Option.bind_some, decide_true, decide_false, cond_true, cond_false, seqJ_n, seqJ_r, seqJ_e, headK_c, asB_bool, asI_int, asS_s, asN_int, extrK_0, extrK_1, extrK_2, Bool.not_true, Bool.not_false, Nat.beq_refl]
    exact ⟨μ, rfl, Keep.refl hw, h⟩
  | k + 1, j, μ, c, hj, hc, hf, hw, h, hy => by
    have hv := hls _ (getD_mem (zs := ls) (i := j) (by omega))
    have hg := getD_fit hf (by omega) (ls.getD j 0).toNat
    obtain ⟨m1, s1, s2, s3, s4⟩ := storeK hw h.row (i := (ls.getD j 0).toNat) (by omega) (c.getD (ls.getD j 0).toNat 0 + 1)
    have hti : (((ls.getD j 0).toNat : Nat) : Int) = ls.getD j 0 := by omega
    rw [hti] at s1
    have h' := h.wrote s2 s3
    obtain ⟨μ', q1, q2, q3⟩ := addInc_loop hls hb hap k (j + 1) m1 (incZ c (ls.getD j 0)) (by omega) (by rw [incZ_len]; exact hc) (incZ_fit hf (by omega) _) s2.wf h' (rowKeep hy s2 hap)
    rw [nsu] at q1
    rw [drop_cons (i := j) (by omega)]
    obtain ⟨id, o, rfl, hN, hob, hver, hcl, hr, hi⟩ := h
    have hcell : μ.cell id 0 (0 + 0) = some s := by simp only [AMem.cell, hob, Option.bind_some, hver, if_true]; exact hcl
    refine ⟨μ', ?_, s2.trans q2, q3⟩
    rw [refs_Table_Add_L2_eq, refs_Table_Add_L2_B_eq]
    simp -implicitDefEqProofs (disch := omega) only [lt_t, lt_f, gt_t, gt_f, le_t, le_f, ge_t, ge_f, ne_t, ne_f, eq_t, eq_f, w64, chk_true, Option.bind_some, decide_true, decide_false, cond_true, cond_false, seqJ_n, seqJ_r, seqJ_e, headK_c, asB_bool, asI_int, asS_s, asN_int, extrK_0, extrK_1, extrK_2, Bool.not_true, Bool.not_false, Nat.beq_refl, hy.ind, hy.load, nat_toNat, nonNil_ptr, ptrAdd_p, loadAt_p, hcell, hr.row.ind, hr.row.load, s1]
    exact q1
theorem add_is {N : Nat} {μ : AMem} (hw : WF μ) {x s y : SV} {cs ls : List Int} (h : Tab N μ x s cs) (hy : IsRow μ .i64 y ls) (hap : Apart s y) (hb : ls.length ≤ 100000) (hf : fits cs ls.length) :
    (ls.all (mayI cs) = false → refs_Table_Add [.s x, .s y] μ = some (.s (.bool false), μ)) ∧
    (ls.all (mayI cs) = true → ∃ μ', refs_Table_Add [.s x, .s y] μ = some (.s (.bool true), μ') ∧ Keep (isId s) μ μ' ∧ Tab N μ' x s (addZ cs ls)) := by
  have hl1 := addMay_loop h hy hb _ 0 (Nat.zero_add _)
  rw [n0, List.drop_zero] at hl1
  refine ⟨fun ha => ?_, fun ha => ?_⟩
  · rw [ha] at hl1
    simp only [Bool.false_eq_true, if_false] at hl1
    obtain ⟨id, o, rfl, _⟩ := h
    rw [refs_Table_Add_eq]
    simp -implicitDefEqProofs only [hy.len, hl1, Option.bind_some, decide_true, decide_false, cond_true, cond_false, seqJ_n, seqJ_r, seqJ_e, headK_c, asB_bool, asI_int, asS_s, asN_int, extrK_0, extrK_1, extrK_2, Bool.not_true, Bool.not_false, Nat.beq_refl]
  · rw [ha] at hl1
    simp only [if_true] at hl1
    obtain ⟨μ', q1, q2, q3⟩ := addInc_loop (n := cs.length) (fun v hv => mayI_t (List.all_eq_true.mp ha v hv)) hb hap _ 0 μ cs (Nat.zero_add _) rfl hf hw h hy
    rw [n0] at q1
    refine ⟨μ', ?_, q2, q3⟩
    obtain ⟨id, o, rfl, _⟩ := h
    rw [refs_Table_Add_eq]
    simp -implicitDefEqProofs only [hy.len, hl1, q1, Option.bind_some, decide_true, decide_false, cond_true, cond_false, seqJ_n, seqJ_r, seqJ_e, headK_c, asB_bool, asI_int, asS_s, asN_int, extrK_0, extrK_1, extrK_2, Bool.not_true, Bool.not_false, Nat.beq_refl]
theorem sumR_le {cs : List Int} (hf : fits cs 0) : ∀ n : Nat, 0 ≤ sumR cs n ∧ sumR cs n ≤ 1000000 * n
  | 0 => by simp [sumR]
  | n + 1 => by
    have := sumR_le hf n
    have := getD_fit hf (by omega) n
    rw [sumR]; omega
theorem new_is {μ : AMem} (hw : WF μ) {n : Nat} (hn : 1 ≤ n ∧ n ≤ 4096) :
    ∃ x s μ', refs_New [.s (.int .i64 n)] μ = some (.tuple [.s x, .s (.int .i64 0)], μ') ∧ Same μ μ' ∧ Tab μ.next μ' x s (List.replicate n 0) := by
  have hif : 0 ≤ (n : Int) ∧ (n : Int) ≤ (n : Int) ∧ (n : Int) ≤ 9223372036854775807 ∧ ((8 : Nat) : Int) * (n : Int) ≤ 140737488355328 := by omega
  have q1 := lt_f (a := (n : Int)) (b := 1) (by omega)
  have q2 := gt_f (a := (n : Int)) (b := 4096) (by omega)
  refine ⟨.ptr (μ.next + 3) 0 0, .slice (μ.next + 1) 0 0 n, _, ?_, Keep.setS hw (Keep.setS hw (Keep.bump (S := fun _ => False) hw 6) (i := μ.next + 1) (o := rowObj (zerosA [.int .i64 0] n) 1 3 (some n)) (by omega) (by simp)) (i := μ.next + 3) (o := rowObj [.slice (μ.next + 1) 0 0 n] 1 74 (some 1)) (by omega) (by simp), ?_⟩
  · rw [refs_New_eq]
    simp -implicitDefEqProofs only [q1, q2, Option.bind_some, decide_true, decide_false, cond_true, cond_false, seqJ_n, seqJ_r, seqJ_e, headK_c, asB_bool, asI_int, asS_s, asN_int, extrK_0, extrK_1, extrK_2, Bool.not_true, Bool.not_false, Nat.beq_refl]
    rw [if_pos hif]
    rfl
  · refine ⟨μ.next + 3, rowObj [.slice (μ.next + 1) 0 0 n] 1 74 (some 1), rfl, by omega, by simp, rfl, rfl, ?_, fun h => ?_⟩
    · exact OwnRow.new (o := rowObj (zerosA [.int .i64 0] n) 1 3 (some n)) (by simp) (by omega) (by simp) rfl rfl rfl rfl (by show zerosA _ _ = _; rw [zerosA_rep]; simp)
    · have : μ.next + 1 = μ.next + 3 := h
      omega
end Go.Proofs.Ytkikncdhmifkaaa
