/- The plain answer of RefsOrder. -/
import Derived.Test.YtmmikeabacodnaaQWakes
import Derived.Test.YtmmikeabacodnaaKWithin
import Derived.Test.YtmmikeabacodnaaKSame
namespace Go.Proofs.Ytmmikeabacodnaa
open Go Go.Proofs.Ytmmikeabacodnaa.E
set_option linter.unusedVariables false
set_option linter.unusedSimpArgs false
theorem draw9_loop {μ0 : AMem} (h0 : WF μ0) {x t u v : SV} {b : Int} {zs : List Int} (hx : IsRow μ0 .i64 x zs) (hz : ∀ v ∈ zs, (Lit.int .i64 v).wf = true) :
    ∀ (k i : Nat) (μ : AMem) (y : SV), i + k = min 20 zs.length → Same μ0 μ → OwnRow μ0.next μ .i64 3 y ((zs.take i).map fun v => v % 9) →
      ∃ y' μ', overdublaw12_RefsOrder_L1 [.s x, .s (.int .i64 b), .s t, .s u, .s v] [.s y, .s (.int .i64 i)] μ = some (.exit 0, [.s (.int .i64 b), .s t, .s u, .s y', .s v], μ') ∧ Same μ0 μ' ∧ OwnRow μ0.next μ' .i64 3 y' ((zs.take 20).map fun v => v % 9)
  | 0, i, μ, y, h, hs, hy => by
    rw [overdublaw12_RefsOrder_L1_eq, overdublaw12_RefsOrder_L1_B_eq, (hx.same hs).len]
    rw [take_min (n := 20) (zs := zs) (i := i) (by omega)] at hy
    by_cases h1 : (i : Int) < (zs.length : Int)
    · simp -implicitDefEqProofs (disch := omega) only [lt_t, lt_f, gt_t, gt_f, le_t, le_f, ge_t, ge_f, ne_t, ne_f, eq_t, eq_f, w64, chk_true, Option.bind_some, decide_true, decide_false, cond_true, cond_false, seqJ_n, seqJ_r, seqJ_e, headK_c, asB_bool, asI_int, asS_s, asN_int, extrK_0, extrK_1, extrK_2, Bool.not_true, Bool.not_false, Nat.beq_refl]
      exact ⟨y, μ, rfl, hs, hy⟩
    · simp -implicitDefEqProofs (disch := omega) only [lt_t, lt_f, gt_t, gt_f, le_t, le_f, ge_t, ge_f, ne_t, ne_f, eq_t, eq_f, w64, chk_true, Option.bind_some, decide_true, decide_false, cond_true, cond_false, seqJ_n, seqJ_r, seqJ_e, headK_c, asB_bool, asI_int, asS_s, asN_int, extrK_0, extrK_1, extrK_2, Bool.not_true, Bool.not_false, Nat.beq_refl]
      exact ⟨y, μ, rfl, hs, hy⟩
  | k + 1, i, μ, y, h, hs, hy => by
    have hi : i < zs.length := by omega
    have hx1 := hx.same hs
    have hx9 := hx.same (bumpS hs 9)
    have hw := within_is (zs.getD i 0) 9 (wf64 (hz _ (getD_mem hi))) (by omega) (by omega) (μ.bump 9)
    have hlen : ((zs.take i).map fun v => v % 9).length = i := by simp; omega
    obtain ⟨y', μ', p1, p2, p3⟩ := pushS (B := 8) (a := 6) (b := 7) (n := 9) (q := some 1) h0 hs hy (zs.getD i 0 % 9) (by omega) (by omega) (by omega) (by omega) (by omega)
    rw [← take_map_snoc (fun v => v % 9) hi] at p3
    obtain ⟨y2, μ2, q1, q2, q3⟩ := draw9_loop (t := t) (u := u) (v := v) (b := b) h0 hx hz k (i + 1) μ' y' (by omega) p2 p3
    rw [nsu] at q1
    refine ⟨y2, μ2, ?_, q2, q3⟩
    rw [overdublaw12_RefsOrder_L1_eq, overdublaw12_RefsOrder_L1_B_eq, hx1.len]
    simp -implicitDefEqProofs (disch := omega) only [lt_t, lt_f, gt_t, gt_f, le_t, le_f, ge_t, ge_f, ne_t, ne_f, eq_t, eq_f, w64, chk_true, Option.bind_some, decide_true, decide_false, cond_true, cond_false, seqJ_n, seqJ_r, seqJ_e, headK_c, asB_bool, asI_int, asS_s, asN_int, extrK_0, extrK_1, extrK_2, Bool.not_true, Bool.not_false, Nat.beq_refl, hx9.ind, hx9.load, nat_toNat, hw, p1]
    exact q1
theorem rev_loop {μ0 : AMem} (h0 : WF μ0) {x t u : SV} {b : Int} {ls : List Int} (hx : IsRow μ0 .i64 x ls) (hl : ls.length ≤ 20) :
    ∀ (k : Nat) (μ : AMem) (y : SV) (ws : List Int), k ≤ ls.length → ws.length + k ≤ 20 → Same μ0 μ → OwnRow μ0.next μ .i64 3 y ws →
      ∃ y' μ', overdublaw12_RefsOrder_L2 [.s (.int .i64 b), .s t, .s u, .s x] [.s y, .s (.int .i64 ((k : Int) - 1))] μ = some (.exit 2, [.s (.int .i64 b), .s t, .s u, .s x, .s y'], μ') ∧ Same μ0 μ' ∧ OwnRow μ0.next μ' .i64 3 y' (ws ++ (ls.take k).reverse)
  | 0, μ, y, ws, h, hw, hs, hy => by
    rw [overdublaw12_RefsOrder_L2_eq, overdublaw12_RefsOrder_L2_B_eq]
    simp -implicitDefEqProofs (disch := omega) only [lt_t, lt_f, gt_t, gt_f, le_t, le_f, ge_t, ge_f, ne_t, ne_f, eq_t, eq_f, w64, chk_true, Option.bind_some, decide_true, decide_false, cond_true, cond_false, seqJ_n, seqJ_r, seqJ_e, headK_c, asB_bool, asI_int, asS_s, asN_int, extrK_0, extrK_1, extrK_2, Bool.not_true, Bool.not_false, Nat.beq_refl]
    exact ⟨y, μ, rfl, hs, by simpa using hy⟩
  | k + 1, μ, y, ws, h, hw, hs, hy => by
    have hx8 := hx.same (bumpS hs 8)
    have e0 : ((k + 1 : Nat) : Int) - 1 = (k : Int) := by omega
    obtain ⟨y', μ', p1, p2, p3⟩ := pushS (B := 8) (a := 5) (b := 6) (n := 8) (q := some 1) h0 hs hy (ls.getD k 0) (by omega) (by omega) (by omega) (by omega) (by omega)
    obtain ⟨y2, μ2, q1, q2, q3⟩ := rev_loop (t := t) (u := u) (b := b) h0 hx hl k μ' y' _ (by omega) (by simp; omega) p2 p3
    rw [List.append_assoc] at q3
    refine ⟨y2, μ2, ?_, q2, ?_⟩
    · rw [e0, overdublaw12_RefsOrder_L2_eq, overdublaw12_RefsOrder_L2_B_eq]
      simp -implicitDefEqProofs (disch := omega) only [lt_t, lt_f, gt_t, gt_f, le_t, le_f, ge_t, ge_f, ne_t, ne_f, eq_t, eq_f, w64, chk_true, Option.bind_some, decide_true, decide_false, cond_true, cond_false, seqJ_n, seqJ_r, seqJ_e, headK_c, asB_bool, asI_int, asS_s, asN_int, extrK_0, extrK_1, extrK_2, Bool.not_true, Bool.not_false, Nat.beq_refl, hx8.ind, hx8.load, nat_toNat, p1]
      exact q1
    · rw [take_snoc (by omega), List.reverse_append]; exact q3
theorem of_loop {N : Nat} {μ : AMem} {x y s t z : SV} {cs : List Int} (hx : Tab N μ x s cs) (hy : Tab N μ y t cs) :
    ∀ k i : Nat, i + k = 9 → overdublaw12_RefsOrder_L3 [.s x, .s y, .s z] [.s (.int .i64 i)] μ = some (.exit 4, [.s x, .s y, .s z], μ)
  | 0, i, h => by
    obtain rfl : i = 9 := by omega
    rw [overdublaw12_RefsOrder_L3_eq, overdublaw12_RefsOrder_L3_B_eq]
    rfl
  | k + 1, i, h => by
    have ih := of_loop (z := z) hx hy k (i + 1) (by omega)
    rw [nsu] at ih
    have hne : (ofI cs (i : Int) != ofI cs (i : Int)) = false := by simp
    rw [overdublaw12_RefsOrder_L3_eq, overdublaw12_RefsOrder_L3_B_eq]
    simp -implicitDefEqProofs (disch := omega) only [lt_t, lt_f, gt_t, gt_f, le_t, le_f, ge_t, ge_f, ne_t, ne_f, eq_t, eq_f, w64, chk_true, Option.bind_some, decide_true, decide_false, cond_true, cond_false, seqJ_n, seqJ_r, seqJ_e, headK_c, asB_bool, asI_int, asS_s, asN_int, extrK_0, extrK_1, extrK_2, Bool.not_true, Bool.not_false, Nat.beq_refl, of_is hx, of_is hy, hne]
    exact ih
theorem ownF_len (cs : List Int) : ∀ k i, (ownF cs k i).length ≤ k
  | 0, i => Nat.le_refl _
  | k + 1, i => by
    have := ownF_len cs k (i + 1)
    rw [ownF]
    split
    · rw [List.length_cons]; omega
    · omega
theorem pureRefsOrder (x0 : Arg) (z0 : List Int) (s0 : Arg.isRow .i64 z0 x0) (w0 : ∀ n ∈ z0, (Lit.int .i64 n).wf = true) (y0 : z0.length * 8 ≤ 140737488351232) (a1 : Int) (w1 : (Lit.int .i64 a1).wf = true) :
    ∃ μ', overdublaw12_RefsOrder (argVals 0 [x0, .i .i64 a1]) (argMem [x0, .i .i64 a1]) = some (.s (.bool true), μ') := by
  obtain ⟨a, ha, hx⟩ := IsRow.arg (l := [x0, .i .i64 a1]) (j := 0) s0 rfl
  have hw := WF.args [x0, .i .i64 a1]
  show ∃ μ', overdublaw12_RefsOrder [x0.val 0, .s (.int .i64 a1)] _ = _
  rw [ha]
  generalize argMem [x0, .i .i64 a1] = μ at *
  obtain ⟨x, s, m1, e1, k1, t1⟩ := new_is hw (n := 9) (by omega)
  obtain ⟨y, t, m2, e2, k2, u2⟩ := new_is k1.wf (n := 9) (by omega)
  rw [show ((9 : Nat) : Int) = 9 from rfl] at e1 e2
  have t2 := t1.same k2
  have hst : Apart s t := fun id h1 h2 => by
    obtain ⟨_, ob, hob⟩ := own_lives t1.row h1
    have := k1.wf.lt hob
    have := u2.ids h2
    omega
  obtain ⟨X, m3, e3, k3, o3⟩ := draw9_loop (t := x) (u := y) (v := .nilSlice) (b := a1) k2.wf ((hx.same k1).same k2) w0 _ 0 m2 .nilSlice (Nat.zero_add _) (Keep.refl k2.wf) (OwnRow.nil _ _ _ _)
  rw [n0] at e3
  have lx : ((z0.take 20).map fun v => v % 9).length ≤ 20 := by simp; omega
  have bx : ∀ v ∈ (z0.take 20).map (fun v : Int => v % 9), 0 ≤ v ∧ v < (9 : Nat) := by
    intro v hv; obtain ⟨u, _, rfl⟩ := List.mem_map.mp hv
    show 0 ≤ u % 9 ∧ u % 9 < (9 : Nat)
    omega
  generalize ((z0.take 20).map fun v => v % 9) = ls at *
  obtain ⟨Y, m4, e4, k4, o4⟩ := rev_loop (t := x) (u := y) (b := a1) k3.wf o3.row lx ls.length m3 .nilSlice [] (by omega) (by simp; omega) (Keep.refl k3.wf) (OwnRow.nil _ _ _ _)
  rw [List.nil_append, List.take_length] at o4
  have hX4 := o3.row.same k4
  have lY : ls.reverse.length = ls.length := by simp
  have e5 := within_is a1 ((ls.length : Int) + 1) (wf64 w1) (by omega) (by omega) m4
  have hm1 := Int.emod_nonneg a1 (show ¬ (ls.length : Int) + 1 = 0 by omega)
  have hm2 := Int.emod_lt_of_pos a1 (show 0 < (ls.length : Int) + 1 by omega)
  obtain ⟨c, hc, hc1⟩ : ∃ c : Nat, a1 % ((ls.length : Int) + 1) = (c : Int) ∧ c ≤ ls.length := ⟨(a1 % ((ls.length : Int) + 1)).toNat, by omega, by omega⟩
  rw [hc] at e5
  have young : ∀ {z : SV} {k : IntKind} {e : TypeId} {zs : List Int} {N : Nat} {m : AMem}, OwnRow N m k e z zs → m2.next ≤ N → Apart s z ∧ Apart t z := by
    intro z k e zs N m hz hN
    have a1 : Apart s z := fun id h1 h2 => by
      obtain ⟨_, ob, hob⟩ := own_lives t2.row h1
      have := k2.wf.lt hob
      have := (own_lives hz h2).1
      omega
    have a2 : Apart t z := fun id h1 h2 => by
      obtain ⟨_, ob, hob⟩ := own_lives u2.row h1
      have := k2.wf.lt hob
      have := (own_lives hz h2).1
      omega
    exact ⟨a1, a2⟩
  have hX := young o3 (Nat.le_refl _)
  have hY := young o4 k3.next
  have k14 := (k1.trans k2).trans (k3.trans k4)
  have t4 := t2.same (k3.trans k4)
  have u4 := (u2.same (k3.trans k4)).less k1.next
  obtain ⟨m5, e6, k5, t5, kk5⟩ := (addS hw k14 t4 hX4 hX.1 (by omega) (fits_zero _ _ (by omega))).2 (all_may fun v hv => by have := bx v hv; simp; omega)
  have hyne : ∀ j, isId s j → y ≠ .ptr j 0 0 := by
    intro j hj hyj
    obtain ⟨id, o, hyp, hN, _⟩ := u2
    rw [hyp] at hyj
    cases hyj
    obtain ⟨_, ob, hob⟩ := own_lives t1.row hj
    have := k1.wf.lt hob
    omega
  have hxne : ∀ j, isId t j → x ≠ .ptr j 0 0 := by
    intro j hj hxj
    obtain ⟨id, o, hxp, hN, hob, _⟩ := t1
    rw [hxp] at hxj
    cases hxj
    have := k1.wf.lt hob
    have := u2.ids hj
    omega
  have u5 := u4.keep kk5 (fun j hj => hst j hj) hyne
  have hY5 := rowKeep o4.row kk5 hY.1
  obtain ⟨p, f1, f2⟩ := hY5.front (n := c) (by omega)
  have hpY : ∀ {z : SV}, (∃ a b, z = cutV Y a b) → Apart t z := by
    rintro z ⟨a, b, rfl⟩ id h1 h2
    refine hY.2 id h1 ?_
    cases Y <;> first | exact h2 | exact h2.elim
  have hap1 : Apart t p := by
    intro id h1 h2
    have := f1 (R := AV) some
    have hcut := hY5.cut (a := 0) (b := (c : Int)) (by omega) (by omega) (by omega) (R := AV) some
    rw [this] at hcut
    cases hcut
    exact hpY ⟨_, _, rfl⟩ id h1 h2
  have brv : ∀ v ∈ ls.reverse, 0 ≤ v ∧ v < (9 : Nat) := fun v hv => bx v (List.mem_reverse.mp hv)
  obtain ⟨m6, e7, k6, u6, kk6⟩ := (addS hw k5 u5 f2 hap1 (by simp; omega) (fits_zero _ _ (by simp; omega))).2 (all_may fun v hv => by have := brv v (List.mem_of_mem_take hv); simp; omega)
  have t6 := t5.keep kk6 (fun j hj => hst.symm j hj) hxne
  have hY6 := rowKeep hY5 kk6 hY.2
  obtain ⟨q, f3, f4⟩ := hY6.back (n := c) (by omega)
  have hap2 : Apart t q := by
    intro id h1 h2
    have := f3 (R := AV) some
    have hcut := hY6.cut (a := (c : Int)) (b := (ls.reverse.length : Int)) (by omega) (by omega) (by omega) (R := AV) some
    rw [this] at hcut
    cases hcut
    exact hpY ⟨_, _, rfl⟩ id h1 h2
  have hlb : (addZ (List.replicate 9 0) (ls.reverse.take c)).length = 9 := by rw [addZ_len]; simp
  obtain ⟨m7, e8, k7, u7, kk7⟩ := (addS hw k6 u6 f4 hap2 (by simp; omega) (fits_add _ _ (fits_zero _ _ (by simp; omega)) (by simp; omega))).2 (all_may fun v hv => by have := brv v (List.mem_of_mem_drop hv); rw [hlb]; omega)
  have t7 := t6.keep kk7 (fun j hj => hst.symm j hj) hxne
  rw [← addZ_append, List.take_append_drop, addZ_reverse] at u7
  have hX7 := rowKeep (rowKeep (rowKeep hX4 kk5 hX.1) kk6 hX.2) kk7 hX.2
  have e9 := of_loop (z := X) t7 u7 9 0 rfl
  rw [n0] at e9
  have hlt : (addZ (List.replicate 9 0) ls).length = 9 := by rw [addZ_len]; simp
  have hft : fits (addZ (List.replicate 9 0) ls) 0 := fits_add _ _ (fits_zero _ _ (by omega)) (by omega)
  have hsum : sumR (addZ (List.replicate 9 0) ls) (addZ (List.replicate 9 0) ls).length = ls.length := by
    rw [hlt, sumR_add (n := 9) _ _ (by simp) bx, sumR_zero]; omega
  obtain ⟨A, m8, e10, k8, o8⟩ := owned_is k7.wf t7 (by omega)
  obtain ⟨B, m9, e11, k9, o9⟩ := owned_is k8.wf (u7.same k8) (by omega)
  have e12 := same_is (o8.row.same k9) o9.row (by have := ownF_len (addZ (List.replicate 9 0) ls) (addZ (List.replicate 9 0) ls).length 0; omega)
  rw [decide_eq_true rfl] at e12
  have k89 := k8.trans k9
  have e13 := sum_is (t7.same k89) (by omega) hft
  have e14 := sum_is (u7.same k89) (by omega) hft
  rw [hsum] at e13 e14
  have hXl := (hX7.same k89).len
  have heq : (((ls.length : Nat) : Int) == ((ls.length : Nat) : Int)) = true := by simp
  have ne00 : ((0 : Int) != 0) = false := rfl
  obtain ⟨μ', e15⟩ := wakes_is m9 k9.wf
  have hw1 : IntKind.wrap .i64 ((ls.length : Int) - 1) = (ls.length : Int) - 1 := wr (by omega)
  have hw2 : IntKind.wrap .i64 ((ls.length : Int) + 1) = (ls.length : Int) + 1 := wr (by omega)
  have lYI : ((ls.reverse.length : Nat) : Int) = (ls.length : Int) := by rw [lY]
  rw [lYI] at f3
  have hYl4 := o4.row.len
  have hYl6 := hY6.len
  rw [lY] at hYl4 hYl6
  rw [overdublaw12_RefsOrder_eq]
  simp -implicitDefEqProofs only [e1, e2, ne00, t1.nn, u2.nn, e3, (o3.row).len, hw1, e4, hYl4, hw2, e5, e6, f1, e7, hYl6, f3, e8, e9, e10, e11, e12, e13, e14, hXl, heq, e15, Option.bind_some, decide_true, decide_false, cond_true, cond_false, seqJ_n, seqJ_r, seqJ_e, headK_c, asB_bool, asI_int, asS_s, asN_int, extrK_0, extrK_1, extrK_2, Bool.not_true, Bool.not_false, Nat.beq_refl]
  exact ⟨_, rfl⟩
end Go.Proofs.Ytmmikeabacodnaa
