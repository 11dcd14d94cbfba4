/- The plain answer of RefsBack. -/
import Derived.Test.YtmmikeabacodnaaQWakes
import Derived.Test.YtmmikeabacodnaaKWithin
import Derived.Test.YtmmikeabacodnaaKCopy
namespace Go.Proofs.Ytmmikeabacodnaa
open Go Go.Proofs.Ytmmikeabacodnaa.E
set_option linter.unusedVariables false
set_option linter.unusedSimpArgs false
theorem draw_loop {μ0 : AMem} (h0 : WF μ0) {x t : SV} {b : Int} {zs : List Int} (hx : IsRow μ0 .i64 x zs) (hz : ∀ v ∈ zs, (Lit.int .i64 v).wf = true) :
    ∀ (k i : Nat) (μ : AMem) (y : SV), i + k = min 20 zs.length → Same μ0 μ → OwnRow μ0.next μ .i64 3 y ((zs.take i).map fun v => v % 10) →
      ∃ y' μ', overdublaw12_RefsBack_L1 [.s x, .s (.int .i64 b), .s t] [.s y, .s (.int .i64 i)] μ = some (.exit 0, [.s (.int .i64 b), .s t, .s y'], μ') ∧ Same μ0 μ' ∧ OwnRow μ0.next μ' .i64 3 y' ((zs.take 20).map fun v => v % 10)
  | 0, i, μ, y, h, hs, hy => by
    rw [overdublaw12_RefsBack_L1_eq, overdublaw12_RefsBack_L1_B_eq, (hx.same hs).len]
    rw [take_min (n := 20) (zs := zs) (i := i) (by omega)] at hy
    by_cases h1 : (i : Int) < (zs.length : Int)
    · simp -implicitDefEqProofs (disch := omega) only [lt_t, lt_f, gt_t, gt_f, le_t, le_f, ge_t, ge_f, ne_t, ne_f, eq_t, eq_f, w64, chk_true, Option.bind_some, decide_true, decide_false, cond_true, cond_false, seqJ_n, seqJ_r, seqJ_e, headK_c, asB_bool, asI_int, asS_s, asN_int, extrK_0, extrK_1, extrK_2, Bool.not_true, Bool.not_false, Nat.beq_refl]
      exact ⟨y, μ, rfl, hs, hy⟩
    · simp -implicitDefEqProofs (disch := omega) only [lt_t, lt_f, gt_t, gt_f, le_t, le_f, ge_t, ge_f, ne_t, ne_f, eq_t, eq_f, w64, chk_true, Option.bind_some, decide_true, decide_false, cond_true, cond_false, seqJ_n, seqJ_r, seqJ_e, headK_c, asB_bool, asI_int, asS_s, asN_int, extrK_0, extrK_1, extrK_2, Bool.not_true, Bool.not_false, Nat.beq_refl]
      exact ⟨y, μ, rfl, hs, hy⟩
  | k + 1, i, μ, y, h, hs, hy => by
    have hi : i < zs.length := by omega
    have hx1 := hx.same hs
    have hx9 := hx.same (bumpS hs 9)
    have hw := within_is (zs.getD i 0) 10 (wf64 (hz _ (getD_mem hi))) (by omega) (by omega) (μ.bump 9)
    have hlen : ((zs.take i).map fun v => v % 10).length = i := by simp; omega
    obtain ⟨y', μ', p1, p2, p3⟩ := pushS (B := 8) (a := 6) (b := 7) (n := 9) (q := some 1) h0 hs hy (zs.getD i 0 % 10) (by omega) (by omega) (by omega) (by omega) (by omega)
    rw [← take_map_snoc (fun v => v % 10) hi] at p3
    obtain ⟨y2, μ2, q1, q2, q3⟩ := draw_loop (t := t) (b := b) h0 hx hz k (i + 1) μ' y' (by omega) p2 p3
    rw [nsu] at q1
    refine ⟨y2, μ2, ?_, q2, q3⟩
    rw [overdublaw12_RefsBack_L1_eq, overdublaw12_RefsBack_L1_B_eq, hx1.len]
    simp -implicitDefEqProofs (disch := omega) only [lt_t, lt_f, gt_t, gt_f, le_t, le_f, ge_t, ge_f, ne_t, ne_f, eq_t, eq_f, w64, chk_true, Option.bind_some, decide_true, decide_false, cond_true, cond_false, seqJ_n, seqJ_r, seqJ_e, headK_c, asB_bool, asI_int, asS_s, asN_int, extrK_0, extrK_1, extrK_2, Bool.not_true, Bool.not_false, Nat.beq_refl, hx9.ind, hx9.load, nat_toNat, hw, p1]
    exact q1
theorem back_loop {μ0 : AMem} (h0 : WF μ0) {x s y : SV} {ls : List Int} (hl : ls.length ≤ 20) (hls : ∀ v ∈ ls, 0 ≤ v ∧ v < (10 : Nat)) (hap : Apart s y) :
    ∀ (k i : Nat) (m : AMem), i + k = ls.length → Same μ0 m → Tab μ0.next m x s (addZ (List.replicate 10 0) (ls.take k)) → IsRow m .i64 y ls →
      ∃ m', overdublaw12_RefsBack_L2 [.s x, .s y, .s (.int .i64 ls.length)] [.s (.int .i64 i)] m = some (.exit 2, [.s x], m') ∧ Same μ0 m' ∧ Tab μ0.next m' x s (List.replicate 10 0)
  | 0, i, m, h, hs, ht, hy => by
    rw [overdublaw12_RefsBack_L2_eq, overdublaw12_RefsBack_L2_B_eq]
    simp -implicitDefEqProofs (disch := omega) only [lt_t, lt_f, gt_t, gt_f, le_t, le_f, ge_t, ge_f, ne_t, ne_f, eq_t, eq_f, w64, chk_true, Option.bind_some, decide_true, decide_false, cond_true, cond_false, seqJ_n, seqJ_r, seqJ_e, headK_c, asB_bool, asI_int, asS_s, asN_int, extrK_0, extrK_1, extrK_2, Bool.not_true, Bool.not_false, Nat.beq_refl]
    exact ⟨m, rfl, hs, ht⟩
  | k + 1, i, m, h, hs, ht, hy => by
    have hk : k < ls.length := by omega
    have hv := hls _ (getD_mem hk)
    have hlt : (addZ (List.replicate 10 0) (ls.take k)).length = 10 := by rw [addZ_len]; simp
    have htk : ∀ v ∈ ls.take k, 0 ≤ v ∧ v < (10 : Nat) := fun v hv => hls v (List.mem_of_mem_take hv)
    have hft : fits (addZ (List.replicate 10 0) (ls.take (k + 1))) 0 := fits_add _ _ (fits_zero _ _ (by simp; omega)) (by simp; omega)
    have hfk : fits (addZ (List.replicate 10 0) (ls.take k)) 0 := fits_add _ _ (fits_zero _ _ (by simp; omega)) (by simp; omega)
    rw [take_snoc hk, addZ_snoc] at ht hft
    have hidx : (ls.getD k 0).toNat < (addZ (List.replicate 10 0) (ls.take k)).length := by rw [hlt]; omega
    have hof : ofI (incZ (addZ (List.replicate 10 0) (ls.take k)) (ls.getD k 0)) (ls.getD k 0) ≠ 0 := by
      unfold ofI
      have hm : mayI (incZ (addZ (List.replicate 10 0) (ls.take k)) (ls.getD k 0)) (ls.getD k 0) = true := by unfold mayI; rw [incZ_len, hlt, decide_eq_true hv.1, decide_eq_true hv.2]; rfl
      rw [if_pos hm]
      unfold incZ
      rw [getD_set_self hidx]
      have := getD_fit hfk (by omega) (ls.getD k 0).toNat
      omega
    obtain ⟨m1, e1, k1, t1, kk⟩ := dropS h0 hs ht hft (ls.getD k 0) hof
    rw [dec_inc hidx] at t1
    have e2 := sum_is t1 (by omega) hfk
    have hsum : sumR (addZ (List.replicate 10 0) (ls.take k)) (addZ (List.replicate 10 0) (ls.take k)).length = k := by
      rw [hlt, sumR_add (n := 10) _ _ (by simp) htk, sumR_zero, List.length_take]; omega
    rw [hsum] at e2
    have hy1 := rowKeep hy kk hap
    obtain ⟨m', q1, q2, q3⟩ := back_loop h0 hl hls hap k (i + 1) m1 (by omega) k1 t1 hy1
    rw [nsu] at q1
    have ei : (((ls.length : Nat) : Int) - 1 - (i : Int)).toNat = k := by omega
    refine ⟨m', ?_, q2, q3⟩
    rw [overdublaw12_RefsBack_L2_eq, overdublaw12_RefsBack_L2_B_eq]
    simp -implicitDefEqProofs (disch := omega) only [lt_t, lt_f, gt_t, gt_f, le_t, le_f, ge_t, ge_f, ne_t, ne_f, eq_t, eq_f, w64, chk_true, Option.bind_some, decide_true, decide_false, cond_true, cond_false, seqJ_n, seqJ_r, seqJ_e, headK_c, asB_bool, asI_int, asS_s, asN_int, extrK_0, extrK_1, extrK_2, Bool.not_true, Bool.not_false, Nat.beq_refl, hy.len, hy1.len, hy.ind, hy.load, ei, e1, e2]
    exact q1
theorem pureRefsBack (x0 : Arg) (z0 : List Int) (s0 : Arg.isRow .i64 z0 x0) (w0 : ∀ n ∈ z0, (Lit.int .i64 n).wf = true) (y0 : z0.length * 8 ≤ 140737488351232) (a1 : Int) (w1 : (Lit.int .i64 a1).wf = true) :
    ∃ μ', overdublaw12_RefsBack (argVals 0 [x0, .i .i64 a1]) (argMem [x0, .i .i64 a1]) = some (.s (.bool true), μ') := by
  obtain ⟨a, ha, hx⟩ := IsRow.arg (l := [x0, .i .i64 a1]) (j := 0) s0 rfl
  have hw := WF.args [x0, .i .i64 a1]
  show ∃ μ', overdublaw12_RefsBack [x0.val 0, .s (.int .i64 a1)] _ = _
  rw [ha]
  generalize argMem [x0, .i .i64 a1] = μ at *
  obtain ⟨x, s, m1, e1, k1, t1⟩ := new_is hw (n := 10) (by omega)
  rw [show ((10 : Nat) : Int) = 10 from rfl] at e1
  obtain ⟨X, m2, e2, k2, o2⟩ := draw_loop (t := x) (b := a1) k1.wf (hx.same k1) w0 _ 0 m1 .nilSlice (Nat.zero_add _) (Keep.refl k1.wf) (OwnRow.nil _ _ _ _)
  rw [n0] at e2
  have lx : ((z0.take 20).map fun v => v % 10).length ≤ 20 := by simp; omega
  have bx : ∀ v ∈ (z0.take 20).map (fun v : Int => v % 10), 0 ≤ v ∧ v < (10 : Nat) := by
    intro v hv; obtain ⟨u, _, rfl⟩ := List.mem_map.mp hv
    show 0 ≤ u % 10 ∧ u % 10 < (10 : Nat)
    omega
  generalize ((z0.take 20).map fun v => v % 10) = ls at *
  have t2 := t1.same k2
  have hapX : Apart s X := fun id h1 h2 => by
    obtain ⟨_, ob, hob⟩ := own_lives t1.row h1
    have := k1.wf.lt hob
    have := (own_lives o2 h2).1
    omega
  obtain ⟨m3, e3, k3, t3, kk3⟩ := (addS hw (k1.trans k2) t2 o2.row hapX (by omega) (fits_zero _ _ (by omega))).2 (all_may fun v hv => by have := bx v hv; simp; omega)
  have hlt : (addZ (List.replicate 10 0) ls).length = 10 := by rw [addZ_len]; simp
  have hf20 : fits (addZ (List.replicate 10 0) ls) 100 := fits_add _ _ (fits_zero _ _ (by omega)) (by omega)
  have hsum : sumR (addZ (List.replicate 10 0) ls) (addZ (List.replicate 10 0) ls).length = ls.length := by
    rw [hlt, sumR_add (n := 10) _ _ (by simp) bx, sumR_zero]; omega
  have e4 := sum_is t3 (by omega) (fits_less hf20 (by omega))
  rw [hsum] at e4
  have hX3 := rowKeep o2.row kk3 hapX
  have ne00 : ((0 : Int) != 0) = false := rfl
  have hne : (((ls.length : Nat) : Int) != ((ls.length : Nat) : Int)) = false := by simp
  have heq : (((ls.length : Nat) : Int) == ((ls.length : Nat) : Int)) = true := by simp
  rw [overdublaw12_RefsBack_eq]
  by_cases c1 : 0 ≤ a1 ∧ a1 < 10
  · obtain ⟨μ', e5⟩ := wakes_is m3 k3.wf
    simp -implicitDefEqProofs only [e1, ne00, t1.nn, e2, e3, e4, hX3.len, hne, heq, ge_t c1.1, lt_t c1.2, e5, Option.bind_some, decide_true, decide_false, cond_true, cond_false, seqJ_n, seqJ_r, seqJ_e, headK_c, asB_bool, asI_int, asS_s, asN_int, extrK_0, extrK_1, extrK_2, Bool.not_true, Bool.not_false, Nat.beq_refl]
    exact ⟨_, rfl⟩
  · have k14 := bumpS (Keep.refl k3.wf) 14
    obtain ⟨D, m4, g1, g2, g3⟩ := copy_is k14.wf (hX3.same k14) (by omega)
    have hn3 := g2.next
    simp only [bump_next] at hn3
    have ks : Same m3 (m4.set (m3.next + 4) (rowObj [.int .i64 a1] 1 3 (some 1))) := Keep.setS k3.wf (k14.trans g2) (by omega) (by omega)
    have g3' : OwnRow m3.next (m4.set (m3.next + 4) (rowObj [.int .i64 a1] 1 3 (some 1))) .i64 3 D ls := by
      refine (g3.old fun id o ho hi => ?_).less (by simp)
      have : ¬ id = m3.next + 4 := fun e => g3.notOld (id := id) (by simp; omega) hi
      rw [set_obj, if_neg this]; exact ho
    have hlit : IsRow (m4.set (m3.next + 4) (rowObj [.int .i64 a1] 1 3 (some 1))) .i64 (.slice (m3.next + 4) 0 0 1) [a1] := IsRow.made (o := rowObj [.int .i64 a1] 1 3 (some 1)) (by simp) rfl rfl rfl
    obtain ⟨L, m5, g4, k5, o5⟩ := appS (B := 8) (nid := m3.next + 5) k3.wf ks g3' hlit (by omega) (by simp; omega) (by omega) (by simp; omega) (by rw [set_obj, if_neg (by omega)]; exact freshS k3.wf (n := 14) (by omega) g2)
    have t5 := t3.same k5
    have hapL : Apart s L := fun id h1 h2 => by
      obtain ⟨_, ob, hob⟩ := own_lives t3.row h1
      have := k3.wf.lt hob
      have := (own_lives o5 h2).1
      omega
    have hmb : mayI (addZ (List.replicate 10 0) ls) a1 = false := by
      unfold mayI
      rw [hlt]
      by_cases h : 0 ≤ a1
      · rw [decide_eq_false (p := a1 < ((10 : Nat) : Int)) (by omega), Bool.and_false]
      · rw [decide_eq_false h, Bool.false_and]
    have hal : ([a1] : List Int).all (mayI (addZ (List.replicate 10 0) ls)) = false := by
      show (mayI (addZ (List.replicate 10 0) ls) a1 && true) = false
      rw [hmb]; rfl
    have e6 := (addS hw (k3.trans k5) t5 o5.row hapL (by simp; omega) (fits_less hf20 (by simp; omega))).1 (by rw [List.all_append, hal, Bool.and_false])
    have e7 := sum_is t5 (by omega) (fits_less hf20 (by omega))
    rw [hsum] at e7
    have hX5 := hX3.same k5
    have htk : ls.take ls.length = ls := List.take_length
    obtain ⟨m6, e8, k6, t6⟩ := back_loop hw (by omega) bx hapX ls.length 0 m5 (by omega) (k3.trans k5) (by rw [htk]; exact t5) hX5
    rw [n0] at e8
    have e9 := (drop_is k6.wf t6 (fits_zero _ _ (by omega)) 3).1 (by decide)
    obtain ⟨O, m7, e10, k7, o7⟩ := owned_is k6.wf t6 (by simp)
    have hown : ownF (List.replicate 10 0) (List.replicate 10 (0 : Int)).length 0 = [] := by decide
    rw [hown] at o7
    have hol := o7.row.len
    have h00 : ((([] : List Int).length : Nat) : Int) = 0 := rfl
    have t00 : ((0 : Int) == 0) = true := rfl
    obtain ⟨μ', e11⟩ := wakes_is m7 k7.wf
    by_cases h : 0 ≤ a1
    · simp -implicitDefEqProofs only [e1, ne00, t1.nn, e2, e3, e4, hX3.len, hne, ge_t h, lt_f (show (10 : Int) ≤ a1 by omega), g1, g4, e6, e7, hX5.len, e8, e9, e10, hol, h00, t00, e11, Option.bind_some, decide_true, decide_false, cond_true, cond_false, seqJ_n, seqJ_r, seqJ_e, headK_c, asB_bool, asI_int, asS_s, asN_int, extrK_0, extrK_1, extrK_2, Bool.not_true, Bool.not_false, Nat.beq_refl]
      exact ⟨_, rfl⟩
    · simp -implicitDefEqProofs only [e1, ne00, t1.nn, e2, e3, e4, hX3.len, hne, ge_f (show a1 < 0 by omega), g1, g4, e6, e7, hX5.len, e8, e9, e10, hol, h00, t00, e11, Option.bind_some, decide_true, decide_false, cond_true, cond_false, seqJ_n, seqJ_r, seqJ_e, headK_c, asB_bool, asI_int, asS_s, asN_int, extrK_0, extrK_1, extrK_2, Bool.not_true, Bool.not_false, Nat.beq_refl]
      exact ⟨_, rfl⟩
end Go.Proofs.Ytmmikeabacodnaa
