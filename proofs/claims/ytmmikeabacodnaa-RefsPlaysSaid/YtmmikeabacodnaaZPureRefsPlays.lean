/- The plain answer of RefsPlays. -/
import Derived.Test.YtmmikeabacodnaaZka
/- The plain answer of RefsPlays. -/
namespace Go.Proofs.Ytmmikeabacodnaa
open Go Go.Proofs.Ytmmikeabacodnaa.E
set_option linter.unusedVariables false
set_option linter.unusedSimpArgs false
theorem new_no {μ : AMem} {q : Int} (h : q < 1 ∨ q > 4096) : refs_New [.s (.int .i64 q)] μ = some (.tuple [.s .nilPtr, .s (.int .i64 1)], μ) := by
  rw [refs_New_eq]
  by_cases h1 : q < 1
  · simp -implicitDefEqProofs only [lt_t h1, Option.bind_some, decide_true, decide_false, cond_true, cond_false, seqJ_n, seqJ_r, seqJ_e, headK_c, asB_bool, asI_int, asS_s, asN_int, extrK_0, extrK_1, extrK_2, Bool.not_true, Bool.not_false, Nat.beq_refl]
  · simp -implicitDefEqProofs only [lt_f (show 1 ≤ q by omega), gt_t (show 4096 < q by omega), Option.bind_some, decide_true, decide_false, cond_true, cond_false, seqJ_n, seqJ_r, seqJ_e, headK_c, asB_bool, asI_int, asS_s, asN_int, extrK_0, extrK_1, extrK_2, Bool.not_true, Bool.not_false, Nat.beq_refl]
theorem own_lt {N : Nat} {μ : AMem} (h0 : WF μ) {k : IntKind} {e : TypeId} {y : SV} {zs : List Int} (hy : OwnRow N μ k e y zs) {j : Nat} (hj : isId y j) : j < μ.next := by
  obtain ⟨_, o, ho⟩ := own_lives hy hj
  exact h0.lt ho
theorem tab_ptr {N : Nat} {μ : AMem} {x s : SV} {cs : List Int} (h : Tab N μ x s cs) : ∃ p o, x = .ptr p 0 0 ∧ μ.obj p = some o := by
  obtain ⟨id, o, rfl, _, ho, _⟩ := h
  exact ⟨id, o, rfl, ho⟩
theorem clone_is {m : AMem} (hw : WF m) {N p : Nat} {s : SV} {cs : List Int} (ht : Tab N m (.ptr p 0 0) s cs) (hl : cs.length ≤ 4096) :
    ∃ y m', refs_Table_Clone [.s (.ptr p 0 0)] m = some (.s (.ptr (m.next + 6) 0 0), m') ∧ Same m m' ∧ Tab m.next m' (.ptr (m.next + 6) 0 0) y cs ∧ m.next + 6 < m'.next := by
  obtain ⟨id, o, hid, hN, ho, hv, hc, hr, hi⟩ := ht
  cases hid
  have hcell : (m.bump 8).cell p 0 (0 + 0) = some s := by
    rw [bump_cell]
    simp only [AMem.cell, ho, Option.bind_some, hv, if_true]; exact hc
  obtain ⟨y, m1, g1, g2, g3, hnx, g4⟩ := copyI (e := 3) (B := 8) (b := 4) (n := 8) hw (Keep.refl hw) hr.row (by omega) (by omega) (by omega)
  have hy6 : ¬ isId y (m.next + 6) := fun h => by have := g4 _ h; omega
  have ks : Same m (m1.set (m.next + 6) (rowObj [y] 1 44 (some 1))) := Keep.setS hw g2 (by omega) (by omega)
  refine ⟨y, m1.set (m.next + 6) (rowObj [y] 1 44 (some 1)), ?_, ks, ⟨m.next + 6, _, rfl, by omega, set_self _ _ _, rfl, rfl, g3.old fun id o ho hid => ?_, hy6⟩, by simp; omega⟩
  · rw [refs_Table_Clone_eq]
    simp -implicitDefEqProofs only [hcell, g1, Option.bind_some, decide_true, decide_false, cond_true, cond_false, seqJ_n, seqJ_r, seqJ_e, headK_c, asB_bool, asI_int, asS_s, asN_int, extrK_0, extrK_1, extrK_2, Bool.not_true, Bool.not_false, Nat.beq_refl]
  · rw [set_obj, if_neg (fun (h : id = m.next + 6) => hy6 (by rw [← h]; exact hid))]; exact ho
theorem pureRefsPlays (a0 : Int) (w0 : (Lit.int .i64 a0).wf = true) (x1 : ArgN) (t1 : List Cell) (u1 : Nat) (s1 : ArgN.isRecs t1 u1 x1) (q1 : CellsOK [.i .i64, .i .i64, .r .i64] t1 u1) (x2 : ArgN) (t2 : List Cell) (u2 : Nat) (s2 : ArgN.isRecs t2 u2 x2) (q2 : CellsOK [.i .i64, .i .i64, .r .i64] t2 u2) :
    ∃ μ', overdublaw12_RefsPlays (argValsN 0 [.cell (.leaf (.int .i64 a0)), x1, x2]) (argMemN [.cell (.leaf (.int .i64 a0)), x1, x2]) = some (.s (.bool true), μ') := by
  obtain ⟨A, hA, ha⟩ := IsActs.arg (al := [.cell (.leaf (.int .i64 a0)), x1, x2]) (j := 1) s1 q1 rfl
  obtain ⟨B, hB, hb⟩ := IsActs.arg (al := [.cell (.leaf (.int .i64 a0)), x1, x2]) (j := 2) s2 q2 rfl
  have hw : WF (argMemN [.cell (.leaf (.int .i64 a0)), x1, x2]) := WF.argsN _
  show ∃ μ', overdublaw12_RefsPlays [.s (.int .i64 a0), x1.val 1, x2.val 2] _ = _
  rw [hA, hB]
  generalize argMemN [.cell (.leaf (.int .i64 a0)), x1, x2] = μ at *
  have key : ∀ q : Int, (q = a0 % 20 ∧ a0 > 20 ∧ a0 ≤ 4096) ∨ (q = a0 ∧ a0 > 20 ∧ ¬ a0 ≤ 4096) ∨ (q = a0 ∧ ¬ a0 > 20) → ∃ μ', overdublaw12_RefsPlays [.s (.int .i64 a0), .s A, .s B] μ = some (.s (.bool true), μ') := by
    intro q hq
    have e0 := within_is a0 20 (wf64 w0) (by omega) (by omega) μ
    by_cases hbad : q < 1 ∨ q > 4096
    · have e1 := new_no (μ := μ) hbad
      obtain ⟨m, e2⟩ := wakes_is μ hw
      have en : isNil (.s .nilPtr) = some true := rfl
      refine ⟨m, ?_⟩
      rw [overdublaw12_RefsPlays_eq]
      have fin : ∀ Q : Prop, Q → Q := fun _ h => h
      by_cases h1 : q < 1
      · rcases hq with ⟨rfl, h2, h3⟩ | ⟨rfl, h2, h3⟩ | ⟨rfl, h2⟩
        · simp -implicitDefEqProofs only [gt_t h2, le_t h3, e0, e1, lt_t h1, BEq.rfl, en, e2, Option.bind_some, decide_true, decide_false, cond_true, cond_false, seqJ_n, seqJ_r, seqJ_e, headK_c, asB_bool, asI_int, asS_s, asN_int, extrK_0, extrK_1, extrK_2, Bool.not_true, Bool.not_false, Nat.beq_refl]
        · simp -implicitDefEqProofs only [gt_t h2, decide_eq_false h3, e0, e1, lt_t h1, BEq.rfl, en, e2, Option.bind_some, decide_true, decide_false, cond_true, cond_false, seqJ_n, seqJ_r, seqJ_e, headK_c, asB_bool, asI_int, asS_s, asN_int, extrK_0, extrK_1, extrK_2, Bool.not_true, Bool.not_false, Nat.beq_refl]
        · simp -implicitDefEqProofs only [decide_eq_false h2, e0, e1, lt_t h1, BEq.rfl, en, e2, Option.bind_some, decide_true, decide_false, cond_true, cond_false, seqJ_n, seqJ_r, seqJ_e, headK_c, asB_bool, asI_int, asS_s, asN_int, extrK_0, extrK_1, extrK_2, Bool.not_true, Bool.not_false, Nat.beq_refl]
      · have h1' := lt_f (show 1 ≤ q by omega)
        have h4 := gt_t (show 4096 < q by omega)
        rcases hq with ⟨rfl, h2, h3⟩ | ⟨rfl, h2, h3⟩ | ⟨rfl, h2⟩
        · simp -implicitDefEqProofs only [gt_t h2, le_t h3, e0, e1, h1', h4, BEq.rfl, en, e2, Option.bind_some, decide_true, decide_false, cond_true, cond_false, seqJ_n, seqJ_r, seqJ_e, headK_c, asB_bool, asI_int, asS_s, asN_int, extrK_0, extrK_1, extrK_2, Bool.not_true, Bool.not_false, Nat.beq_refl]
        · simp -implicitDefEqProofs only [gt_t h2, decide_eq_false h3, e0, e1, h1', h4, BEq.rfl, en, e2, Option.bind_some, decide_true, decide_false, cond_true, cond_false, seqJ_n, seqJ_r, seqJ_e, headK_c, asB_bool, asI_int, asS_s, asN_int, extrK_0, extrK_1, extrK_2, Bool.not_true, Bool.not_false, Nat.beq_refl]
        · simp -implicitDefEqProofs only [decide_eq_false h2, e0, e1, h1', h4, BEq.rfl, en, e2, Option.bind_some, decide_true, decide_false, cond_true, cond_false, seqJ_n, seqJ_r, seqJ_e, headK_c, asB_bool, asI_int, asS_s, asN_int, extrK_0, extrK_1, extrK_2, Bool.not_true, Bool.not_false, Nat.beq_refl]
    · obtain ⟨n, hn⟩ : ∃ n : Nat, q = n := ⟨q.toNat, by omega⟩
      subst hn
      obtain ⟨x, s, m1, e1, k1, tb1⟩ := new_is hw (n := n) (by omega)
      obtain ⟨p, po, rfl, hp⟩ := tab_ptr tb1
      have hp1 := k1.wf.lt hp
      have k2 : Same m1 ((m1.bump 3).set (m1.next + 1) (rowObj (zerosA [.int .i64 0] n) 1 3 (some n))) := Same.bumpSet k1.wf (by omega) _
      have hn1 := k1.next
      have oc : OwnRow μ.next ((m1.bump 3).set (m1.next + 1) (rowObj (zerosA [.int .i64 0] n) 1 3 (some n))) .i64 3 (.slice (m1.next + 1) 0 0 n) (List.replicate n 0) :=
        OwnRow.new (o := rowObj (zerosA [.int .i64 0] n) 1 3 (some n)) (by simp) (by omega) (by simp) rfl rfl rfl rfl (by show zerosA _ _ = _; rw [zerosA_rep]; simp)
      have tb2 := tb1.same k2
      have hap : Apart s (.slice (m1.next + 1) 0 0 n) := apart_fresh k1.wf tb1.row _ _ _ _
      have hpc : ¬ isId (.slice (m1.next + 1) 0 0 n) p := fun h => by
        have : m1.next + 1 = p := h
        omega
      have if1 : 0 ≤ (n : Int) ∧ (n : Int) ≤ (n : Int) ∧ (n : Int) ≤ 9223372036854775807 ∧ ((8 : Nat) : Int) * (n : Int) ≤ 140737488355328 := by omega
      generalize hC : (SV.slice (m1.next + 1) 0 0 n) = c at *
      generalize hM : (m1.bump 3).set (m1.next + 1) (rowObj (zerosA [.int .i64 0] n) 1 3 (some n)) = m2 at *
      have k12 := k1.trans k2
      obtain ⟨m3, cs1, e3, k3, tb3, oc3, hl3, hf3⟩ := play_is hw ha (n := n) (by omega) hap hpc (r := 300) k12 tb2 oc (by simp) (fits_zero _ _ (by omega)) (by omega)
      have hs3 : Same μ m3 := keepSame hw k12 k3 fun j hj => hj.elim (fun h => tb2.ids h) fun h => (own_lives oc h).1
      obtain ⟨y, m4, e4, k4, tb4, hlt4⟩ := clone_is hs3.wf tb3 (by omega)
      obtain ⟨c2, m5, e5, k5, o5⟩ := copy_is k4.wf ((oc3.row).same k4) (by omega)
      have k45 := k4.trans k5
      have hs5 := hs3.trans k45
      have hap2 : Apart y c2 := fun j h1 h2 => by
        have := own_lt k4.wf tb4.row h1
        have := (own_lives o5 h2).1
        omega
      have hpc2 : ¬ isId c2 (m3.next + 6) := fun h => by
        have := (own_lives o5 h).1
        omega
      have hn3 := hs3.next
      have hn4 := k4.next
      obtain ⟨m6, cs2, e6, k6, tb6, oc6, _, _⟩ := play_is hw hb (n := n) (by omega) hap2 hpc2 (r := 0) hs5 ((tb4.less hn3).same k5) (o5.less (by omega)) hl3 (fits_less hf3 (by omega)) (by omega)
      have hs6 : Same μ m6 := keepSame hw hs5 k6 fun j hj => hj.elim (fun h => by have := tb4.ids h; omega) fun h => by have := (own_lives o5 h).1; omega
      have hnew : ∀ j, isId y j ∨ isId c2 j → m3.next ≤ j := fun j hj => hj.elim (fun h => tb4.ids h) fun h => by have := (own_lives o5 h).1; omega
      obtain ⟨p', po3, hpe, hp3⟩ := tab_ptr tb3
      cases hpe
      have hp3' := hs3.wf.lt hp3
      have tb5 := tb3.same k45
      have tb7 := tb5.keep k6 (fun j hj hsj => by have := hnew j hj; have := own_lt hs3.wf tb3.row hsj; omega) (fun j hj he => by cases he; have := hnew _ hj; omega)
      have oc5 : OwnRow μ.next m5 .i64 3 c cs1 := oc3.old fun id o ho _ => k45.old id o ho fun h => h
      have oc7 := ownKeep oc5 k6 fun j hj hcj => by have := hnew j hj; have := own_lt hs3.wf oc3 hcj; omega
      obtain ⟨m7, cs3, e7, k7, tb8, oc8, _, _⟩ := play_is hw ha (n := n) (by omega) hap hpc (r := 0) hs6 tb7 oc7 hl3 (fits_less hf3 (by omega)) (by omega)
      obtain ⟨m8, e8⟩ := wakes_is m7 k7.wf
      refine ⟨m8, ?_⟩
      have en1 : isNil (.s (.ptr p 0 0)) = some false := rfl
      have en2 : isNil (.s (.ptr (m3.next + 6) 0 0)) = some false := rfl
      have h1' := lt_f (show 1 ≤ (n : Int) by omega)
      have h4 := gt_f (show (n : Int) ≤ 4096 by omega)
      rw [overdublaw12_RefsPlays_eq]
      rcases hq with ⟨h5, h2, h3⟩ | ⟨h5, h2, h3⟩ | ⟨h5, h2⟩
      · rw [← h5] at e0
        simp -implicitDefEqProofs only [gt_t h2, le_t h3, e0, e1, h1', h4, Option.bind_some, decide_true, decide_false, cond_true, cond_false, seqJ_n, seqJ_r, seqJ_e, headK_c, asB_bool, asI_int, asS_s, asN_int, extrK_0, extrK_1, extrK_2, Bool.not_true, Bool.not_false, Nat.beq_refl]
        rw [if_pos if1]
        simp -implicitDefEqProofs only [nat_toNat, hC, hM, ne_f (rfl : (0 : Int) = 0), en1, e3, e4, en2, e5, e6, e7, e8, Option.bind_some, decide_true, decide_false, cond_true, cond_false, seqJ_n, seqJ_r, seqJ_e, headK_c, asB_bool, asI_int, asS_s, asN_int, extrK_0, extrK_1, extrK_2, Bool.not_true, Bool.not_false, Nat.beq_refl]
      · subst h5
        simp -implicitDefEqProofs only [gt_t h2, decide_eq_false h3, e1, h1', h4, Option.bind_some, decide_true, decide_false, cond_true, cond_false, seqJ_n, seqJ_r, seqJ_e, headK_c, asB_bool, asI_int, asS_s, asN_int, extrK_0, extrK_1, extrK_2, Bool.not_true, Bool.not_false, Nat.beq_refl]
        rw [if_pos if1]
        simp -implicitDefEqProofs only [nat_toNat, hC, hM, ne_f (rfl : (0 : Int) = 0), en1, e3, e4, en2, e5, e6, e7, e8, Option.bind_some, decide_true, decide_false, cond_true, cond_false, seqJ_n, seqJ_r, seqJ_e, headK_c, asB_bool, asI_int, asS_s, asN_int, extrK_0, extrK_1, extrK_2, Bool.not_true, Bool.not_false, Nat.beq_refl]
      · subst h5
        simp -implicitDefEqProofs only [decide_eq_false h2, e1, h1', h4, Option.bind_some, decide_true, decide_false, cond_true, cond_false, seqJ_n, seqJ_r, seqJ_e, headK_c, asB_bool, asI_int, asS_s, asN_int, extrK_0, extrK_1, extrK_2, Bool.not_true, Bool.not_false, Nat.beq_refl]
        rw [if_pos if1]
        simp -implicitDefEqProofs only [nat_toNat, hC, hM, ne_f (rfl : (0 : Int) = 0), en1, e3, e4, en2, e5, e6, e7, e8, Option.bind_some, decide_true, decide_false, cond_true, cond_false, seqJ_n, seqJ_r, seqJ_e, headK_c, asB_bool, asI_int, asS_s, asN_int, extrK_0, extrK_1, extrK_2, Bool.not_true, Bool.not_false, Nat.beq_refl]
  by_cases h1 : a0 > 20
  · by_cases h2 : a0 ≤ 4096
    · exact key (a0 % 20) (.inl ⟨rfl, h1, h2⟩)
    · exact key a0 (.inr (.inl ⟨rfl, h1, h2⟩))
  · exact key a0 (.inr (.inr ⟨rfl, h1⟩))
end Go.Proofs.Ytmmikeabacodnaa
