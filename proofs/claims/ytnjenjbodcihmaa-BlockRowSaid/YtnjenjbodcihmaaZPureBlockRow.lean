/- The plain answer of BlockRow. -/
import Derived.Test.YtnjenjbodcihmaaZkc
/- The plain answer of BlockRow. -/
namespace Go.Proofs.Ytnjenjbodcihmaa
open Go Go.Proofs.Ytnjenjbodcihmaa.E
set_option linter.unusedVariables false
set_option linter.unusedSimpArgs false
theorem tame_app {xs ys : List Int} (h1 : tame xs) (h2 : tame ys) : tame (xs ++ ys) := fun v hv => (List.mem_append.mp hv).elim (h1 v) (h2 v)
theorem gather_loop {μ0 : AMem} (h0 : WF μ0) {x : SV} {len : Nat} (ha : IsRR .i64 μ0 x len) {n : Int} (hn : -9223372036854775808 ≤ n ∧ n ≤ 9223372036854775807) :
    ∀ (k i : Nat) (μ : AMem) (y : SV) (xs : List Int), i + k = min 2 len → Same μ0 μ → OwnRow μ0.next μ .i64 3 y xs → tame xs → xs.length ≤ 114 * i →
      ∃ y' μ' xs', overdublaw09_BlockRow_L1 [.s x, .s (.int .i64 n)] [.s y, .s (.int .i64 (i : Int))] μ = some (.exit 0, [.s y'], μ') ∧ Same μ0 μ' ∧ OwnRow μ0.next μ' .i64 3 y' xs' ∧ tame xs' ∧ xs'.length ≤ 228
  | 0, i, μ, y, xs, h, hs, hy, ht, hl => by
    refine ⟨y, μ, xs, ?_, hs, hy, ht, by omega⟩
    rw [overdublaw09_BlockRow_L1_eq, overdublaw09_BlockRow_L1_B_eq, (ha.same hs).lenS]
    by_cases h1 : (i : Int) < (len : Int)
    · simp -implicitDefEqProofs only [lt_t h1, lt_f (show (2 : Int) ≤ (i : Int) by omega), Option.bind_some, decide_true, decide_false, cond_true, cond_false, seqJ_n, seqJ_r, seqJ_e, headK_c, asB_bool, asI_int, asS_s, asN_int, extrK_0, extrK_1, extrK_2, Bool.not_true, Bool.not_false, Nat.beq_refl]
    · simp -implicitDefEqProofs only [lt_f (show (len : Int) ≤ (i : Int) by omega), Option.bind_some, decide_true, decide_false, cond_true, cond_false, seqJ_n, seqJ_r, seqJ_e, headK_c, asB_bool, asI_int, asS_s, asN_int, extrK_0, extrK_1, extrK_2, Bool.not_true, Bool.not_false, Nat.beq_refl]
  | k + 1, i, μ, y, xs, h, hs, hy, ht, hl => by
    have ei : IntKind.wrap .i64 ((i : Int) + 1) = ((i + 1 : Nat) : Int) := by rw [wr (by omega)]; rfl
    have hN := hs.next
    obtain ⟨r, zs, g1, g2, hr, hz⟩ := ha.at (i := i) (by omega)
    have kb1 := Keep.bump (S := fun _ => False) hs.wf 14
    have hw1 : -9223372036854775808 ≤ IntKind.wrap .i64 ((i : Int) + n) ∧ IntKind.wrap .i64 ((i : Int) + n) ≤ 9223372036854775807 := by rw [IntKind.wrap_i64]; omega
    have hw2 : -9223372036854775808 ≤ IntKind.wrap .i64 ((i : Int) * 100) ∧ IntKind.wrap .i64 ((i : Int) * 100) ≤ 9223372036854775807 := by rw [IntKind.wrap_i64]; omega
    obtain ⟨t, m1, ts, e1, k1, o1, hl1, hnr⟩ := tone_is kb1.wf ((hr.same hs).same kb1) hz (n := n) (s2 := IntKind.wrap .i64 ((i : Int) + n)) (p3 := IntKind.wrap .i64 ((i : Int) * 100)) hn hw1 hw2
    have hn1 := k1.next
    simp only [bump_next] at hn1
    have y1 : OwnRow μ0.next m1 .i64 3 y xs := hy.old fun id o ho _ => k1.old id o ho fun h => h
    obtain ⟨y2, m2, e2, k2, o2⟩ := appS (B := 8) (nid := μ.next + 12) h0 (hs.trans (kb1.trans k1)) y1 o1.row (by omega) (by omega) (by omega) (by omega) (k1.low _ (by simp) (freshB hs.wf 14 12))
    have kb2 := Keep.bump (S := fun _ => False) k2.wf 8
    have hN2 := k2.next
    obtain ⟨u, m3, e3, k3, o3⟩ := samples_is kb2.wf 50 false ((hr.same k2).same kb2) hz (by omega)
    have hn3 := k3.next
    simp only [bump_next] at hn3
    have y3 : OwnRow μ0.next m3 .i64 3 y2 (xs ++ ts) := o2.old fun id o ho _ => k3.old id o ho fun h => h
    obtain ⟨y4, m4, e4, k4, o4⟩ := appS (B := 8) (nid := m2.next + 6) h0 (k2.trans (kb2.trans k3)) y3 o3.row (by omega) (by simp; omega) (by omega) (by omega) (k3.low _ (by simp) (freshB k2.wf 8 6))
    obtain ⟨y', μ', xs', q1, q2⟩ := gather_loop h0 ha hn k (i + 1) m4 y4 _ (by omega) k4 o4 (tame_app (tame_app ht (near_tame hnr)) samples_tame) (by simp; omega)
    refine ⟨y', μ', xs', ?_, q2⟩
    have l1 := fun {R : Type} (K : AV → Option R) => g2 (μ.bump 14) K (hs.trans kb1)
    have l2 := fun {R : Type} (K : AV → Option R) => g2 (m2.bump 8) K (k2.trans kb2)
    rw [show ((50 : Nat) : Int) = 50 from rfl] at e3
    rw [overdublaw09_BlockRow_L1_eq, overdublaw09_BlockRow_L1_B_eq, (ha.same hs).lenS]
    simp -implicitDefEqProofs only [lt_t (show (i : Int) < (len : Int) by omega), lt_t (show (i : Int) < 2 by omega), g1, l1, e1, e2, l2, e3, e4, ei, Option.bind_some, decide_true, decide_false, cond_true, cond_false, seqJ_n, seqJ_r, seqJ_e, headK_c, asB_bool, asI_int, asS_s, asN_int, extrK_0, extrK_1, extrK_2, Bool.not_true, Bool.not_false, Nat.beq_refl]
    exact q1
theorem allP_nil {k : Nat} {xs : List Int} (hk : xs.length ≤ k) (h : allP k xs = []) : xs.length = 0 := by
  cases k with
  | zero => omega
  | succ k =>
    rw [allP] at h
    by_cases hz : xs.length = 0
    · exact hz
    · rw [if_neg hz] at h; cases h
theorem row_loop {μ0 : AMem} (h0 : WF μ0) {N p tid : Nat} {o : Int} (hN : N ≤ μ0.next) (hp : p < μ0.next ∧ tid < μ0.next) {M : Nat} (hM : p < M ∧ tid < M) {out cnt : SV} {rs : List SV} {L : List (Nat × List Int)} (ho : OwnV M μ0 32 1 out L.length rs) (hr : RowsOf M μ0 rs (L.map (·.2))) (hc : OwnRow M μ0 .i64 3 cnt (L.map fun q => (q.1 : Int))) :
    ∀ (k i : Nat) (xs : List Int) (y : SV) (μ : AMem) (b : Bool) (s : Int), L.drop i = allP k xs → xs.length ≤ k → k ≤ 1000 → tame xs → IsRow μ0 .i64 y xs → (∀ j, isId y j → ¬ cf p tid j) → Keep (cf p tid) μ0 μ → Cd N μ p tid b s o → 0 ≤ s → s + k ≤ 100000 → i ≤ L.length → L.length ≤ 10000 → (∀ q ∈ L, q.2.length ≤ 1000) →
      ∃ y' μ', overdublaw09_BlockRow_L2 [.s (.ptr p 0 0), .s out, .s cnt, .s (.int .i64 (L.length : Int))] [.s y, .s (.int .i64 (i : Int))] μ = some (.exit 2, [.s y'], μ') ∧ lenS (.s y') = some 0 ∧ WF μ' := by
  intro k
  induction k with
  | zero =>
    intro i xs y μ b s hd hk hk2 ht hy hyc hK hC hs hsk hi hL hq
    have hy1 := rowKeep hy hK fun j hj e => hyc j e hj
    have : L.length ≤ i := by
      have := congrArg List.length hd
      simp [allP] at this
      omega
    refine ⟨y, μ, ?_, by rw [hy1.len]; congr 1; omega, hK.wf⟩
    rw [overdublaw09_BlockRow_L2_eq, overdublaw09_BlockRow_L2_B_eq]
    simp -implicitDefEqProofs only [lt_f (show (L.length : Int) ≤ (i : Int) by omega), Option.bind_some, decide_true, decide_false, cond_true, cond_false, seqJ_n, seqJ_r, seqJ_e, headK_c, asB_bool, asI_int, asS_s, asN_int, extrK_0, extrK_1, extrK_2, Bool.not_true, Bool.not_false, Nat.beq_refl]
  | succ k ih =>
    intro i xs y μ b s hd hk hk2 ht hy hyc hK hC hs hsk hi hL hq
    have hy1 := rowKeep hy hK fun j hj e => hyc j e hj
    by_cases hz : xs.length = 0
    · have he : allP (k + 1) xs = [] := by rw [allP, if_pos hz]
      rw [he] at hd
      have : L.length ≤ i := by
        have := congrArg List.length hd
        simp at this
        omega
      refine ⟨y, μ, ?_, by rw [hy1.len, hz], hK.wf⟩
      rw [overdublaw09_BlockRow_L2_eq, overdublaw09_BlockRow_L2_B_eq]
      simp -implicitDefEqProofs only [lt_f (show (L.length : Int) ≤ (i : Int) by omega), Option.bind_some, decide_true, decide_false, cond_true, cond_false, seqJ_n, seqJ_r, seqJ_e, headK_c, asB_bool, asI_int, asS_s, asN_int, extrK_0, extrK_1, extrK_2, Bool.not_true, Bool.not_false, Nat.beq_refl]
    · have he : allP (k + 1) xs = (packN xs, blockZ xs) :: allP k (xs.drop (packN xs)) := by rw [allP, if_neg hz]
      rw [he] at hd
      have hil : i < L.length := by
        have := congrArg List.length hd
        simp at this
        omega
      have hLi : L[i]? = some (packN xs, blockZ xs) := by
        have := congrArg (fun l => l[0]?) hd
        simpa using this
      have hdn : L.drop (i + 1) = allP k (xs.drop (packN xs)) := by
        have := congrArg (fun l => l.drop 1) hd
        simpa [List.drop_drop, Nat.add_comm] using this
      have hge := packN_ge ht
      have hle := packN_le xs
      have hn0 := hK.next
      have ei : IntKind.wrap .i64 ((i : Int) + 1) = ((i + 1 : Nat) : Int) := by rw [wr (by omega)]; rfl
      obtain ⟨z, bs, ds, m1, d1, hh1, l1, e1, k1, c1, o1⟩ := pack_is hK.wf (by omega) hC (by omega) hy1 (by omega) ht (by omega)
      rw [← frmB_is d1 hh1] at o1
      have hK1 := hK.trans k1
      have off : ∀ {w : SV} {j : Nat}, (∀ j, isId w j → M ≤ j) → cf p tid j → ¬ isId w j := fun {w j} hw hj e => by have := hw j e; rcases hj with rfl | rfl <;> omega
      have ho1 := ho.keep hK1 fun j hj => off (fun j e => (ho.lives e).1) hj
      have hc1 := ownKeep hc hK1 fun j hj => off (fun j e => (own_lives hc e).1) hj
      have hrl := hr.1
      have hri : rs[i]? = some (rs[i]'(by simp at hrl; omega)) := List.getElem?_eq_getElem _
      have hrow := hr.2 i _ (blockZ xs) hri (by rw [List.getElem?_map, hLi]; rfl)
      have hrow1 := ownKeep hrow hK1 fun j hj => off (fun j e => (own_lives hrow e).1) hj
      have g9 := fun {R : Type} (K : AV → Option R) => hc1.row.ind (i := (i : Int)) (by omega) (by simp; omega) K
      have l9 := fun {R : Type} (K : AV → Option R) => hc1.row.load (i := (i : Int)) (by omega) (by simp; omega) K
      have v9 : (L.map fun q => (q.1 : Int)).getD ((i : Int).toNat) 0 = (packN xs : Int) := by
        rw [nat_toNat, List.getD_eq_getElem?_getD, List.getElem?_map, hLi]; rfl
      have g8 := fun {R : Type} (K : AV → Option R) => ho1.isV.ind (i := i) (by omega) K
      have l8 := fun {R : Type} (K : AV → Option R) => ho1.isV.load (i := i) hri K
      have e2 := sameB_is o1.row hrow1.row (by
        have := hq _ (List.mem_of_getElem? hLi)
        show (blockZ xs).length ≤ _
        dsimp only at this
        omega)
      rw [decide_eq_true (p := sealZ (frmB (xs.take (packN xs))) = blockZ xs) rfl] at e2
      have g7 := fun {R : Type} (K : AV → Option R) => hy.cut (a := (packN xs : Int)) (b := (xs.length : Int)) (by omega) (by omega) (by omega) K
      have r7 : IsRow μ0 .i64 (cutV y (packN xs : Int) (xs.length : Int)) (xs.drop (packN xs)) := by
        have := hy.cutRow (a := (packN xs : Int)) (b := (xs.length : Int)) (by omega) (by omega) (by omega)
        simpa using this
      obtain ⟨y', μ', q1, q2, q3⟩ := ih (i + 1) (xs.drop (packN xs)) _ m1 true (s + 1) hdn (by simp; omega) (by omega) (fun v hv => ht v (List.mem_of_mem_drop hv)) r7 (fun j e => hyc j (cutV_id e)) hK1 c1 (by omega) (by omega) hil hL hq
      refine ⟨y', μ', ?_, q2, q3⟩
      rw [overdublaw09_BlockRow_L2_eq, overdublaw09_BlockRow_L2_B_eq]
      simp -implicitDefEqProofs only [lt_t (show (i : Int) < (L.length : Int) by omega), e1, ne_f (rfl : (0 : Int) = 0), g9, l9, v9, ne_f (rfl : (packN xs : Int) = _), hy1.len, gt_f (show (packN xs : Int) ≤ (xs.length : Int) by omega), g8, l8, e2, g7, ei, Option.bind_some, decide_true, decide_false, cond_true, cond_false, seqJ_n, seqJ_r, seqJ_e, headK_c, asB_bool, asI_int, asS_s, asN_int, extrK_0, extrK_1, extrK_2, Bool.not_true, Bool.not_false, Nat.beq_refl]
      exact q1
theorem allP_small : ∀ (k : Nat) (xs : List Int), tame xs → ∀ q ∈ allP k xs, q.2.length ≤ 1000
  | 0, xs, ht, q, hq => by simp [allP] at hq
  | k + 1, xs, ht, q, hq => by
    rw [allP] at hq
    by_cases hz : xs.length = 0
    · rw [if_pos hz] at hq; cases hq
    · rw [if_neg hz] at hq
      rcases List.mem_cons.mp hq with rfl | hq
      · obtain ⟨ds, hd⟩ := encD_some (xs.take (packN xs))
        show (blockZ xs).length ≤ 1000
        unfold blockZ sealZ sum4
        have hfit : flen (xs.take (packN xs)) ≤ 124 := packM_fits _ (by have := packN_ge ht; unfold packN at this; omega)
        by_cases hex : ∃ bs ds, encD (xs.take (packN xs)) = some ds ∧ holds bs ds
        · obtain ⟨bs, ds', h1, h2⟩ := hex
          rw [frmB_is h1 h2]
          rw [flen_of h1] at hfit
          have := h2.1
          simp; omega
        · have : frmB (xs.take (packN xs)) = [] := by unfold frmB; rw [dif_neg hex]
          rw [this]; simp
      · exact allP_small k _ (fun v hv => ht v (List.mem_of_mem_drop hv)) q hq
theorem allP_len : ∀ (k : Nat) (xs : List Int), (allP k xs).length ≤ k
  | 0, xs => by simp [allP]
  | k + 1, xs => by
    rw [allP]
    split
    · simp
    · simp only [List.length_cons]
      have := allP_len k (xs.drop (packN xs))
      omega
theorem pureBlockRow (x0 : ArgN) (t0 : List Cell) (u0 : Nat) (s0 : ArgN.isRecs t0 u0 x0) (q0 : CellsOK [.r .i64] t0 u0) (a1 : Int) (w1 : (Lit.int .i64 a1).wf = true) :
    ∃ μ', overdublaw09_BlockRow (argValsN 0 [x0, .cell (.leaf (.int .i64 a1))]) (argMemN [x0, .cell (.leaf (.int .i64 a1))]) = some (.s (.bool true), μ') := by
  obtain ⟨A, hA, ha⟩ := IsRR.arg (al := [x0, .cell (.leaf (.int .i64 a1))]) (j := 0) s0 q0 rfl
  have hw : WF (argMemN [x0, .cell (.leaf (.int .i64 a1))]) := WF.argsN _
  show ∃ μ', overdublaw09_BlockRow [x0.val 0, .s (.int .i64 a1)] _ = _
  rw [hA]
  generalize argMemN [x0, .cell (.leaf (.int .i64 a1))] = μ at *
  obtain ⟨y, m1, xs, e1, k1, o1, ht, hl⟩ := gather_loop hw ha (wf64 w1) (min 2 u0) 0 μ .nilSlice [] (Nat.zero_add _) (Keep.refl hw) (OwnRow.nil _ _ _ _) (fun v hv => by cases hv) (by simp)
  rw [n0] at e1
  obtain ⟨p, tid, m2, e2, k2, c2⟩ := coderNew_is k1.wf
  have hy2 := o1.row.same k2
  have hlt2 := c2.lt k2.wf
  have hyc := offOld k1.wf c2 (Nat.le_refl _) o1.row
  obtain ⟨out, cnt, m3, b3, rs, e3, k3, c3, ho, hr, hc⟩ := all_is k2.wf k2.next c2 (by omega) hy2 (by omega) ht hyc
  have hy3 : IsRow m3 .i64 y xs := rowKeep hy2 k3 fun j hj e => hyc j e hj
  have hn3 := k3.next
  have hal := allP_len xs.length xs
  obtain ⟨y', m4, e4, l4, hw4⟩ := row_loop k3.wf (Nat.le_trans k2.next hn3) ⟨by omega, by omega⟩ hlt2 ho hr hc xs.length 0 xs y m3 b3 _ rfl (Nat.le_refl _) (by omega) ht hy3 hyc (Keep.refl k3.wf) c3 (by omega) (by unfold allZ; omega) (Nat.zero_le _) (by unfold allZ; omega) (allP_small _ _ ht)
  rw [n0] at e4
  obtain ⟨m5, e5⟩ := wakes_is m4 hw4
  refine ⟨m5, ?_⟩
  have hcl := hc.row.len
  rw [List.length_map] at hcl
  rw [overdublaw09_BlockRow_eq]
  simp -implicitDefEqProofs only [e1, Nat.beq_refl, e2, isNil_ptr, e3, ne_f (rfl : (0 : Int) = 0), ho.isV.lenS, hcl, ne_f (rfl : ((allZ xs).length : Int) = _), e4, l4, eq_t (show ((0 : Nat) : Int) = 0 from rfl), e5, Option.bind_some, decide_true, decide_false, cond_true, cond_false, seqJ_n, seqJ_r, seqJ_e, headK_c, asB_bool, asI_int, asS_s, asN_int, extrK_0, extrK_1, extrK_2, Bool.not_true, Bool.not_false, Nat.beq_refl]
end Go.Proofs.Ytnjenjbodcihmaa
