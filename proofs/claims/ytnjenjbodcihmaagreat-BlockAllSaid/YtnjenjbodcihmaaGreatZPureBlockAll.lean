/- The plain answer of BlockAll. -/
import Derived.Test.YtnjenjbodcihmaaGreatZkc
namespace Go.Proofs.YtnjenjbodcihmaaGreat
open Go Go.Proofs.YtnjenjbodcihmaaGreat.E
set_option linter.unusedVariables false
set_option linter.unusedSimpArgs false
theorem tame_app {xs ys : List Int} (h1 : tame xs) (h2 : tame ys) : tame (xs ++ ys) := fun v hv => (List.mem_append.mp hv).elim (h1 v) (h2 v)
theorem gather3_loop {μ0 : AMem} (h0 : WF μ0) {x : SV} {len : Nat} (ha : IsRR .i64 μ0 x len) {n q : Int} (hn : -9223372036854775808 ≤ n ∧ n ≤ 9223372036854775807) (hq : -9223372036854775808 ≤ q ∧ q ≤ 9223372036854775807) :
    ∀ (k i : Nat) (μ : AMem) (y : SV) (xs : List Int), i + k = min 3 len → Same μ0 μ → OwnRow μ0.next μ .i64 3 y xs → tame xs → xs.length ≤ 64 * i →
      ∃ y' μ' xs', overdublaw09_BlockAll_L1 [.s x, .s (.int .i64 n), .s (.int .i64 q)] [.s y, .s (.int .i64 (i : Int))] μ = some (.exit 0, [.s y'], μ') ∧ Same μ0 μ' ∧ OwnRow μ0.next μ' .i64 3 y' xs' ∧ tame xs' ∧ xs'.length ≤ 192
  | 0, i, μ, y, xs, h, hs, hy, ht, hl => by
    refine ⟨y, μ, xs, ?_, hs, hy, ht, by omega⟩
    rw [overdublaw09_BlockAll_L1_eq, overdublaw09_BlockAll_L1_B_eq, (ha.same hs).lenS]
    by_cases h1 : (i : Int) < (len : Int)
    · simp -implicitDefEqProofs only [lt_t h1, lt_f (show (3 : Int) ≤ (i : Int) by omega), ss]
    · simp -implicitDefEqProofs only [lt_f (show (len : Int) ≤ (i : Int) by omega), ss]
  | k + 1, i, μ, y, xs, h, hs, hy, ht, hl => by
    have ei : IntKind.wrap .i64 ((i : Int) + 1) = ((i + 1 : Nat) : Int) := by rw [wr (by omega)]; rfl
    have hN := hs.next
    obtain ⟨r, zs, g1, g2, hr, hz⟩ := ha.at (i := i) (by omega)
    have hm : Int.tmod (i : Int) 2 = ((i % 2 : Nat) : Int) := by rw [Int.tmod_eq_emod_of_nonneg (by omega)]; omega
    rcases Nat.mod_two_eq_zero_or_one i with h2 | h2
    · have kb1 := Keep.bump (S := fun _ => False) hs.wf 13
      have hw1 : -9223372036854775808 ≤ IntKind.wrap .i64 ((i : Int) + n) ∧ IntKind.wrap .i64 ((i : Int) + n) ≤ 9223372036854775807 := by rw [IntKind.wrap_i64]; omega
      obtain ⟨t, m1, ts, e1, k1, o1, hl1, hnr⟩ := tone_is kb1.wf ((hr.same hs).same kb1) hz (n := n) (s2 := IntKind.wrap .i64 ((i : Int) + n)) (p3 := q) hn hw1 hq
      have hn1 := k1.next
      simp only [bump_next] at hn1
      have y1 : OwnRow μ0.next m1 .i64 3 y xs := hy.old fun id o ho _ => k1.old id o ho fun h => h
      obtain ⟨y2, m2, e2, k2, o2⟩ := appS (B := 8) (nid := μ.next + 11) h0 (hs.trans (kb1.trans k1)) y1 o1.row (by omega) (by omega) (by omega) (by omega) (k1.low _ (by simp) (freshB hs.wf 13 11))
      obtain ⟨y', μ', xs', q1, q2⟩ := gather3_loop h0 ha hn hq k (i + 1) m2 y2 _ (by omega) k2 o2 (tame_app ht (near_tame hnr)) (by simp; omega)
      refine ⟨y', μ', xs', ?_, q2⟩
      have l1 := fun {R : Type} (K : AV → Option R) => g2 (μ.bump 13) K (hs.trans kb1)
      rw [overdublaw09_BlockAll_L1_eq, overdublaw09_BlockAll_L1_B_eq, (ha.same hs).lenS, hm, h2]
      simp -implicitDefEqProofs only [lt_t (show (i : Int) < (len : Int) by omega), lt_t (show (i : Int) < 3 by omega), eq_t (show ((0 : Nat) : Int) = 0 from rfl), g1, l1, e1, e2, ei, ss]
      exact q1
    · have kb2 := Keep.bump (S := fun _ => False) hs.wf 8
      obtain ⟨u, m3, e3, k3, o3⟩ := samples_is kb2.wf 60 false ((hr.same hs).same kb2) hz (by omega)
      have hn3 := k3.next
      simp only [bump_next] at hn3
      have y3 : OwnRow μ0.next m3 .i64 3 y xs := hy.old fun id o ho _ => k3.old id o ho fun h => h
      obtain ⟨y4, m4, e4, k4, o4⟩ := appS (B := 8) (nid := μ.next + 6) h0 (hs.trans (kb2.trans k3)) y3 o3.row (by omega) (by simp; omega) (by omega) (by omega) (k3.low _ (by simp) (freshB hs.wf 8 6))
      obtain ⟨y', μ', xs', q1, q2⟩ := gather3_loop h0 ha hn hq k (i + 1) m4 y4 _ (by omega) k4 o4 (tame_app ht samples_tame) (by simp; omega)
      refine ⟨y', μ', xs', ?_, q2⟩
      have l2 := fun {R : Type} (K : AV → Option R) => g2 (μ.bump 8) K (hs.trans kb2)
      rw [show ((60 : Nat) : Int) = 60 from rfl] at e3
      rw [overdublaw09_BlockAll_L1_eq, overdublaw09_BlockAll_L1_B_eq, (ha.same hs).lenS, hm, h2]
      simp -implicitDefEqProofs only [lt_t (show (i : Int) < (len : Int) by omega), lt_t (show (i : Int) < 3 by omega), eq_f (show ¬ ((1 : Nat) : Int) = 0 by omega), g1, l2, e3, e4, ei, ss]
      exact q1
theorem block_open {xs : List Int} (ht : tame xs) (h1 : 1 ≤ xs.length) (he : ∃ bs ds, encD (xs.take (packN xs)) = some ds ∧ holds bs ds) : openO (blockZ xs) = some (xs.take (packN xs)) ∧ (∀ v ∈ blockZ xs, 0 ≤ v ∧ v < 256) := by
  obtain ⟨bs, ds, hd, hh⟩ := he
  have hge := packN_ge ht
  have hle := packN_le xs
  have hfit : flen (xs.take (packN xs)) ≤ 124 := packM_fits _ (by unfold packN at hge; omega)
  rw [flen_of hd] at hfit
  have hl := hh.1
  unfold blockZ
  rw [frmB_is hd hh]
  exact ⟨open_back (tame_take ht _) (by simp; omega) hd hh (by omega), sealZ_byte hh.2.1⟩
theorem allP_len : ∀ (k : Nat) (xs : List Int), (allP k xs).length ≤ k
  | 0, xs => by simp [allP]
  | k + 1, xs => by
    rw [allP]
    split
    · simp
    · simp only [List.length_cons]
      have := allP_len k (xs.drop (packN xs))
      omega
theorem holds_any {μ : AMem} (hw : WF μ) {y : SV} {xs : List Int} (hy : IsRow μ .i64 y xs) (ht : tame xs) (h : 1 ≤ xs.length ∧ xs.length ≤ 64) : ∃ bs ds, encD xs = some ds ∧ holds bs ds := by
  obtain ⟨ds, bs, z, m, h1, h2, _⟩ := (encode_is hw hy (by omega)).2 (encE_ok ht h)
  exact ⟨bs, ds, h1, h2⟩
theorem open_loop {μ0 : AMem} (h0 : WF μ0) {N p tid : Nat} {s : Int} (hN : N ≤ μ0.next) (hp : p < μ0.next ∧ tid < μ0.next) {M : Nat} (hM : p < M ∧ tid < M) {X out cnt : SV} {rs : List SV} {L : List (Nat × List Int)} (ho : OwnV M μ0 27 1 out L.length rs) (hr : RowsOf M μ0 rs (L.map (·.2))) (hc : OwnRow M μ0 .i64 3 cnt (L.map fun q => (q.1 : Int))) {W : List Int} (hW : W.length ≤ 1000) (hL : L.length ≤ 1000) {Y : SV} (hY : IsRow μ0 .i64 Y W) :
    ∀ (k i : Nat) (xs done : List Int) (y : SV) (μ : AMem) (b : Bool) (o : Int), L.drop i = allP k xs → xs.length ≤ k → done ++ xs = W → tame xs → Keep (cf p tid) μ0 μ → Cd N μ p tid b s o → o = i → i ≤ L.length → OwnRow μ0.next μ .i64 3 y done →
      ∃ y' μ' b', overdublaw09_BlockAll_L2 [.s X, .s (.ptr p 0 0), .s out, .s cnt, .s (.int .i64 (L.length : Int))] [.s y, .s (.int .i64 (i : Int))] μ = some (.exit 2, [.s X, .s (.ptr p 0 0), .s out, .s y'], μ') ∧ Keep (cf p tid) μ0 μ' ∧ Cd N μ' p tid b' s L.length ∧ OwnRow μ0.next μ' .i64 3 y' W := by
  intro k
  induction k with
  | zero =>
    intro i xs done y μ b o hd hk hdone ht hK hC hoi hi hy
    have hLi : L.length = i := by
      have := congrArg List.length hd
      simp [allP] at this
      omega
    have hx : xs = [] := List.eq_nil_of_length_eq_zero (by omega)
    subst hx
    rw [List.append_nil] at hdone
    subst hdone
    refine ⟨y, μ, b, ?_, hK, by rw [hLi, ← hoi]; exact hC, hy⟩
    rw [overdublaw09_BlockAll_L2_eq, overdublaw09_BlockAll_L2_B_eq]
    simp -implicitDefEqProofs only [lt_f (show (L.length : Int) ≤ (i : Int) by omega), ss]
  | succ k ih =>
    intro i xs done y μ b o hd hk hdone ht hK hC hoi hi hy
    by_cases hz : xs.length = 0
    · have he : allP (k + 1) xs = [] := by rw [allP, if_pos hz]
      rw [he] at hd
      have hLi : L.length = i := by
        have := congrArg List.length hd
        simp at this
        omega
      have hx : xs = [] := List.eq_nil_of_length_eq_zero (by omega)
      subst hx
      rw [List.append_nil] at hdone
      subst hdone
      refine ⟨y, μ, b, ?_, hK, by rw [hLi, ← hoi]; exact hC, hy⟩
      rw [overdublaw09_BlockAll_L2_eq, overdublaw09_BlockAll_L2_B_eq]
      simp -implicitDefEqProofs only [lt_f (show (L.length : Int) ≤ (i : Int) by omega), ss]
    · have he : allP (k + 1) xs = (packN xs, blockZ xs) :: allP k (xs.drop (packN xs)) := by rw [allP, if_neg hz]
      rw [he] at hd
      have hil : i < L.length := by
        have := congrArg List.length hd
        simp at this
        omega
      have hLi : L[i]? = some (packN xs, blockZ xs) := by
        have := congrArg (fun l => l[0]?) hd
        simpa using this
      have hdn : L.drop (i + 1) = allP k (xs.drop (packN xs)) := by
        have := congrArg (fun l => l.drop 1) hd
        simpa [List.drop_drop, Nat.add_comm] using this
      have hge := packN_ge ht
      have hle := packN_le xs
      have hn0 := hK.next
      have hwl : done.length + xs.length = W.length := by rw [← hdone, List.length_append]
      have ei : IntKind.wrap .i64 ((i : Int) + 1) = ((i + 1 : Nat) : Int) := by rw [wr (by omega)]; rfl
      have off : ∀ {w : SV} {j : Nat}, (∀ j, isId w j → M ≤ j) → cf p tid j → ¬ isId w j := fun {w j} hw hj e => by have := hw j e; rcases hj with rfl | rfl <;> omega
      have off0 : ∀ {w : SV} {j : Nat}, (∀ j, isId w j → μ0.next ≤ j) → cf p tid j → ¬ isId w j := fun {w j} hw hj e => by have := hw j e; rcases hj with rfl | rfl <;> omega
      have ho1 := ho.keep hK fun j hj => off (fun j e => (ho.lives e).1) hj
      have hrl := hr.1
      have hri : rs[i]? = some (rs[i]'(by simp at hrl; omega)) := List.getElem?_eq_getElem _
      have hrow := hr.2 i _ (blockZ xs) hri (by rw [List.getElem?_map, hLi]; rfl)
      have hrow1 := ownKeep hrow hK fun j hj => off (fun j e => (own_lives hrow e).1) hj
      have hex : ∃ bs ds, encD (xs.take (packN xs)) = some ds ∧ holds bs ds := by
        obtain ⟨y1, g1, r1⟩ := hY.back (n := done.length) (by omega)
        rw [← hdone, List.drop_left' rfl] at r1
        obtain ⟨y2, g2, r2⟩ := r1.front (n := packN xs) (by omega)
        exact holds_any h0 r2 (tame_take ht _) (by simp; omega)
      obtain ⟨hop, hbb⟩ := block_open ht (by omega) hex
      obtain ⟨z, b1, m1, e1, k1, c1, o1⟩ := Open_is hK.wf (by omega) hC (by omega) hrow1.row hbb (offNew hM hrow1)
      rw [hop] at e1 c1 o1
      simp only [Option.isSome_some, if_true, Option.getD_some] at e1 c1 o1
      have hK1 := hK.trans k1
      have hn1 := k1.next
      have hc1 := ownKeep hc hK1 fun j hj => off (fun j e => (own_lives hc e).1) hj
      have g8 := fun {R : Type} (K : AV → Option R) => ho1.isV.ind (i := i) hil K
      have l8 := fun {R : Type} (K : AV → Option R) => ho1.isV.load (i := i) hri K
      have g9 := fun {R : Type} (K : AV → Option R) => hc1.row.ind (i := (i : Int)) (by omega) (by simp; omega) K
      have l9 := fun {R : Type} (K : AV → Option R) => hc1.row.load (i := (i : Int)) (by omega) (by simp; omega) K
      have v9 : (L.map fun q => (q.1 : Int)).getD ((i : Int).toNat) 0 = (packN xs : Int) := by
        rw [nat_toNat, List.getD_eq_getElem?_getD, List.getElem?_map, hLi]; rfl
      have hzl := o1.row.len
      have hzl2 : (xs.take (packN xs)).length = packN xs := by simp; omega
      rw [hzl2] at hzl
      have kb := Keep.bump (S := fun _ => False) k1.wf 4
      have hy1 := ownKeep hy k1 fun j hj => off0 (fun j e => (own_lives hy e).1) hj
      have hyb : OwnRow μ0.next (m1.bump 4) .i64 3 y done := hy1.old fun id ob hob _ => hob
      obtain ⟨y2, m2, g2, p2, p3, p4, p5, p6⟩ := OwnRow.append kb.wf hyb (o1.row.same kb) (B := 8) (nid := m1.next + 2) (by omega) (by simp; omega) (by omega) (by simp) (freshB k1.wf 4 2)
      have hyl : ∀ j, isId y j → μ0.next ≤ j := fun j hj => (own_lives hy hj).1
      have hK2 : Keep (cf p tid) μ0 m2 := ⟨p3, by rw [p4]; exact (hK1.trans kb.any).next, fun id ob hob hs => p5.1 id ob ((hK1.trans kb.any).old id ob hob hs) fun hj => by have := hyl id hj; have := h0.lt hob; omega, fun id hi2 hno => p5.2 id (by omega) ((hK1.trans kb.any).low id hi2 hno)⟩
      have c2 : Cd N m2 p tid b1 s (o + 1) := (c1.same kb).old (fun ob h => p5.1 _ _ h fun e => by have := hyl _ e; omega) (fun ob h => p5.1 _ _ h fun e => by have := hyl _ e; omega)
      obtain ⟨y', μ', b', q1, q2, q3, q4⟩ := ih (i + 1) (xs.drop (packN xs)) (done ++ xs.take (packN xs)) y2 m2 b1 (o + 1) hdn (by simp; omega) (by rw [List.append_assoc, List.take_append_drop, hdone]) (fun v hv => ht v (List.mem_of_mem_drop hv)) hK2 c2 (by omega) hil p2
      refine ⟨y', μ', b', ?_, q2, q3, q4⟩
      rw [overdublaw09_BlockAll_L2_eq, overdublaw09_BlockAll_L2_B_eq]
      by_cases hlast : i + 1 < L.length
      · have hlt : packN xs < xs.length := by
          apply Nat.lt_of_not_le
          intro hge2
          have : xs.drop (packN xs) = [] := List.drop_eq_nil_of_le hge2
          rw [this] at hdn
          have hnil : allP k ([] : List Int) = [] := by cases k <;> simp [allP]
          rw [hnil] at hdn
          have := congrArg List.length hdn
          simp at this
          omega
        simp -implicitDefEqProofs only [lt_t (show (i : Int) < (L.length : Int) by omega), g8, l8, e1, ne_f (rfl : (0 : Int) = 0), hzl, g9, l9, v9, ne_f (rfl : (packN xs : Int) = _), gt_f (show (packN xs : Int) ≤ 64 by omega), ho1.isV.lenS, ei, lt_t (show ((i + 1 : Nat) : Int) < (L.length : Int) by omega), lt_f (show (40 : Int) ≤ (packN xs : Int) by omega), g2, ss]
        exact q1
      · simp -implicitDefEqProofs only [lt_t (show (i : Int) < (L.length : Int) by omega), g8, l8, e1, ne_f (rfl : (0 : Int) = 0), hzl, g9, l9, v9, ne_f (rfl : (packN xs : Int) = _), gt_f (show (packN xs : Int) ≤ 64 by omega), ho1.isV.lenS, ei, lt_f (show (L.length : Int) ≤ ((i + 1 : Nat) : Int) by omega), g2, ss]
        exact q1
theorem counts_is {N : Nat} {μ : AMem} {p tid : Nat} {b : Bool} {s o : Int} (h : Cd N μ p tid b s o) : block_Coder_Counts [.s (.ptr p 0 0)] μ = some (.tuple [.s (.int .i64 s), .s (.int .i64 o)], μ) := by
  obtain ⟨h0, h1, h2⟩ := h.cell
  have e1 : atomic_Int64_Load [.s (.ptr p 0 (0 + 1))] μ = some (.s (.int .i64 s), μ) := by
    unfold atomic_Int64_Load loadI64F
    simp only [h1, Option.bind_some]
  have e2 : atomic_Int64_Load [.s (.ptr p 0 (0 + 2))] μ = some (.s (.int .i64 o), μ) := by
    unfold atomic_Int64_Load loadI64F
    simp only [h2, Option.bind_some]
  rw [block_Coder_Counts_eq]
  simp -implicitDefEqProofs only [e1, e2, ss]
theorem pureBlockAll (x0 : ArgN) (t0 : List Cell) (u0 : Nat) (s0 : ArgN.isRecs t0 u0 x0) (q0 : CellsOK [.r .i64] t0 u0) (a1 : Int) (w1 : (Lit.int .i64 a1).wf = true) (a2 : Int) (w2 : (Lit.int .i64 a2).wf = true) :
    ∃ μ', overdublaw09_BlockAll (argValsN 0 [x0, .cell (.leaf (.int .i64 a1)), .cell (.leaf (.int .i64 a2))]) (argMemN [x0, .cell (.leaf (.int .i64 a1)), .cell (.leaf (.int .i64 a2))]) = some (.s (.bool true), μ') := by
  obtain ⟨A, hA, ha⟩ := IsRR.arg (al := [x0, .cell (.leaf (.int .i64 a1)), .cell (.leaf (.int .i64 a2))]) (j := 0) s0 q0 rfl
  have hw : WF (argMemN [x0, .cell (.leaf (.int .i64 a1)), .cell (.leaf (.int .i64 a2))]) := WF.argsN _
  show ∃ μ', overdublaw09_BlockAll [x0.val 0, .s (.int .i64 a1), .s (.int .i64 a2)] _ = _
  rw [hA]
  generalize argMemN [x0, .cell (.leaf (.int .i64 a1)), .cell (.leaf (.int .i64 a2))] = μ at *
  obtain ⟨y, m1, xs, e1, k1, o1, ht, hl⟩ := gather3_loop hw ha (wf64 w1) (wf64 w2) (min 3 u0) 0 μ .nilSlice [] (Nat.zero_add _) (Keep.refl hw) (OwnRow.nil _ _ _ _) (fun v hv => by cases hv) (by simp)
  rw [n0] at e1
  obtain ⟨p, tid, m2, e2, k2, c2⟩ := coderNew_is k1.wf
  have hy2 := o1.row.same k2
  have hlt2 := c2.lt k2.wf
  have hyc := offOld k1.wf c2 (Nat.le_refl _) o1.row
  obtain ⟨out, cnt, m3, b3, rs, e3, k3, c3, ho, hr, hc⟩ := all_is k2.wf k2.next c2 (by omega) hy2 (by omega) ht hyc
  have hy3 : IsRow m3 .i64 y xs := rowKeep hy2 k3 fun j hj e => hyc j e hj
  have hn2 := k2.next
  have hn3 := k3.next
  have hal := allP_len xs.length xs
  have hZ : (allZ xs).length ≤ 192 := by unfold allZ; omega
  obtain ⟨v, m4, b4, e4, k4, c4, o4⟩ := open_loop (X := y) k3.wf (Nat.le_trans k2.next hn3) ⟨by omega, by omega⟩ hlt2 ho hr hc (by omega) (by omega) hy3 xs.length 0 xs [] .nilSlice m3 b3 _ rfl (Nat.le_refl _) rfl ht (Keep.refl k3.wf) c3 rfl (Nat.zero_le _) (OwnRow.nil _ _ _ _)
  rw [n0] at e4
  have e5 := counts_is c4
  have hy4 : IsRow m4 .i64 y xs := rowKeep hy3 k4 fun j hj e => hyc j e hj
  have kb := Keep.bump (S := fun _ => False) k4.wf 5
  obtain ⟨x5, m5, e6, k5, o5⟩ := copy_is kb.wf (hy4.same kb) (by omega)
  have hn5 := k5.next
  simp only [bump_next] at hn5
  obtain ⟨x6, m6, g6, v6, wf6, n6, h6a, h6b, h6c⟩ := (ownRow_V (o5.less (M := m4.next) (by simp))).pushX (ds := [.int .i64 8388608]) (B := 8) (ra := m4.next + 2) (rb := m4.next + 3) (q := some 1) k5.wf rfl (by omega) (by omega) (by omega) (by omega) (by omega) (by omega) (by omega) (k5.low _ (by simp) (freshB k4.wf 5 2)) (k5.low _ (by simp) (freshB k4.wf 5 3))
  have o6 : OwnRow m4.next m6 .i64 3 x6 (xs ++ [8388608]) := ownV_row (by rw [List.map_append]; exact v6)
  have hx5 : ∀ j, isId x5 j → m4.next ≤ j := fun j hj => by
    have := (own_lives o5 hj).1
    simp only [bump_next] at this
    omega
  have e7 := all_no (p := p) o6.row (by simp; omega) (by rw [List.all_append]; simp [okS])
  have old6 : ∀ {k : IntKind} {w : SV} {zs : List Int}, IsRow m4 k w zs → IsRow m6 k w zs := fun {k w zs} hq => by
    have hq5 := (hq.same kb).same k5
    rcases hq5 with h | ⟨id, ver, off, ob, rfl, hob, r⟩
    · exact .inl h
    · refine .inr ⟨id, ver, off, ob, rfl, h6a _ _ hob fun e => ?_, r⟩
      obtain ⟨ob', hob'⟩ := row_lives hq (show isId (.slice id ver off zs.length) id from rfl)
      have := k4.wf.lt hob'
      have := hx5 _ e
      omega
  have e8 := same_is (old6 hy4) (old6 o4.row) (by omega)
  rw [decide_eq_true rfl] at e8
  obtain ⟨m9, e9⟩ := wakes_is m6 wf6
  refine ⟨m9, ?_⟩
  have hcl := hc.row.len
  rw [List.length_map] at hcl
  have h01 : (0 : Int) + ((allZ xs).length : Int) = ((allZ xs).length : Int) := Int.zero_add _
  rw [overdublaw09_BlockAll_eq]
  simp -implicitDefEqProofs only [e1, Nat.beq_refl, e2, isNil_ptr, e3, ne_f (rfl : (0 : Int) = 0), ho.isV.lenS, hcl, ne_f (rfl : ((allZ xs).length : Int) = _), e4, e5, e6, g6, e7, e8, h01, eq_t (rfl : ((allZ xs).length : Int) = _), eq_t (rfl : (8 : Int) = 8), e9, ss]
end Go.Proofs.YtnjenjbodcihmaaGreat
