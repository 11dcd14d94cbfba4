/- The plain answer of SpaceWaits. -/
import Derived.Test.YtkikncdhmifkaaaQWakes
import Derived.Test.YtkikncdhmifkaaaKWithin
namespace Go.Proofs.Ytkikncdhmifkaaa
open Go Go.Proofs.Ytkikncdhmifkaaa.E
set_option linter.unusedVariables false
set_option linter.unusedSimpArgs false
theorem least_or (V : Nat → Bool) : ∀ n : Nat, (∀ j, j < n → V j = true) ∨ ∃ g, g < n ∧ V g = false ∧ ∀ j, j < g → V j = true
  | 0 => .inl fun j h => by omega
  | n + 1 => by
    rcases least_or V n with h | ⟨g, h1, h2, h3⟩
    · cases hV : V n
      · exact .inr ⟨n, by omega, hV, h⟩
      · exact .inl fun j hj => by
          by_cases hjn : j = n
          · rw [hjn]; exact hV
          · exact h j (by omega)
    · exact .inr ⟨g, by omega, h2, h3⟩
theorem cnt_set {V : Nat → Bool} {i : Nat} {b : Bool} (hi : V i = !b) : ∀ n : Nat, cntF (setV V i b) n = cntF V n + if i < n then (if b then 1 else -1) else 0
  | 0 => by simp [cntF]
  | n + 1 => by
    have ih := cnt_set hi n
    show cntF (setV V i b) n + (if setV V i b n then 1 else 0) = cntF V n + (if V n then 1 else 0) + if i < n + 1 then (if b then 1 else -1) else 0
    rw [ih]
    by_cases h : n = i
    · subst h
      have hs : setV V n b n = b := by simp [setV]
      rw [hs, hi, if_neg (show ¬ n < n by omega), if_pos (show n < n + 1 by omega)]
      cases b <;> simp <;> omega
    · have hs : setV V i b n = V n := by simp [setV, h]
      rw [hs]
      by_cases h2 : i < n
      · rw [if_pos h2, if_pos (show i < n + 1 by omega)]; omega
      · rw [if_neg h2, if_neg (show ¬ i < n + 1 by omega)]; omega
theorem ins_mem (W : List Int) (i v : Int) : v ∈ insK W i ↔ v = i ∨ v ∈ W := by
  unfold insK
  have h := List.take_append_drop (cutK W i W.length) W
  constructor
  · intro hm
    rcases List.mem_append.mp hm with h1 | h1
    · exact .inr (List.mem_of_mem_take h1)
    · rcases List.mem_cons.mp h1 with h2 | h2
      · exact .inl h2
      · exact .inr (List.mem_of_mem_drop h2)
  · rintro (h1 | h1)
    · rw [h1]; exact List.mem_append_right _ (List.mem_cons_self ..)
    · rw [← h] at h1
      rcases List.mem_append.mp h1 with h2 | h2
      · exact List.mem_append_left _ h2
      · exact List.mem_append_right _ (List.mem_cons_of_mem _ h2)
theorem ins_len (W : List Int) (i : Int) : (insK W i).length = W.length + 1 := by
  have := cutK_le W i W.length
  unfold insK
  simp only [List.length_append, List.length_take, List.length_cons, List.length_drop]
  omega
theorem fit_of {cs : List Int} {n : Nat} (hl : cs.length = n) (h : ∀ j, j < n → 0 ≤ cs.getD j 0 ∧ cs.getD j 0 ≤ 2) {k : Nat} (hk : k ≤ 100) : fits cs k := fun v hv => by
  obtain ⟨j, hj, rfl⟩ := List.mem_iff_getElem.mp hv
  have := h j (by omega)
  rw [getD_lt hj] at this
  omega
theorem of_get {cs : List Int} {n : Nat} (hl : cs.length = n) {k : Nat} (hk : k < n) : ofI cs (k : Int) = cs.getD k 0 := by
  unfold ofI mayI
  rw [decide_eq_true (by omega), decide_eq_true (by omega), nat_toNat]; rfl
theorem inc_get {cs : List Int} {k j : Nat} (hk : k < cs.length) : (incZ cs (k : Int)).getD j 0 = if j = k then cs.getD k 0 + 1 else cs.getD j 0 := by
  unfold incZ; rw [nat_toNat, getD_setW hk]
theorem dec_get {cs : List Int} {k j : Nat} (hk : k < cs.length) : (decZ cs (k : Int)).getD j 0 = if j = k then cs.getD k 0 - 1 else cs.getD j 0 := by
  unfold decZ; rw [nat_toNat, getD_setW hk]
theorem fill_loop {H : Nat → Prop} {N : Nat} {x t : SV} {n : Nat} (hn : n ≤ 100) {c : Int} :
    ∀ (k i : Nat) (μ : AMem) (V : Nat → Bool) (cs : List Int), i + k = n → 1 ≤ i → WF μ → Sp H N μ x 1 n V cs [] → (∀ j, j < n → V j = decide (j < i)) → (∀ j, j < n → cs.getD j 0 = if 1 ≤ j ∧ j < i then 1 else 0) →
      ∃ μ' V' cs', overdublaw13_SpaceWaits_L1 [.s (.int .i64 n), .s t, .s (.int .i64 c), .s x] [.s (.int .i64 i)] μ = some (.exit 0, [.s (.int .i64 n), .s t, .s (.int .i64 c), .s x], μ') ∧ Keep H μ μ' ∧ Sp H N μ' x 1 n V' cs' [] ∧ (∀ j, j < n → V' j = true) ∧ (∀ j, 1 ≤ j → j < n → cs'.getD j 0 = 1) ∧ cs'.getD 0 0 = 0
  | 0, i, μ, V, cs, h, h1, hw, hp, hV, hc => by
    refine ⟨μ, V, cs, ?_, Keep.refl hw, hp, fun j hj => by rw [hV j hj, decide_eq_true (by omega)], fun j hj hj2 => by rw [hc j hj2, if_pos (by omega)], by rw [hc 0 (by omega), if_neg (by omega)]⟩
    rw [overdublaw13_SpaceWaits_L1_eq, overdublaw13_SpaceWaits_L1_B_eq]
    simp -implicitDefEqProofs (disch := omega) only [lt_t, lt_f, gt_t, gt_f, le_t, le_f, ge_t, ge_f, ne_t, ne_f, eq_t, eq_f, w64, chk_true, Option.bind_some, decide_true, decide_false, cond_true, cond_false, seqJ_n, seqJ_r, seqJ_e, headK_c, asB_bool, asI_int, asS_s, asN_int, extrK_0, extrK_1, extrK_2, Bool.not_true, Bool.not_false, Nat.beq_refl]
  | k + 1, i, μ, V, cs, h, h1, hw, hp, hV, hc => by
    have hl := hp.len
    obtain ⟨m1, e1, k1, p1⟩ := (spTake_is hw hp (by omega) (fit_of hl (fun j hj => by rw [hc j hj]; split <;> omega) (by omega))).2 i (by omega) (by rw [hV i (by omega), decide_eq_false (by omega)]) (fun j hj => by rw [hV j (by omega), decide_eq_true hj])
    obtain ⟨m2, V2, c2, e2, k2, p2, v2, w2⟩ := fill_loop (t := t) (c := c) hn k (i + 1) m1 _ _ (by omega) (by omega) k1.wf p1 (fun j hj => by
        unfold setV
        by_cases hji : j = i
        · rw [if_pos hji, decide_eq_true (by omega)]
        · rw [if_neg hji, hV j hj]
          by_cases hj2 : j < i
          · rw [decide_eq_true hj2, decide_eq_true (by omega)]
          · rw [decide_eq_false hj2, decide_eq_false (by omega)]) (fun j hj => by
        rw [inc_get (by omega)]
        by_cases hji : j = i
        · rw [if_pos hji, hc i (by omega), if_neg (by omega), if_pos (by omega)]; rfl
        · rw [if_neg hji, hc j hj]
          by_cases hj2 : 1 ≤ j ∧ j < i
          · rw [if_pos hj2, if_pos (by omega)]
          · rw [if_neg hj2, if_neg (by omega)])
    rw [nsu] at e2
    have ei : IntKind.wrap .i64 ((i : Int) + 1) = (i : Int) + 1 := wr (by omega)
    refine ⟨m2, V2, c2, ?_, k1.trans k2, p2, v2, w2⟩
    rw [overdublaw13_SpaceWaits_L1_eq, overdublaw13_SpaceWaits_L1_B_eq]
    simp -implicitDefEqProofs only [lt_t (show (i : Int) < (n : Int) by omega), e1, ne_f (rfl : (0 : Int) = 0), ne_f (rfl : (i : Int) = (i : Int)), ei, Option.bind_some, decide_true, decide_false, cond_true, cond_false, seqJ_n, seqJ_r, seqJ_e, headK_c, asB_bool, asI_int, asS_s, asN_int, extrK_0, extrK_1, extrK_2, Bool.not_true, Bool.not_false, Nat.beq_refl]
    exact e2
theorem in_loop {μ : AMem} {t x y : SV} {n i c k : Int} {gs : List Int} (hy : IsRow μ .i64 y gs) (hl : gs.length ≤ 1000) :
    ∀ m j : Nat, j + m = gs.length → overdublaw13_SpaceWaits_L4 [.s (.int .i64 n), .s t, .s (.int .i64 c), .s x, .s y, .s (.int .i64 i), .s (.int .i64 k), .s (.int .i64 gs.length)] [.s (.bool (decide (k ∈ gs.take j))), .s (.int .i64 j)] μ = some (.exit 4, [.s (.int .i64 n), .s t, .s (.int .i64 c), .s x, .s y, .s (.int .i64 i), .s (.int .i64 k), .s (.bool (decide (k ∈ gs)))], μ)
  | 0, j, h => by
    rw [List.take_of_length_le (by omega), overdublaw13_SpaceWaits_L4_eq, overdublaw13_SpaceWaits_L4_B_eq]
    simp -implicitDefEqProofs (disch := omega) only [lt_t, lt_f, gt_t, gt_f, le_t, le_f, ge_t, ge_f, ne_t, ne_f, eq_t, eq_f, w64, chk_true, Option.bind_some, decide_true, decide_false, cond_true, cond_false, seqJ_n, seqJ_r, seqJ_e, headK_c, asB_bool, asI_int, asS_s, asN_int, extrK_0, extrK_1, extrK_2, Bool.not_true, Bool.not_false, Nat.beq_refl]
  | m + 1, j, h => by
    have hj : j < gs.length := by omega
    have ih := in_loop (t := t) (x := x) (n := n) (i := i) (c := c) (k := k) hy hl m (j + 1) (by omega)
    rw [nsu, take_snoc hj] at ih
    have a1 := fun {R : Type} (K : AV → Option R) => hy.ind (i := (j : Int)) (by omega) (by omega) K
    have a2 := fun {R : Type} (K : AV → Option R) => hy.load (i := (j : Int)) (by omega) (by omega) K
    rw [nat_toNat] at a2
    have ei : IntKind.wrap .i64 ((j : Int) + 1) = (j : Int) + 1 := wr (by omega)
    rw [overdublaw13_SpaceWaits_L4_eq, overdublaw13_SpaceWaits_L4_B_eq]
    by_cases hm : k ∈ gs.take j
    · rw [decide_eq_true (List.mem_append_left _ hm)] at ih
      rw [decide_eq_true hm]
      simp -implicitDefEqProofs only [lt_t (show (j : Int) < (gs.length : Int) by omega), ei, Option.bind_some, decide_true, decide_false, cond_true, cond_false, seqJ_n, seqJ_r, seqJ_e, headK_c, asB_bool, asI_int, asS_s, asN_int, extrK_0, extrK_1, extrK_2, Bool.not_true, Bool.not_false, Nat.beq_refl]
      exact ih
    · rw [decide_eq_false hm]
      by_cases he : gs.getD j 0 = k
      · rw [decide_eq_true (List.mem_append_right _ (by rw [he]; exact List.mem_cons_self ..))] at ih
        simp -implicitDefEqProofs only [lt_t (show (j : Int) < (gs.length : Int) by omega), a1, a2, eq_t he, ei, Option.bind_some, decide_true, decide_false, cond_true, cond_false, seqJ_n, seqJ_r, seqJ_e, headK_c, asB_bool, asI_int, asS_s, asN_int, extrK_0, extrK_1, extrK_2, Bool.not_true, Bool.not_false, Nat.beq_refl]
        exact ih
      · rw [decide_eq_false (fun h => by
          rcases List.mem_append.mp h with h | h
          · exact hm h
          · exact he (List.mem_singleton.mp h).symm)] at ih
        simp -implicitDefEqProofs only [lt_t (show (j : Int) < (gs.length : Int) by omega), a1, a2, eq_f he, ei, Option.bind_some, decide_true, decide_false, cond_true, cond_false, seqJ_n, seqJ_r, seqJ_e, headK_c, asB_bool, asI_int, asS_s, asN_int, extrK_0, extrK_1, extrK_2, Bool.not_true, Bool.not_false, Nat.beq_refl]
        exact ih
theorem in_loop5 {μ : AMem} {x y : SV} {n i c k e l i2 : Int} {gs : List Int} (hy : IsRow μ .i64 y gs) (hl : gs.length ≤ 1000) :
    ∀ m j : Nat, j + m = gs.length → overdublaw13_SpaceWaits_L5 [.s (.int .i64 n), .s (.int .i64 c), .s x, .s y, .s (.int .i64 i), .s (.int .i64 k), .s (.int .i64 e), .s (.int .i64 l), .s (.int .i64 i2), .s (.int .i64 gs.length)] [.s (.bool (decide (k ∈ gs.take j))), .s (.int .i64 j)] μ = some (.exit 8, [.s (.int .i64 n), .s (.int .i64 c), .s x, .s y, .s (.int .i64 i), .s (.int .i64 k), .s (.int .i64 e), .s (.bool (decide (k ∈ gs))), .s (.int .i64 l), .s (.int .i64 i2)], μ)
  | 0, j, h => by
    rw [List.take_of_length_le (by omega), overdublaw13_SpaceWaits_L5_eq, overdublaw13_SpaceWaits_L5_B_eq]
    simp -implicitDefEqProofs (disch := omega) only [lt_t, lt_f, gt_t, gt_f, le_t, le_f, ge_t, ge_f, ne_t, ne_f, eq_t, eq_f, w64, chk_true, Option.bind_some, decide_true, decide_false, cond_true, cond_false, seqJ_n, seqJ_r, seqJ_e, headK_c, asB_bool, asI_int, asS_s, asN_int, extrK_0, extrK_1, extrK_2, Bool.not_true, Bool.not_false, Nat.beq_refl]
  | m + 1, j, h => by
    have hj : j < gs.length := by omega
    have ih := in_loop5 (x := x) (n := n) (i := i) (c := c) (k := k) (e := e) (l := l) (i2 := i2) hy hl m (j + 1) (by omega)
    rw [nsu, take_snoc hj] at ih
    have a1 := fun {R : Type} (K : AV → Option R) => hy.ind (i := (j : Int)) (by omega) (by omega) K
    have a2 := fun {R : Type} (K : AV → Option R) => hy.load (i := (j : Int)) (by omega) (by omega) K
    rw [nat_toNat] at a2
    have ei : IntKind.wrap .i64 ((j : Int) + 1) = (j : Int) + 1 := wr (by omega)
    rw [overdublaw13_SpaceWaits_L5_eq, overdublaw13_SpaceWaits_L5_B_eq]
    by_cases hm : k ∈ gs.take j
    · rw [decide_eq_true (List.mem_append_left _ hm)] at ih
      rw [decide_eq_true hm]
      simp -implicitDefEqProofs only [lt_t (show (j : Int) < (gs.length : Int) by omega), ei, Option.bind_some, decide_true, decide_false, cond_true, cond_false, seqJ_n, seqJ_r, seqJ_e, headK_c, asB_bool, asI_int, asS_s, asN_int, extrK_0, extrK_1, extrK_2, Bool.not_true, Bool.not_false, Nat.beq_refl]
      exact ih
    · rw [decide_eq_false hm]
      by_cases he : gs.getD j 0 = k
      · rw [decide_eq_true (List.mem_append_right _ (by rw [he]; exact List.mem_cons_self ..))] at ih
        simp -implicitDefEqProofs only [lt_t (show (j : Int) < (gs.length : Int) by omega), a1, a2, eq_t he, ei, Option.bind_some, decide_true, decide_false, cond_true, cond_false, seqJ_n, seqJ_r, seqJ_e, headK_c, asB_bool, asI_int, asS_s, asN_int, extrK_0, extrK_1, extrK_2, Bool.not_true, Bool.not_false, Nat.beq_refl]
        exact ih
      · rw [decide_eq_false (fun h => by
          rcases List.mem_append.mp h with h | h
          · exact hm h
          · exact he (List.mem_singleton.mp h).symm)] at ih
        simp -implicitDefEqProofs only [lt_t (show (j : Int) < (gs.length : Int) by omega), a1, a2, eq_f he, ei, Option.bind_some, decide_true, decide_false, cond_true, cond_false, seqJ_n, seqJ_r, seqJ_e, headK_c, asB_bool, asI_int, asS_s, asN_int, extrK_0, extrK_1, extrK_2, Bool.not_true, Bool.not_false, Nat.beq_refl]
        exact ih
/-- What is gone, what waits. -/
structure GI (n : Nat) (gs cs W : List Int) : Prop where
  g1 : ∀ v ∈ gs, 1 ≤ v ∧ v < n
  w1 : ∀ v, v ∈ W ↔ v ∈ gs
  wl : W.length = gs.length
  len : cs.length = n
  c1 : ∀ j : Nat, 1 ≤ j → j < n → cs.getD j 0 = if (j : Int) ∈ gs then 0 else 1
  c0 : cs.getD 0 0 = 0
  cnt : cntF (fun j => decide ((j : Int) ∉ gs)) n = n - gs.length
theorem GI.fit {n : Nat} {gs cs W : List Int} (g : GI n gs cs W) {k : Nat} (hk : k ≤ 100) : fits cs k := fit_of g.len (fun j hj => by
  by_cases h : 1 ≤ j
  · rw [g.c1 j h hj]; split <;> omega
  · obtain rfl : j = 0 := by omega
    rw [g.c0]; omega) hk
theorem GI.add {n : Nat} {gs cs W : List Int} (g : GI n gs cs W) {k : Nat} (h1 : 1 ≤ k) (h2 : k < n) (hk : (k : Int) ∉ gs) : GI n (gs ++ [(k : Int)]) (decZ cs k) (insK W k) := by
  have hl := g.len
  have hmem : ∀ v : Int, v ∈ gs ++ [(k : Int)] ↔ v = k ∨ v ∈ gs := fun v => by
    rw [List.mem_append, List.mem_singleton]; exact Or.comm
  refine ⟨fun v hv => ?_, fun v => ?_, ?_, by rw [decZ_len]; exact hl, fun j hj hj2 => ?_, ?_, ?_⟩
  · rcases (hmem v).mp hv with h | h
    · omega
    · exact g.g1 v h
  · rw [ins_mem, hmem, g.w1]
  · rw [ins_len, g.wl]; simp
  · rw [dec_get (by omega)]
    by_cases hjk : j = k
    · rw [if_pos hjk, g.c1 k h1 h2, if_neg hk, if_pos ((hmem j).mpr (.inl (by omega)))]; rfl
    · rw [if_neg hjk, g.c1 j hj hj2]
      by_cases hm : (j : Int) ∈ gs
      · rw [if_pos hm, if_pos ((hmem j).mpr (.inr hm))]
      · rw [if_neg hm, if_neg fun h => by
          rcases (hmem j).mp h with h | h
          · omega
          · exact hm h]
  · rw [dec_get (by omega), if_neg (by omega)]; exact g.c0
  · rw [cntF_cong (W := setV (fun j => decide ((j : Int) ∉ gs)) k false) n fun j hj => ?_, cnt_set (by simp [hk]), if_pos h2, g.cnt]
    · simp; omega
    · unfold setV
      by_cases hjk : j = k
      · rw [if_pos hjk, decide_eq_false]
        exact fun h => h ((hmem j).mpr (.inl (by omega)))
      · rw [if_neg hjk]
        refine decide_eq_decide.mpr ?_
        rw [hmem]
        exact ⟨fun h hg => h (.inr hg), fun h hg => hg.elim (fun e => by omega) h⟩
theorem gone_loop {μ0 : AMem} (h0 : WF μ0) {t x : SV} {n : Nat} (hn2 : 2 ≤ n) (hn : n ≤ 100) {c : Int} {zs : List Int} (hx : IsRow μ0 .i64 t zs) (hz : ∀ v ∈ zs, (Lit.int .i64 v).wf = true) :
    ∀ (m i : Nat) (μ : AMem) (H : Nat → Prop) (y : SV) (gs cs W : List Int), i + m = min 10 zs.length → Same μ0 μ → Sp H μ0.next μ x 1 n (fun _ => true) cs W → GI n gs cs W → OwnRow μ0.next μ .i64 3 y gs → (∀ j, isId y j → ¬ H j) → gs.length ≤ i →
      ∃ μ' H' y' gs' cs' W', overdublaw13_SpaceWaits_L2 [.s (.int .i64 n), .s t, .s (.int .i64 c), .s x] [.s y, .s (.int .i64 i)] μ = some (.exit 2, [.s (.int .i64 n), .s (.int .i64 c), .s x, .s y'], μ') ∧ Same μ0 μ' ∧ Sp H' μ0.next μ' x 1 n (fun _ => true) cs' W' ∧ GI n gs' cs' W' ∧ OwnRow μ0.next μ' .i64 3 y' gs' ∧ (∀ j, isId y' j → ¬ H' j) ∧ gs'.length ≤ 10
  | 0, i, μ, H, y, gs, cs, W, h, hs, hp, hg, hy, hyH, hl => by
    refine ⟨μ, H, y, gs, cs, W, ?_, hs, hp, hg, hy, hyH, by omega⟩
    rw [overdublaw13_SpaceWaits_L2_eq, overdublaw13_SpaceWaits_L2_B_eq, (hx.same hs).len]
    by_cases h1 : (i : Int) < (zs.length : Int)
    · simp -implicitDefEqProofs (disch := omega) only [lt_t, lt_f, gt_t, gt_f, le_t, le_f, ge_t, ge_f, ne_t, ne_f, eq_t, eq_f, w64, chk_true, Option.bind_some, decide_true, decide_false, cond_true, cond_false, seqJ_n, seqJ_r, seqJ_e, headK_c, asB_bool, asI_int, asS_s, asN_int, extrK_0, extrK_1, extrK_2, Bool.not_true, Bool.not_false, Nat.beq_refl]
    · simp -implicitDefEqProofs (disch := omega) only [lt_t, lt_f, gt_t, gt_f, le_t, le_f, ge_t, ge_f, ne_t, ne_f, eq_t, eq_f, w64, chk_true, Option.bind_some, decide_true, decide_false, cond_true, cond_false, seqJ_n, seqJ_r, seqJ_e, headK_c, asB_bool, asI_int, asS_s, asN_int, extrK_0, extrK_1, extrK_2, Bool.not_true, Bool.not_false, Nat.beq_refl]
  | m + 1, i, μ, H, y, gs, cs, W, h, hs, hp, hg, hy, hyH, hl => by
    have hi : i < zs.length := by omega
    have hx1 := hx.same hs
    have hzi := wf64 (hz _ (getD_mem hi))
    have en : IntKind.wrap .i64 ((n : Int) - 1) = (n : Int) - 1 := wr (by omega)
    have w1 := within_is (zs.getD i 0) ((n : Int) - 1) hzi (by omega) (by omega) μ
    have hm1 := Int.emod_nonneg (zs.getD i 0) (show ¬ (n : Int) - 1 = 0 by omega)
    have hm2 := Int.emod_lt_of_pos (zs.getD i 0) (show (0 : Int) < (n : Int) - 1 by omega)
    obtain ⟨k, hk, hk1, hk2⟩ : ∃ k : Nat, IntKind.wrap .i64 (1 + zs.getD i 0 % ((n : Int) - 1)) = (k : Int) ∧ 1 ≤ k ∧ k < n := ⟨(1 + zs.getD i 0 % ((n : Int) - 1)).toNat, by rw [wr (by omega)]; omega, by omega, by omega⟩
    have c1 := lt_t (show (i : Int) < (zs.length : Int) by omega)
    have c2 := lt_t (show (i : Int) < 10 by omega)
    have r1 := fun {R : Type} (K : AV → Option R) => hx1.ind (i := (i : Int)) (by omega) (by omega) K
    have r2 := fun {R : Type} (K : AV → Option R) => hx1.load (i := (i : Int)) (by omega) (by omega) K
    rw [nat_toNat] at r2
    have ei : IntKind.wrap .i64 ((i : Int) + 1) = (i : Int) + 1 := wr (by omega)
    have e4 := in_loop (t := t) (x := x) (n := (n : Int)) (i := (i : Int)) (c := c) (k := (k : Int)) hy.row (by omega) gs.length 0 (by omega)
    rw [n0, List.take_zero, decide_eq_false (by simp)] at e4
    obtain ⟨d1, d2⟩ := spDrop_is hs.wf hs.next hp (hg.fit (by omega)) (by have := hg.wl; omega) (k : Int)
    rw [of_get hg.len hk2, hg.c1 k hk1 hk2] at d1 d2
    by_cases hm : (k : Int) ∈ gs
    · rw [if_pos hm] at d1
      rw [decide_eq_true hm] at e4
      have e5 := d1 rfl
      obtain ⟨m2, H2, y2, g2, s2, W2, q1, q2⟩ := gone_loop (c := c) h0 hn2 hn hx hz m (i + 1) μ H y gs cs W (by omega) hs hp hg hy hyH (by omega)
      rw [nsu] at q1
      refine ⟨m2, H2, y2, g2, s2, W2, ?_, q2⟩
      have hb : (false == true) = false := rfl
      rw [overdublaw13_SpaceWaits_L2_eq, overdublaw13_SpaceWaits_L2_B_eq, hx1.len]
      simp -implicitDefEqProofs only [c1, c2, r1, r2, en, w1, hk, hy.row.len, e4, e5, hb, ei, Option.bind_some, decide_true, decide_false, cond_true, cond_false, seqJ_n, seqJ_r, seqJ_e, headK_c, asB_bool, asI_int, asS_s, asN_int, extrK_0, extrK_1, extrK_2, Bool.not_true, Bool.not_false, Nat.beq_refl]
      exact q1
    · rw [if_neg hm] at d2
      rw [decide_eq_false hm] at e4
      obtain ⟨m1, H1, e5, k1, hsub, p1⟩ := d2 (by omega)
      rw [if_pos rfl] at p1
      have hs1 := hp.since h0 hs k1
      have hy1 : OwnRow μ0.next m1 .i64 3 y gs := ownKeep hy k1 fun j hj hi => hyH j hi hj
      have hyH1 : ∀ j, isId y j → ¬ H1 j := fun j hj hH => by
        obtain ⟨_, o, ho⟩ := own_lives hy hj
        have := hs.wf.lt ho
        rcases hsub j hH with h | h
        · exact hyH j hj h
        · omega
      obtain ⟨y', m2, p2, p3, p4, p5⟩ := pushK (B := 8) (a := 2) (b := 3) (n := 5) (q := some 1) k1.wf hy1 (k : Int) (by omega) (by omega) hs1.next (by omega) (by omega) (by omega)
      have hs2 := keepSame h0 hs1 p3 fun j hj => (own_lives hy1 hj).1
      obtain ⟨m3, H3, y3, g3, s3, W3, q1, q2⟩ := gone_loop (c := c) h0 hn2 hn hx hz m (i + 1) m2 H1 y' (gs ++ [(k : Int)]) _ _ (by omega) hs2 (p1.off p3 hyH1) (hg.add hk1 hk2 hm) p4 (fun j hj hH => by
        rcases p5 j hj with h | h
        · exact hyH1 j h hH
        · have := (p1.bound j hH).2; omega) (by simp; omega)
      rw [nsu] at q1
      refine ⟨m3, H3, y3, g3, s3, W3, ?_, q2⟩
      have hb : (true == false) = false := rfl
      rw [overdublaw13_SpaceWaits_L2_eq, overdublaw13_SpaceWaits_L2_B_eq, hx1.len]
      simp -implicitDefEqProofs only [c1, c2, r1, r2, en, w1, hk, hy.row.len, e4, e5, hb, p2, ei, Option.bind_some, decide_true, decide_false, cond_true, cond_false, seqJ_n, seqJ_r, seqJ_e, headK_c, asB_bool, asI_int, asS_s, asN_int, extrK_0, extrK_1, extrK_2, Bool.not_true, Bool.not_false, Nat.beq_refl]
      exact q1
theorem back_loop {H : Nat → Prop} {N : Nat} {x y : SV} {n : Nat} (hn : n ≤ 100) {c : Int} {gs : List Int} (hg : ∀ v ∈ gs, 1 ≤ v ∧ v < n) (hyH : ∀ j, isId y j → ¬ H j) (hgl : gs.length ≤ 10) :
    ∀ (m i : Nat) (μ : AMem) (V : Nat → Bool) (cs : List Int), i + m = gs.length → WF μ → Sp H N μ x 1 n V cs [] → IsRow μ .i64 y gs → (∀ j, j < n → V j = false → (j : Int) ∈ gs) → cntF V n = n - gs.length + i → (∀ j, 1 ≤ j → j < n → cs.getD j 0 = if V j then 1 else 0) → cs.getD 0 0 = 0 → 1 ≤ n →
      ∃ μ' V' cs', overdublaw13_SpaceWaits_L3 [.s (.int .i64 n), .s (.int .i64 c), .s x, .s y, .s (.int .i64 gs.length)] [.s (.int .i64 i)] μ = some (.exit 6, [.s (.int .i64 n), .s (.int .i64 c), .s x], μ') ∧ Keep H μ μ' ∧ Sp H N μ' x 1 n V' cs' [] ∧ (∀ j, j < n → V' j = true) ∧ (∀ j, 1 ≤ j → j < n → cs'.getD j 0 = 1) ∧ cs'.getD 0 0 = 0
  | 0, i, μ, V, cs, h, hw, hp, hy, hV, hcnt, hc, hc0, hn1 => by
    have hall : ∀ j, j < n → V j = true := by
      rcases least_or V n with h1 | ⟨g, g1, g2, g3⟩
      · exact h1
      · exfalso
        have h2 := cnt_set (V := V) (i := g) (b := true) (by rw [g2]; rfl) n
        rw [if_pos g1, if_pos rfl] at h2
        have := cntF_le (setV V g true) n
        omega
    refine ⟨μ, V, cs, ?_, Keep.refl hw, hp, hall, fun j h1 h2 => by rw [hc j h1 h2, hall j h2]; rfl, hc0⟩
    rw [overdublaw13_SpaceWaits_L3_eq, overdublaw13_SpaceWaits_L3_B_eq]
    simp -implicitDefEqProofs (disch := omega) only [lt_t, lt_f, gt_t, gt_f, le_t, le_f, ge_t, ge_f, ne_t, ne_f, eq_t, eq_f, w64, chk_true, Option.bind_some, decide_true, decide_false, cond_true, cond_false, seqJ_n, seqJ_r, seqJ_e, headK_c, asB_bool, asI_int, asS_s, asN_int, extrK_0, extrK_1, extrK_2, Bool.not_true, Bool.not_false, Nat.beq_refl]
  | m + 1, i, μ, V, cs, h, hw, hp, hy, hV, hcnt, hc, hc0, hn1 => by
    have hl := hp.len
    rcases least_or V n with h1 | ⟨g, g1, g2, g3⟩
    · exfalso
      rw [cnt_all n h1] at hcnt
      omega
    · have hgg := hV g g1 g2
      have hg1 := hg _ hgg
      obtain ⟨m1, e1, k1, p1⟩ := (spTake_is hw hp (by omega) (fit_of hl (fun j hj => by
        by_cases hj1 : 1 ≤ j
        · rw [hc j hj1 hj]; split <;> omega
        · obtain rfl : j = 0 := by omega
          rw [hc0]; omega) (by omega))).2 g g1 g2 g3
      have hy1 := rowKeep hy k1 fun j hj hi => hyH j hi hj
      have e2 := in_loop5 (x := x) (n := (n : Int)) (i := (i : Int)) (c := c) (k := (g : Int)) (e := 0) (l := (gs.length : Int)) (i2 := (i : Int)) hy1 (by omega) gs.length 0 (by omega)
      rw [n0, List.take_zero, decide_eq_false (by simp), decide_eq_true hgg] at e2
      have e3 := spOf_is p1 (g : Int)
      rw [of_get p1.len g1, inc_get (by omega), if_pos rfl, hc g (by omega) g1, g2] at e3
      obtain ⟨m2, V2, c2, q1, q2, q3⟩ := back_loop (c := c) hn hg hyH hgl m (i + 1) m1 _ _ (by omega) k1.wf p1 hy1 (fun j hj hf => by
          unfold setV at hf
          by_cases hjg : j = g
          · rw [if_pos hjg] at hf; cases hf
          · rw [if_neg hjg] at hf; exact hV j hj hf) (by
          rw [cnt_set (by rw [g2]; rfl), if_pos g1, if_pos rfl, hcnt]; omega) (fun j hj1 hj2 => by
          rw [inc_get (by omega)]
          unfold setV
          by_cases hjg : j = g
          · rw [if_pos hjg, if_pos hjg, hc g (by omega) g1, g2]; rfl
          · rw [if_neg hjg, if_neg hjg, hc j hj1 hj2]) (by rw [inc_get (by omega), if_neg (by omega)]; exact hc0) hn1
      rw [nsu] at q1
      have ei : IntKind.wrap .i64 ((i : Int) + 1) = (i : Int) + 1 := wr (by omega)
      have h11 : (((if (false : Bool) = true then (1 : Int) else 0) + 1) != 1) = false := rfl
      refine ⟨m2, V2, c2, ?_, k1.trans q2, q3⟩
      rw [overdublaw13_SpaceWaits_L3_eq, overdublaw13_SpaceWaits_L3_B_eq]
      simp -implicitDefEqProofs only [lt_t (show (i : Int) < (gs.length : Int) by omega), e1, hy.len, e2, ne_f (rfl : (0 : Int) = 0), e3, h11, gt_f (show (i : Int) ≤ (gs.length : Int) by omega), ei, Option.bind_some, decide_true, decide_false, cond_true, cond_false, seqJ_n, seqJ_r, seqJ_e, headK_c, asB_bool, asI_int, asS_s, asN_int, extrK_0, extrK_1, extrK_2, Bool.not_true, Bool.not_false, Nat.beq_refl]
      exact q1
theorem pureSpaceWaits (a0 : Int) (w0 : (Lit.int .i64 a0).wf = true) (x1 : Arg) (z1 : List Int) (s1 : Arg.isRow .i64 z1 x1) (w1 : ∀ n ∈ z1, (Lit.int .i64 n).wf = true) (y1 : z1.length * 8 ≤ 140737488351232) (a2 : Int) (w2 : (Lit.int .i64 a2).wf = true) :
    ∃ μ', overdublaw13_SpaceWaits (argVals 0 [.i .i64 a0, x1, .i .i64 a2]) (argMem [.i .i64 a0, x1, .i .i64 a2]) = some (.s (.bool true), μ') := by
  obtain ⟨a, ha, hx⟩ := IsRow.arg (l := [.i .i64 a0, x1, .i .i64 a2]) (j := 1) s1 rfl
  have hw := WF.args [.i .i64 a0, x1, .i .i64 a2]
  show ∃ μ', overdublaw13_SpaceWaits [.s (.int .i64 a0), x1.val 1, .s (.int .i64 a2)] _ = _
  rw [ha]
  generalize argMem [.i .i64 a0, x1, .i .i64 a2] = μ at *
  have hm1 := Int.emod_nonneg a0 (show ¬ (20 : Int) = 0 by omega)
  have hm2 := Int.emod_lt_of_pos a0 (show (0 : Int) < 20 by omega)
  obtain ⟨n, hn, hn1, hn2⟩ : ∃ n : Nat, IntKind.wrap .i64 (2 + a0 % 20) = (n : Int) ∧ 2 ≤ n ∧ n ≤ 21 := ⟨(2 + a0 % 20).toNat, by rw [wr (by omega)]; omega, by omega, by omega⟩
  have e0 := within_is a0 20 (wf64 w0) (by omega) (by omega) μ
  obtain ⟨x, H, m1, e1, k1, p1⟩ := spNew_is hw (n := n) (fixed := 1) (by omega) (by omega) (by omega)
  rw [show ((1 : Nat) : Int) = 1 from rfl] at e1
  obtain ⟨m2, V2, c2, e2, k2, p2, hV2, hc2, hc20⟩ := fill_loop (t := a) (c := a2) (by omega) (n - 1) 1 m1 _ _ (by omega) (by omega) k1.wf p1 (fun j hj => rfl) (fun j hj => by rw [rep_getD, if_neg (by omega)])
  rw [show ((1 : Nat) : Int) = 1 from rfl] at e2
  have k12 := p1.since hw k1 k2
  have hl2 := p2.len
  have e3 := (spTake_is k2.wf p2 (by omega) (fit_of hl2 (fun j hj => by
    by_cases hj1 : 1 ≤ j
    · rw [hc2 j hj1 hj]; omega
    · obtain rfl : j = 0 := by omega
      rw [hc20]; omega) (by omega))).1 hV2
  have g0 : GI n [] c2 [] := ⟨fun v hv => by simp at hv, fun v => Iff.rfl, rfl, hl2, fun j h1 h2 => by rw [hc2 j h1 h2]; simp, hc20, by rw [cnt_all n fun j hj => by simp]; simp⟩
  obtain ⟨m3, H3, y, gs, c3, W3, e4, k3, p3, g3, o3, hyH, hgl⟩ := gone_loop (c := a2) hw hn1 (by omega) hx w1 _ 0 m2 H .nilSlice [] c2 [] (Nat.zero_add _) k12 (p2.cong hV2) g0 (OwnRow.nil _ _ _ _) (fun j h => h.elim) (Nat.le_refl _)
  rw [n0] at e4
  have e5 := (spTake_is k3.wf p3 (by omega) (g3.fit (by omega))).1 (fun _ _ => rfl)
  have e6 := spFree_is p3 (by omega)
  rw [cnt_all n fun _ _ => rfl, show (n : Int) - (n : Int) = 0 by omega] at e6
  obtain ⟨z, m4, e7, k4, o4⟩ := spWaiting_is k3.wf p3 (by have := g3.wl; omega)
  have p4 := p3.same k4
  have hy4 := o3.row.same k4
  have hwl : W3.length ≤ 10 := by have := g3.wl; omega
  obtain ⟨m5, e8, k5, p5⟩ := spCommit_is k4.wf p4 (by omega) (by omega) (fun v hv => by have := g3.g1 v ((g3.w1 v).mp hv); omega)
  have hV5 : ∀ j, j < n → putV false (fun _ => true) W3 j = decide ((j : Int) ∉ gs) := fun j hj => by
    rw [putV_is false W3 _ j fun v hv => by have := g3.g1 v ((g3.w1 v).mp hv); omega]
    by_cases hm : (j : Int) ∈ gs
    · rw [if_pos ((g3.w1 _).mpr hm), decide_eq_false (fun h => h hm)]
    · rw [if_neg (fun h => hm ((g3.w1 _).mp h)), decide_eq_true hm]
  have p5' := p5.cong hV5
  have e9 := spFree_is p5' (by omega)
  rw [g3.cnt, show (n : Int) - ((n : Int) - (gs.length : Int)) = gs.length by omega] at e9
  have hy5 := rowKeep hy4 k5 fun j hj hi => hyH j hi hj
  obtain ⟨m6, V6, c6, e10, k6, p6, hV6, hc6, hc60⟩ := back_loop (c := a2) (by omega) g3.g1 hyH hgl gs.length 0 m5 _ c3 (by omega) k5.wf p5' hy5 (fun j hj hf => by simpa using hf) (by rw [g3.cnt]; omega) (fun j h1 h2 => by
    rw [g3.c1 j h1 h2]
    by_cases hm : (j : Int) ∈ gs
    · rw [if_pos hm]; simp [hm]
    · rw [if_neg hm]; simp [hm]) g3.c0 (by omega)
  rw [n0] at e10
  have hl6 := p6.len
  have hf6 : fits c6 1 := fit_of hl6 (fun j hj => by
    by_cases hj1 : 1 ≤ j
    · rw [hc6 j hj1 hj]; omega
    · obtain rfl : j = 0 := by omega
      rw [hc60]; omega) (by omega)
  have e11 := (spTake_is k6.wf p6 (by omega) hf6).1 hV6
  have hm3 := Int.emod_nonneg a2 (show ¬ (n : Int) - 1 = 0 by omega)
  have hm4 := Int.emod_lt_of_pos a2 (show (0 : Int) < (n : Int) - 1 by omega)
  have en : IntKind.wrap .i64 ((n : Int) - 1) = (n : Int) - 1 := wr (by omega)
  have e12 := within_is a2 ((n : Int) - 1) (wf64 w2) (by omega) (by omega) m6
  obtain ⟨k, hk, hk1, hk2⟩ : ∃ k : Nat, IntKind.wrap .i64 (1 + a2 % ((n : Int) - 1)) = (k : Int) ∧ 1 ≤ k ∧ k < n := ⟨(1 + a2 % ((n : Int) - 1)).toNat, by rw [wr (by omega)]; omega, by omega, by omega⟩
  obtain ⟨m7, e13, k7, p7⟩ := (spShare_is k6.wf p6 hf6 (k : Int)).2 (by rw [of_get hl6 hk2, hc6 k hk1 hk2]; omega)
  have hl7 := p7.len
  have k47 : Same μ m7 := p6.since hw (p5.since hw (p4.since hw (k3.trans k4) k5) k6) k7
  obtain ⟨m8, H8, e14, k8, _, p8⟩ := (spDrop_is k7.wf k47.next p7 (fit_of hl7 (fun j hj => by
    rw [inc_get (by omega)]
    by_cases hj1 : 1 ≤ j
    · split
      · rw [hc6 k hk1 hk2]; omega
      · rw [hc6 j hj1 hj]; omega
    · obtain rfl : j = 0 := by omega
      rw [if_neg (by omega), hc60]; omega) (by omega)) (by simp) (k : Int)).2 (by rw [of_get hl7 hk2, inc_get (by omega), if_pos rfl, hc6 k hk1 hk2]; omega)
  rw [of_get hl7 hk2, inc_get (by omega), if_pos rfl, hc6 k hk1 hk2, if_neg (by omega)] at p8
  obtain ⟨v, m9, e15, k9, o9⟩ := spWaiting_is k8.wf p8 (by simp)
  have hlen := o9.row.len
  rw [List.length_nil] at hlen
  obtain ⟨mw, w⟩ := wakes_is m9 k9.wf
  refine ⟨mw, ?_⟩
  have hwl2 : ((W3.length : Nat) : Int) = (gs.length : Int) := by rw [g3.wl]
  rw [overdublaw13_SpaceWaits_eq]
  simp -implicitDefEqProofs only [e0, hn, e1, p1.nn, e2, e3, ne_f (rfl : (0 : Int) = 0), ne_f (rfl : (3 : Int) = 3), eq_t (rfl : (3 : Int) = 3), e4, e5, e6, e7, o4.row.len, o3.row.len, hwl2, ne_f (rfl : (gs.length : Int) = (gs.length : Int)), e8, e9, e10, e11, en, e12, hk, e13, e14, e15, hlen, eq_t (show ((0 : Nat) : Int) = 0 from rfl), w, Option.bind_some, decide_true, decide_false, cond_true, cond_false, seqJ_n, seqJ_r, seqJ_e, headK_c, asB_bool, asI_int, asS_s, asN_int, extrK_0, extrK_1, extrK_2, Bool.not_true, Bool.not_false, Nat.beq_refl]
end Go.Proofs.Ytkikncdhmifkaaa
