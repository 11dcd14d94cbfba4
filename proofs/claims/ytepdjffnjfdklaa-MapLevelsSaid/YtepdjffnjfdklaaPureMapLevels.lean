/- The plain answer of MapLevels. -/
import Derived.Test.YtepdjffnjfdklaaQWakes
import Derived.Test.YtepdjffnjfdklaaQMapLevel
import Derived.Test.YtepdjffnjfdklaaKWithin
namespace Go.Proofs.Ytepdjffnjfdklaa
open Go Go.Proofs.Ytepdjffnjfdklaa.E
set_option linter.unusedVariables false
set_option linter.unusedSimpArgs false
theorem levels_fill {μ0 : AMem} (h0 : WF μ0) {N : Nat} (hN : μ0.next ≤ N) {x t : SV} {a2 : Int} (hw2 : -9223372036854775808 ≤ a2 ∧ a2 ≤ 9223372036854775807) {n B : Nat} (hn1 : 1 ≤ n) (hn : n ≤ 4096) (hB : B ≤ 4096) (hBe : IntKind.wrap .i64 (Int.tdiv (IntKind.wrap .i64 ((a2 % 3) * (n : Int))) 2) = (B : Int)) {rs : List SV} :
    ∀ (m i : Nat) (μ : AMem) (ws : List Int), i + m = B → Same μ0 μ → Mw N μ x n rs ws →
      ∃ μ' ws', overdublaw11_MapLevels_L1 [.s (.int .i64 n), .s t, .s (.int .i64 a2), .s x] [.s (.int .i64 i)] μ = some (.exit 0, [.s (.int .i64 n), .s t, .s x], μ') ∧ Same μ0 μ' ∧ Mw N μ' x n rs ws'
  | 0, i, μ, ws, h, hs, hm => by
    have hw := within_is a2 3 hw2 (by omega) (by omega) μ
    refine ⟨μ, ws, ?_, hs, hm⟩
    rw [overdublaw11_MapLevels_L1_eq, overdublaw11_MapLevels_L1_B_eq]
    simp -implicitDefEqProofs only [hw, hBe, lt_f (show (B : Int) ≤ (i : Int) by omega), Option.bind_some, decide_true, decide_false, cond_true, cond_false, seqJ_n, seqJ_r, seqJ_e, headK_c, asB_bool, asI_int, asS_s, asN_int, extrK_0, extrK_1, extrK_2, Bool.not_true, Bool.not_false, Nat.beq_refl]
  | m + 1, i, μ, ws, h, hs, hm => by
    have hw := within_is a2 3 hw2 (by omega) (by omega) μ
    obtain ⟨a, ws1, m1, e1, k1, t1⟩ := mapSet_any hs.wf hm (by omega) (i : Int) true
    obtain ⟨m2, ws2, q1, q2, q3⟩ := levels_fill (t := t) h0 hN hw2 hn1 hn hB hBe m (i + 1) m1 ws1 (by omega) (keepSame h0 hs k1 fun j hj => Nat.le_trans hN (hm.ids hj)) t1
    rw [nsu] at q1
    have ei : IntKind.wrap .i64 ((i : Int) + 1) = (i : Int) + 1 := wr (by omega)
    refine ⟨m2, ws2, ?_, q2, q3⟩
    rw [overdublaw11_MapLevels_L1_eq, overdublaw11_MapLevels_L1_B_eq]
    simp -implicitDefEqProofs only [hw, hBe, lt_t (show (i : Int) < (B : Int) by omega), e1, ei, Option.bind_some, decide_true, decide_false, cond_true, cond_false, seqJ_n, seqJ_r, seqJ_e, headK_c, asB_bool, asI_int, asS_s, asN_int, extrK_0, extrK_1, extrK_2, Bool.not_true, Bool.not_false, Nat.beq_refl]
    exact q1
theorem levels_draw {μ0 : AMem} (h0 : WF μ0) {N : Nat} (hN : μ0.next ≤ N) {x t : SV} {n : Nat} (hn1 : 1 ≤ n) (hn : n ≤ 5000) {rs : List SV} {zs : List Int} (hx : IsRow μ0 .i64 t zs) (hz : ∀ v ∈ zs, (Lit.int .i64 v).wf = true) :
    ∀ (m i : Nat) (μ : AMem) (ws : List Int), i + m = min 30 zs.length → Same μ0 μ → Mw N μ x n rs ws →
      ∃ μ' ws', overdublaw11_MapLevels_L2 [.s (.int .i64 n), .s t, .s x] [.s (.int .i64 i)] μ = some (.exit 2, [.s (.int .i64 n), .s x], μ') ∧ Same μ0 μ' ∧ Mw N μ' x n rs ws'
  | 0, i, μ, ws, h, hs, hm => by
    refine ⟨μ, ws, ?_, hs, hm⟩
    rw [overdublaw11_MapLevels_L2_eq, overdublaw11_MapLevels_L2_B_eq, (hx.same hs).len]
    by_cases h1 : (i : Int) < (zs.length : Int)
    · simp -implicitDefEqProofs (disch := omega) only [lt_t, lt_f, gt_t, gt_f, le_t, le_f, ge_t, ge_f, ne_t, ne_f, eq_t, eq_f, w64, chk_true, Option.bind_some, decide_true, decide_false, cond_true, cond_false, seqJ_n, seqJ_r, seqJ_e, headK_c, asB_bool, asI_int, asS_s, asN_int, extrK_0, extrK_1, extrK_2, Bool.not_true, Bool.not_false, Nat.beq_refl]
    · simp -implicitDefEqProofs (disch := omega) only [lt_t, lt_f, gt_t, gt_f, le_t, le_f, ge_t, ge_f, ne_t, ne_f, eq_t, eq_f, w64, chk_true, Option.bind_some, decide_true, decide_false, cond_true, cond_false, seqJ_n, seqJ_r, seqJ_e, headK_c, asB_bool, asI_int, asS_s, asN_int, extrK_0, extrK_1, extrK_2, Bool.not_true, Bool.not_false, Nat.beq_refl]
  | m + 1, i, μ, ws, h, hs, hm => by
    have hi : i < zs.length := by omega
    have hx1 := hx.same hs
    have hw := within_is (zs.getD i 0) n (wf64 (hz _ (getD_mem hi))) (by omega) (by omega) μ
    obtain ⟨a, ws1, m1, e1, k1, t1⟩ := mapSet_any hs.wf hm hn (zs.getD i 0 % n) (Int.tmod (zs.getD i 0) 2 == 0)
    obtain ⟨m2, ws2, q1, q2, q3⟩ := levels_draw h0 hN hn1 hn hx hz m (i + 1) m1 ws1 (by omega) (keepSame h0 hs k1 fun j hj => Nat.le_trans hN (hm.ids hj)) t1
    rw [nsu] at q1
    refine ⟨m2, ws2, ?_, q2, q3⟩
    rw [overdublaw11_MapLevels_L2_eq, overdublaw11_MapLevels_L2_B_eq, hx1.len]
    simp -implicitDefEqProofs (disch := omega) only [lt_t, lt_f, gt_t, gt_f, le_t, le_f, ge_t, ge_f, ne_t, ne_f, eq_t, eq_f, w64, chk_true, Option.bind_some, decide_true, decide_false, cond_true, cond_false, seqJ_n, seqJ_r, seqJ_e, headK_c, asB_bool, asI_int, asS_s, asN_int, extrK_0, extrK_1, extrK_2, Bool.not_true, Bool.not_false, Nat.beq_refl, hx1.ind, hx1.load, nat_toNat, hw, e1]
    exact q1
theorem bit_eq (i : Nat) : IntKind.wrap .u64 (Int.tmod (i : Int) 64) = ((i % 64 : Nat) : Int) := by
  rw [Int.tmod_eq_emod_of_nonneg (by omega), wu64 (by unfold w64ok; omega)]; omega
theorem div_eq {i : Nat} (h : i ≤ 5000) : IntKind.wrap .i64 (Int.tdiv (i : Int) 64) = ((i / 64 : Nat) : Int) := by
  rw [Int.tdiv_eq_ediv_of_nonneg (by omega), wr (by omega)]; omega
theorem min_eq (i : Nat) : min (Int.toNat ((i % 64 : Nat) : Int)) (IntKind.bits .u64) = i % 64 := by show min _ 64 = _; omega
theorem levels_low {N : Nat} {μ : AMem} {x y : SV} {n : Nat} {rs : List SV} {ws : List Int} (h : Mw N μ x n rs ws) (hy : IsRow μ .u64 y ws) (hok : ∀ w ∈ ws, w64ok w) (hn : n ≤ 4096) :
    ∀ m i : Nat, i + m = n → overdublaw11_MapLevels_L3 [.s (.int .i64 n), .s x, .s y] [.s (.int .i64 i)] μ = some (.exit 4, [.s x, .s y], μ)
  | 0, i, h1 => by
    rw [overdublaw11_MapLevels_L3_eq, overdublaw11_MapLevels_L3_B_eq]
    simp -implicitDefEqProofs (disch := omega) only [lt_t, lt_f, gt_t, gt_f, le_t, le_f, ge_t, ge_f, ne_t, ne_f, eq_t, eq_f, w64, chk_true, Option.bind_some, decide_true, decide_false, cond_true, cond_false, seqJ_n, seqJ_r, seqJ_e, headK_c, asB_bool, asI_int, asS_s, asN_int, extrK_0, extrK_1, extrK_2, Bool.not_true, Bool.not_false, Nat.beq_refl]
  | m + 1, i, h1 => by
    have ih := levels_low h hy hok hn m (i + 1) (by omega)
    rw [nsu] at ih
    have hus := used_is h (i : Int)
    rw [usedZ_in (n := n) (ws := ws) (i := i) (by omega)] at hus
    have hl := h.len
    have hj : i / 64 < ws.length := by omega
    have a1 := fun {R : Type} (K : AV → Option R) => hy.ind (i := ((i / 64 : Nat) : Int)) (by omega) (by omega) K
    have a2 := fun {R : Type} (K : AV → Option R) => hy.load (i := ((i / 64 : Nat) : Int)) (by omega) (by omega) K
    rw [nat_toNat] at a2
    have hlk := look_bit (hok _ (getD_mem hj)) (i % 64)
    have hUU : bitV (ws.getD (i / 64) 0) (i % 64) = U ws i := rfl
    have hbb : (!(U ws i == U ws i)) = false := by simp
    have ei : IntKind.wrap .i64 ((i : Int) + 1) = (i : Int) + 1 := wr (by omega)
    rw [overdublaw11_MapLevels_L3_eq, overdublaw11_MapLevels_L3_B_eq]
    simp -implicitDefEqProofs only [lt_t (show (i : Int) < (n : Int) by omega), div_eq (show i ≤ 5000 by omega), a1, a2, bit_eq, if_neg (show ¬ ((i % 64 : Nat) : Int) < 0 by omega), hus, min_eq, hlk, hUU, hbb, ei, chk_true, Option.bind_some, decide_true, decide_false, cond_true, cond_false, seqJ_n, seqJ_r, seqJ_e, headK_c, asB_bool, asI_int, asS_s, asN_int, extrK_0, extrK_1, extrK_2, Bool.not_true, Bool.not_false, Nat.beq_refl]
    exact ih
theorem levels_up {μ : AMem} {x y z : SV} {ws vs : List Int} {k : Int} (hy : IsRow μ .u64 y ws) (hz : IsRow μ .u64 z vs) (hok : ∀ w ∈ vs, w64ok w) (hl : vs.length = (ws.length + 63) / 64) (hs : Sm ws vs) (hl2 : ws.length ≤ 5000) :
    ∀ m i : Nat, i + m = ws.length → overdublaw11_MapLevels_L5 [.s x, .s y, .s (.int .i64 k), .s z, .s (.int .i64 ws.length)] [.s (.int .i64 i)] μ = some (.exit 8, [.s x, .s (.int .i64 k), .s z], μ)
  | 0, i, h1 => by
    rw [overdublaw11_MapLevels_L5_eq, overdublaw11_MapLevels_L5_B_eq]
    simp -implicitDefEqProofs (disch := omega) only [lt_t, lt_f, gt_t, gt_f, le_t, le_f, ge_t, ge_f, ne_t, ne_f, eq_t, eq_f, w64, chk_true, Option.bind_some, decide_true, decide_false, cond_true, cond_false, seqJ_n, seqJ_r, seqJ_e, headK_c, asB_bool, asI_int, asS_s, asN_int, extrK_0, extrK_1, extrK_2, Bool.not_true, Bool.not_false, Nat.beq_refl]
  | m + 1, i, h1 => by
    have ih := levels_up (x := x) (k := k) hy hz hok hl hs hl2 m (i + 1) (by omega)
    rw [nsu] at ih
    have hj : i / 64 < vs.length := by omega
    have a1 := fun {R : Type} (K : AV → Option R) => hz.ind (i := ((i / 64 : Nat) : Int)) (by omega) (by omega) K
    have a2 := fun {R : Type} (K : AV → Option R) => hz.load (i := ((i / 64 : Nat) : Int)) (by omega) (by omega) K
    have a3 := fun {R : Type} (K : AV → Option R) => hy.ind (i := (i : Int)) (by omega) (by omega) K
    have a4 := fun {R : Type} (K : AV → Option R) => hy.load (i := (i : Int)) (by omega) (by omega) K
    rw [nat_toNat] at a2 a4
    have hlk := look_bit (hok _ (getD_mem hj)) (i % 64)
    have hUU : bitV (vs.getD (i / 64) 0) (i % 64) = (ws.getD i 0 == 18446744073709551615) := hs i (by omega)
    have hbb : (!((ws.getD i 0 == 18446744073709551615) == (ws.getD i 0 == 18446744073709551615))) = false := by simp
    have ei : IntKind.wrap .i64 ((i : Int) + 1) = (i : Int) + 1 := wr (by omega)
    rw [overdublaw11_MapLevels_L5_eq, overdublaw11_MapLevels_L5_B_eq]
    simp -implicitDefEqProofs only [lt_t (show (i : Int) < (ws.length : Int) by omega), div_eq (show i ≤ 5000 by omega), a1, a2, a3, a4, bit_eq, if_neg (show ¬ ((i % 64 : Nat) : Int) < 0 by omega), min_eq, hlk, hUU, hbb, ei, chk_true, Option.bind_some, decide_true, decide_false, cond_true, cond_false, seqJ_n, seqJ_r, seqJ_e, headK_c, asB_bool, asI_int, asS_s, asN_int, extrK_0, extrK_1, extrK_2, Bool.not_true, Bool.not_false, Nat.beq_refl]
    exact ih
theorem pureMapLevels (a0 : Int) (w0 : (Lit.int .i64 a0).wf = true) (x1 : Arg) (z1 : List Int) (s1 : Arg.isRow .i64 z1 x1) (w1 : ∀ n ∈ z1, (Lit.int .i64 n).wf = true) (y1 : z1.length * 8 ≤ 140737488351232) (a2 : Int) (w2 : (Lit.int .i64 a2).wf = true) :
    ∃ μ', overdublaw11_MapLevels (argVals 0 [.i .i64 a0, x1, .i .i64 a2]) (argMem [.i .i64 a0, x1, .i .i64 a2]) = some (.s (.bool true), μ') := by
  obtain ⟨a, ha, hx⟩ := IsRow.arg (l := [.i .i64 a0, x1, .i .i64 a2]) (j := 1) s1 rfl
  have hw := WF.args [.i .i64 a0, x1, .i .i64 a2]
  show ∃ μ', overdublaw11_MapLevels [.s (.int .i64 a0), x1.val 1, .s (.int .i64 a2)] _ = _
  rw [ha]
  generalize argMem [.i .i64 a0, x1, .i .i64 a2] = μ at *
  have hm1 := Int.emod_nonneg a0 (show ¬ (4096 : Int) = 0 by omega)
  have hm2 := Int.emod_lt_of_pos a0 (show (0 : Int) < 4096 by omega)
  obtain ⟨n, hn, hn1, hn2⟩ : ∃ n : Nat, IntKind.wrap .i64 (1 + a0 % 4096) = (n : Int) ∧ 1 ≤ n ∧ n ≤ 4096 := ⟨(1 + a0 % 4096).toNat, by rw [wr (by omega)]; omega, by omega, by omega⟩
  have e0 := within_is a0 4096 (wf64 w0) (by omega) (by omega) μ
  obtain ⟨x, rs, ws, m1, e1, k1, t1, u1⟩ := mapNew_w hw (n := n) hn1 (by omega)
  have hm3 := Int.emod_nonneg a2 (show ¬ (3 : Int) = 0 by omega)
  have hm4 := Int.emod_lt_of_pos a2 (show (0 : Int) < 3 by omega)
  obtain ⟨B, hB, hB2⟩ : ∃ B : Nat, IntKind.wrap .i64 (Int.tdiv (IntKind.wrap .i64 ((a2 % 3) * (n : Int))) 2) = (B : Int) ∧ B ≤ 4096 := by
    have h3 : a2 % 3 = 0 ∨ a2 % 3 = 1 ∨ a2 % 3 = 2 := by omega
    rcases h3 with h3 | h3 | h3 <;> rw [h3]
    · exact ⟨0, by rw [Int.zero_mul]; rfl, by omega⟩
    · refine ⟨n / 2, ?_, by omega⟩
      rw [Int.one_mul, wr (n := (n : Int)) (by omega), Int.tdiv_eq_ediv_of_nonneg (by omega), wr (by omega)]; omega
    · refine ⟨n, ?_, by omega⟩
      rw [wr (n := 2 * (n : Int)) (by omega), Int.tdiv_eq_ediv_of_nonneg (by omega), wr (by omega)]; omega
  obtain ⟨m2, ws2, e2, k2, t2⟩ := levels_fill (t := a) hw (N := μ.next) (Nat.le_refl _) (x := x) (wf64 w2) hn1 hn2 hB2 hB B 0 m1 ws (by omega) k1 t1
  obtain ⟨m3, ws3, e3, k3, t3⟩ := levels_draw hw (N := μ.next) (Nat.le_refl _) (x := x) hn1 (by omega) hx w1 _ 0 m2 ws2 (Nat.zero_add _) k2 t2
  rw [n0] at e2 e3
  obtain ⟨wss, hmp, ⟨hl1, hl2, hl3, hl4⟩, h0⟩ := t3.ex
  obtain ⟨q1, q2, q3⟩ := hl3 ws3 h0
  obtain ⟨y, m4, e4, k4, o4⟩ := mapLevel_is k3.wf hmp h0 (by omega) (by omega)
  rw [n0] at e4
  have t4 := t3.same k4
  have hmp4 := hmp.keep (S := fun _ => False) k4
  obtain ⟨_, _, _, _, _, _, _, _, _, _, _, _, hok⟩ := hmp.level h0
  have e5 := levels_low t4 o4.row hok hn2 n 0 (by omega)
  rw [n0] at e5
  have hlen := o4.row.len
  have c0 : ((0 : Int) != 0) = false := rfl
  have el : (((ws3.length : Nat) : Int) != (IntKind.wrap .i64 (Int.tdiv (IntKind.wrap .i64 ((n : Int) + 63)) 64))) = false := by
    refine ne_f ?_
    rw [wr (n := (n : Int) + 63) (by omega), Int.tdiv_eq_ediv_of_nonneg (by omega), wr (by omega)]; omega
  have hend : ∀ (m : AMem) (z : SV) (us : List Int) (k : Int), IsRow m .u64 z us → us.length = 1 → overdublaw11_MapLevels_L4 [.s x] [.s z, .s (.int .i64 k)] m = some (.exit 6, [.s z], m) := fun m z us k hz hu => by
    rw [overdublaw11_MapLevels_L4_eq, overdublaw11_MapLevels_L4_B_eq]
    simp -implicitDefEqProofs only [hz.len, hu, gt_f (show ((1 : Nat) : Int) ≤ 1 by omega), Option.bind_some, decide_true, decide_false, cond_true, cond_false, seqJ_n, seqJ_r, seqJ_e, headK_c, asB_bool, asI_int, asS_s, asN_int, extrK_0, extrK_1, extrK_2, Bool.not_true, Bool.not_false, Nat.beq_refl]
  obtain ⟨z, us, m5, e6, k5, hz, hu⟩ : ∃ z us m5, overdublaw11_MapLevels_L4 [.s x] [.s y, .s (.int .i64 1)] m4 = some (.exit 6, [.s z], m5) ∧ Same m4 m5 ∧ IsRow m5 .u64 z us ∧ us.length = 1 := by
    by_cases h1 : ws3.length = 1
    · exact ⟨y, ws3, m4, hend m4 y ws3 1 o4.row h1, Keep.refl k4.wf, o4.row, h1⟩
    · have hwl : wss.length = 2 := by omega
      obtain ⟨vs, hvs⟩ : ∃ vs, wss[1]? = some vs := ⟨_, List.getElem?_eq_getElem (by omega)⟩
      obtain ⟨p1, p2⟩ := hl4 0 ws3 vs h0 hvs
      obtain ⟨_, _, _, _, _, _, _, _, _, _, _, _, hok2⟩ := hmp.level hvs
      obtain ⟨z, m5, g1, g2, g3⟩ := mapLevel_is k4.wf hmp4 hvs (by omega) (by omega)
      rw [show ((1 : Nat) : Int) = 1 from rfl] at g1
      have g4 := levels_up (x := x) (k := 1) (o4.row.same g2) g3.row hok2 p1 p2 (by omega) ws3.length 0 (by omega)
      rw [n0] at g4
      refine ⟨z, vs, m5, ?_, g2, g3.row, by omega⟩
      have g5 := hend m5 z vs 2 g3.row (by omega)
      have ev : (((vs.length : Nat) : Int) != (IntKind.wrap .i64 (Int.tdiv (IntKind.wrap .i64 (((ws3.length : Nat) : Int) + 63)) 64))) = false := by
        refine ne_f ?_
        rw [wr (n := (ws3.length : Int) + 63) (by omega), Int.tdiv_eq_ediv_of_nonneg (by omega), wr (by omega)]; omega
      have e12 : IntKind.wrap .i64 ((1 : Int) + 1) = 2 := rfl
      rw [overdublaw11_MapLevels_L4_eq, overdublaw11_MapLevels_L4_B_eq]
      simp -implicitDefEqProofs only [hlen, gt_t (show (1 : Int) < (ws3.length : Int) by omega), g1, g3.row.len, ev, g4, e12, Option.bind_some, decide_true, decide_false, cond_true, cond_false, seqJ_n, seqJ_r, seqJ_e, headK_c, asB_bool, asI_int, asS_s, asN_int, extrK_0, extrK_1, extrK_2, Bool.not_true, Bool.not_false, Nat.beq_refl]
      exact g5
  obtain ⟨mw, w⟩ := wakes_is m5 k5.wf
  refine ⟨mw, ?_⟩
  rw [overdublaw11_MapLevels_eq]
  simp -implicitDefEqProofs only [e0, hn, e1, c0, t1.nn, e2, e3, e4, hlen, el, e5, e6, hz.len, hu, eq_t (show ((1 : Nat) : Int) = 1 from rfl), w, Option.bind_some, decide_true, decide_false, cond_true, cond_false, seqJ_n, seqJ_r, seqJ_e, headK_c, asB_bool, asI_int, asS_s, asN_int, extrK_0, extrK_1, extrK_2, Bool.not_true, Bool.not_false, Nat.beq_refl]
end Go.Proofs.Ytepdjffnjfdklaa
