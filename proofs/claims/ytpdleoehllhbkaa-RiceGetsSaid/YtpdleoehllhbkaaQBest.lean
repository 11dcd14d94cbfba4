/- The best parameter: what the program and the document tell. -/
import Derived.Test.YtpdleoehllhbkaaQRice
import Derived.Test.YtpdleoehllhbkaaKRows
namespace Go.Proofs.Ytpdleoehllhbkaa
open Go Go.Proofs.Ytpdleoehllhbkaa.E
set_option linter.unusedVariables false
set_option linter.unusedSimpArgs false
def sumS (l : List Int) (k : Int) : Nat → Int
  | 0 => 0
  | n + 1 => sumS l k n + sizeZ (l.getD n 0) k
def bestF (l : List Int) : Nat → Nat → Int → Int → Int × Int
  | 0, i, k, s => (k, s)
  | n + 1, i, k, s => if i = 0 ∨ sumS l i l.length < s then bestF l n (i + 1) i (sumS l i l.length) else bestF l n (i + 1) k s
def bestZ (l : List Int) : Int × Int := if l.all (fun z => mayB z 0) then bestF l 25 0 0 0 else (0, 0)
theorem sizeZ_le (z k : Int) : 0 ≤ sizeZ z k ∧ sizeZ z k ≤ 56 := by
  unfold sizeZ
  split
  · rename_i h
    obtain ⟨h1, h2, h3, h4⟩ := mayB_spec h
    have := quo_le h1 k.toNat
    split <;> omega
  · omega
theorem sumS_le (l : List Int) (k : Int) : ∀ n : Nat, 0 ≤ sumS l k n ∧ sumS l k n ≤ 56 * n
  | 0 => by simp [sumS]
  | n + 1 => by
    have := sumS_le l k n
    have := sizeZ_le (l.getD n 0) k
    rw [sumS]; omega
theorem refMayB_is (z k : Int) (μ : AMem) : overdubref01_may [.s (.int .i64 z), .s (.int .i64 k)] μ = some (.s (.bool (mayB z k)), μ) := by
  rw [overdubref01_may_eq]; unfold mayB
  by_cases h1 : z ≥ 0 <;> by_cases h2 : z < 4294967296 <;> by_cases h3 : k ≥ 0 <;> simp [h1, h2, h3]
theorem refSize_is (z k : Int) (μ : AMem) : overdubref01_Size [.s (.int .i64 z), .s (.int .i64 k)] μ = some (.s (.int .i64 (sizeZ z k)), μ) := by
  rw [overdubref01_Size_eq, refMayB_is]; unfold sizeZ
  by_cases h : mayB z k = true
  · obtain ⟨h1, h2, h3, h4⟩ := mayB_spec h
    have hu : IntKind.wrap .u64 k = k := by simp [IntKind.wrap, IntKind.signed, IntKind.bits]; omega
    have hb : min k.toNat (IntKind.bits .i64) = k.toNat := by show min k.toNat 64 = _; omega
    have hk : ¬ k < 0 := by omega
    have hq := quo_le h1 k.toNat
    simp -implicitDefEqProofs only [h, hu, hb, hk, fdiv_pow, if_true, if_false, Option.bind_some, decide_true, decide_false, cond_true, cond_false, seqJ_n, seqJ_r, seqJ_e, headK_c, asB_bool, asI_int, asS_s, asN_int, extrK_0, extrK_1, extrK_2, Bool.not_true, Bool.not_false, Nat.beq_refl]
    by_cases h5 : z / 2 ^ k.toNat < 24
    · simp -implicitDefEqProofs only [h5, if_true, Option.bind_some, decide_true, decide_false, cond_true, cond_false, seqJ_n, seqJ_r, seqJ_e, headK_c, asB_bool, asI_int, asS_s, asN_int, extrK_0, extrK_1, extrK_2, Bool.not_true, Bool.not_false, Nat.beq_refl]
      rw [wr (n := z / 2 ^ k.toNat + 1) (by omega), wr (by omega)]
    · simp -implicitDefEqProofs only [h5, if_false, Option.bind_some, decide_true, decide_false, cond_true, cond_false, seqJ_n, seqJ_r, seqJ_e, headK_c, asB_bool, asI_int, asS_s, asN_int, extrK_0, extrK_1, extrK_2, Bool.not_true, Bool.not_false, Nat.beq_refl]
  · have h' : mayB z k = false := by simpa using h
    simp -implicitDefEqProofs only [h', Bool.false_eq_true, if_false, Option.bind_some, decide_true, decide_false, cond_true, cond_false, seqJ_n, seqJ_r, seqJ_e, headK_c, asB_bool, asI_int, asS_s, asN_int, extrK_0, extrK_1, extrK_2, Bool.not_true, Bool.not_false, Nat.beq_refl]
theorem bestSum_loop {μ : AMem} {x : SV} {l : List Int} {k s : Int} {i : Int} (hx : IsRow μ .i64 x l) (hb : l.length ≤ 1000000) :
    ∀ n j : Nat, j + n = l.length → rice_Best_L3 [.s x, .s (.int .i64 k), .s (.int .i64 s), .s (.int .i64 i), .s (.int .i64 i), .s x, .s (.int .i64 l.length)] [.s (.int .i64 (sumS l i j)), .s (.int .i64 j)] μ = some (.exit 4, [.s x, .s (.int .i64 k), .s (.int .i64 s), .s (.int .i64 i), .s (.int .i64 (sumS l i l.length)), .s (.int .i64 i)], μ)
  | 0, j, h => by
    obtain rfl : j = l.length := by omega
    rw [rice_Best_L3_eq, rice_Best_L3_B_eq]
    simp -implicitDefEqProofs (disch := omega) only [lt_t, lt_f, gt_t, gt_f, le_t, le_f, ge_t, ge_f, ne_t, ne_f, eq_t, eq_f, w64, chk_true, Option.bind_some, decide_true, decide_false, cond_true, cond_false, seqJ_n, seqJ_r, seqJ_e, headK_c, asB_bool, asI_int, asS_s, asN_int, extrK_0, extrK_1, extrK_2, Bool.not_true, Bool.not_false, Nat.beq_refl]
  | n + 1, j, h => by
    have ih := bestSum_loop (k := k) (s := s) (i := i) hx hb n (j + 1) (by omega)
    rw [nsu] at ih
    have h1 := sumS_le l i j
    have h2 := sizeZ_le (l.getD j 0) i
    rw [rice_Best_L3_eq, rice_Best_L3_B_eq]
    simp -implicitDefEqProofs (disch := omega) only [lt_t, lt_f, gt_t, gt_f, le_t, le_f, ge_t, ge_f, ne_t, ne_f, eq_t, eq_f, w64, chk_true, Option.bind_some, decide_true, decide_false, cond_true, cond_false, seqJ_n, seqJ_r, seqJ_e, headK_c, asB_bool, asI_int, asS_s, asN_int, extrK_0, extrK_1, extrK_2, Bool.not_true, Bool.not_false, Nat.beq_refl, hx.ind, hx.load, nat_toNat, size_is]
    exact ih
theorem bestMay_loop {μ : AMem} {x : SV} {l : List Int} {k s : Int} (hx : IsRow μ .i64 x l) (hb : l.length ≤ 1000000) :
    ∀ n j : Nat, j + n = l.length → rice_Best_L1 [.s x, .s x, .s (.int .i64 l.length)] [.s (.int .i64 k), .s (.int .i64 s), .s (.int .i64 j)] μ = if (l.drop j).all (fun z => mayB z 0) then some (.exit 0, [.s x, .s (.int .i64 k), .s (.int .i64 s)], μ) else some (.ret, [.s (.int .i64 0), .s (.int .i64 0)], μ)
  | 0, j, h => by
    rw [rice_Best_L1_eq, rice_Best_L1_B_eq, List.drop_eq_nil_of_le (by omega)]
    simp -implicitDefEqProofs (disch := omega) only [lt_t, lt_f, gt_t, gt_f, le_t, le_f, ge_t, ge_f, ne_t, ne_f, eq_t, eq_f, w64, chk_true, Option.bind_some, decide_true, decide_false, cond_true, cond_false, seqJ_n, seqJ_r, seqJ_e, headK_c, asB_bool, asI_int, asS_s, asN_int, extrK_0, extrK_1, extrK_2, Bool.not_true, Bool.not_false, Nat.beq_refl, List.all_nil, if_true]
  | n + 1, j, h => by
    have ih := bestMay_loop (k := k) (s := s) hx hb n (j + 1) (by omega)
    rw [nsu] at ih
    rw [rice_Best_L1_eq, rice_Best_L1_B_eq, drop_cons (i := j) (by omega)]
    cases hm : mayB (l.getD j 0) 0
    · simp -implicitDefEqProofs (disch := omega) only [lt_t, lt_f, gt_t, gt_f, le_t, le_f, ge_t, ge_f, ne_t, ne_f, eq_t, eq_f, w64, chk_true, Option.bind_some, decide_true, decide_false, cond_true, cond_false, seqJ_n, seqJ_r, seqJ_e, headK_c, asB_bool, asI_int, asS_s, asN_int, extrK_0, extrK_1, extrK_2, Bool.not_true, Bool.not_false, Nat.beq_refl, hx.ind, hx.load, nat_toNat, may_is, hm, List.all_cons, Bool.false_and, Bool.false_eq_true, if_false]
    · simp -implicitDefEqProofs (disch := omega) only [lt_t, lt_f, gt_t, gt_f, le_t, le_f, ge_t, ge_f, ne_t, ne_f, eq_t, eq_f, w64, chk_true, Option.bind_some, decide_true, decide_false, cond_true, cond_false, seqJ_n, seqJ_r, seqJ_e, headK_c, asB_bool, asI_int, asS_s, asN_int, extrK_0, extrK_1, extrK_2, Bool.not_true, Bool.not_false, Nat.beq_refl, hx.ind, hx.load, nat_toNat, may_is, hm, List.all_cons, Bool.true_and]
      exact ih
theorem best_loop {μ : AMem} {x : SV} {l : List Int} (hx : IsRow μ .i64 x l) (hb : l.length ≤ 1000000) :
    ∀ (n i : Nat) (k s : Int), i + n = 25 → rice_Best_L2 [.s x] [.s (.int .i64 k), .s (.int .i64 s), .s (.int .i64 i)] μ = some (.exit 2, [.s (.int .i64 (bestF l n i k s).1), .s (.int .i64 (bestF l n i k s).2)], μ)
  | 0, i, k, s, h => by
    obtain rfl : i = 25 := by omega
    rw [rice_Best_L2_eq, rice_Best_L2_B_eq]
    rfl
  | n + 1, i, k, s, h => by
    have hsum := bestSum_loop (k := k) (s := s) (i := (i : Int)) hx hb _ 0 (Nat.zero_add _)
    rw [n0, show sumS l (i : Int) 0 = 0 from rfl] at hsum
    rw [rice_Best_L2_eq, rice_Best_L2_B_eq, bestF]
    by_cases c1 : i = 0
    · subst c1
      rw [if_pos (Or.inl rfl)]
      have ih := best_loop hx hb n 1 ((0 : Nat) : Int) (sumS l ((0 : Nat) : Int) l.length) (by omega)
      rw [show ((1 : Nat) : Int) = (((0 : Nat) : Int) + 1) from rfl] at ih
      simp -implicitDefEqProofs (disch := omega) only [lt_t, lt_f, gt_t, gt_f, le_t, le_f, ge_t, ge_f, ne_t, ne_f, eq_t, eq_f, w64, chk_true, Option.bind_some, decide_true, decide_false, cond_true, cond_false, seqJ_n, seqJ_r, seqJ_e, headK_c, asB_bool, asI_int, asS_s, asN_int, extrK_0, extrK_1, extrK_2, Bool.not_true, Bool.not_false, Nat.beq_refl, hx.len, hsum]
      exact ih
    · by_cases c2 : sumS l (i : Int) l.length < s
      · rw [if_pos (Or.inr c2)]
        have ih := best_loop hx hb n (i + 1) (i : Int) (sumS l (i : Int) l.length) (by omega)
        rw [nsu] at ih
        simp -implicitDefEqProofs (disch := omega) only [lt_t, lt_f, gt_t, gt_f, le_t, le_f, ge_t, ge_f, ne_t, ne_f, eq_t, eq_f, w64, chk_true, Option.bind_some, decide_true, decide_false, cond_true, cond_false, seqJ_n, seqJ_r, seqJ_e, headK_c, asB_bool, asI_int, asS_s, asN_int, extrK_0, extrK_1, extrK_2, Bool.not_true, Bool.not_false, Nat.beq_refl, hx.len, hsum]
        exact ih
      · rw [if_neg (by omega)]
        have ih := best_loop hx hb n (i + 1) k s (by omega)
        rw [nsu] at ih
        simp -implicitDefEqProofs (disch := omega) only [lt_t, lt_f, gt_t, gt_f, le_t, le_f, ge_t, ge_f, ne_t, ne_f, eq_t, eq_f, w64, chk_true, Option.bind_some, decide_true, decide_false, cond_true, cond_false, seqJ_n, seqJ_r, seqJ_e, headK_c, asB_bool, asI_int, asS_s, asN_int, extrK_0, extrK_1, extrK_2, Bool.not_true, Bool.not_false, Nat.beq_refl, hx.len, hsum]
        exact ih
theorem best_is {μ : AMem} {x : SV} {l : List Int} (hx : IsRow μ .i64 x l) (hb : l.length ≤ 1000000) : rice_Best [.s x] μ = some (.tuple [.s (.int .i64 (bestZ l).1), .s (.int .i64 (bestZ l).2)], μ) := by
  have h1 := bestMay_loop (k := 0) (s := 0) hx hb _ 0 (Nat.zero_add _)
  rw [n0, List.drop_zero] at h1
  have h2 := best_loop hx hb 25 0 0 0 rfl
  rw [n0] at h2
  rw [rice_Best_eq, hx.len]
  unfold bestZ
  cases hall : l.all (fun z => mayB z 0)
  · rw [hall] at h1
    simp only [Bool.false_eq_true, if_false] at h1 ⊢
    simp -implicitDefEqProofs (disch := omega) only [lt_t, lt_f, gt_t, gt_f, le_t, le_f, ge_t, ge_f, ne_t, ne_f, eq_t, eq_f, w64, chk_true, Option.bind_some, decide_true, decide_false, cond_true, cond_false, seqJ_n, seqJ_r, seqJ_e, headK_c, asB_bool, asI_int, asS_s, asN_int, extrK_0, extrK_1, extrK_2, Bool.not_true, Bool.not_false, Nat.beq_refl, h1]
  · rw [hall] at h1
    simp only [if_true] at h1 ⊢
    simp -implicitDefEqProofs (disch := omega) only [lt_t, lt_f, gt_t, gt_f, le_t, le_f, ge_t, ge_f, ne_t, ne_f, eq_t, eq_f, w64, chk_true, Option.bind_some, decide_true, decide_false, cond_true, cond_false, seqJ_n, seqJ_r, seqJ_e, headK_c, asB_bool, asI_int, asS_s, asN_int, extrK_0, extrK_1, extrK_2, Bool.not_true, Bool.not_false, Nat.beq_refl, h1, h2]
theorem refBestSum_loop {μ : AMem} {x : SV} {l : List Int} {k s : Int} {i : Int} (hx : IsRow μ .i64 x l) (hb : l.length ≤ 1000000) :
    ∀ n j : Nat, j + n = l.length → overdubref01_Best_L3 [.s x, .s (.int .i64 k), .s (.int .i64 s), .s (.int .i64 i), .s (.int .i64 l.length)] [.s (.int .i64 (sumS l i j)), .s (.int .i64 j)] μ = some (.exit 4, [.s x, .s (.int .i64 k), .s (.int .i64 s), .s (.int .i64 i), .s (.int .i64 (sumS l i l.length))], μ)
  | 0, j, h => by
    obtain rfl : j = l.length := by omega
    rw [overdubref01_Best_L3_eq, overdubref01_Best_L3_B_eq]
    simp -implicitDefEqProofs (disch := omega) only [lt_t, lt_f, gt_t, gt_f, le_t, le_f, ge_t, ge_f, ne_t, ne_f, eq_t, eq_f, w64, chk_true, Option.bind_some, decide_true, decide_false, cond_true, cond_false, seqJ_n, seqJ_r, seqJ_e, headK_c, asB_bool, asI_int, asS_s, asN_int, extrK_0, extrK_1, extrK_2, Bool.not_true, Bool.not_false, Nat.beq_refl]
  | n + 1, j, h => by
    have ih := refBestSum_loop (k := k) (s := s) (i := i) hx hb n (j + 1) (by omega)
    rw [nsu] at ih
    have h1 := sumS_le l i j
    have h2 := sizeZ_le (l.getD j 0) i
    rw [overdubref01_Best_L3_eq, overdubref01_Best_L3_B_eq]
    simp -implicitDefEqProofs (disch := omega) only [lt_t, lt_f, gt_t, gt_f, le_t, le_f, ge_t, ge_f, ne_t, ne_f, eq_t, eq_f, w64, chk_true, Option.bind_some, decide_true, decide_false, cond_true, cond_false, seqJ_n, seqJ_r, seqJ_e, headK_c, asB_bool, asI_int, asS_s, asN_int, extrK_0, extrK_1, extrK_2, Bool.not_true, Bool.not_false, Nat.beq_refl, hx.ind, hx.load, nat_toNat, refSize_is]
    exact ih
theorem refBestMay_loop {μ : AMem} {x : SV} {l : List Int} {k s : Int} (hx : IsRow μ .i64 x l) (hb : l.length ≤ 1000000) :
    ∀ n j : Nat, j + n = l.length → overdubref01_Best_L1 [.s x, .s (.int .i64 l.length)] [.s (.int .i64 j)] μ = if (l.drop j).all (fun z => mayB z 0) then some (.exit 0, [.s x], μ) else some (.ret, [.s (.int .i64 0), .s (.int .i64 0)], μ)
  | 0, j, h => by
    rw [overdubref01_Best_L1_eq, overdubref01_Best_L1_B_eq, List.drop_eq_nil_of_le (by omega)]
    simp -implicitDefEqProofs (disch := omega) only [lt_t, lt_f, gt_t, gt_f, le_t, le_f, ge_t, ge_f, ne_t, ne_f, eq_t, eq_f, w64, chk_true, Option.bind_some, decide_true, decide_false, cond_true, cond_false, seqJ_n, seqJ_r, seqJ_e, headK_c, asB_bool, asI_int, asS_s, asN_int, extrK_0, extrK_1, extrK_2, Bool.not_true, Bool.not_false, Nat.beq_refl, List.all_nil, if_true]
  | n + 1, j, h => by
    have ih := refBestMay_loop (k := k) (s := s) hx hb n (j + 1) (by omega)
    rw [nsu] at ih
    rw [overdubref01_Best_L1_eq, overdubref01_Best_L1_B_eq, drop_cons (i := j) (by omega)]
    cases hm : mayB (l.getD j 0) 0
    · simp -implicitDefEqProofs (disch := omega) only [lt_t, lt_f, gt_t, gt_f, le_t, le_f, ge_t, ge_f, ne_t, ne_f, eq_t, eq_f, w64, chk_true, Option.bind_some, decide_true, decide_false, cond_true, cond_false, seqJ_n, seqJ_r, seqJ_e, headK_c, asB_bool, asI_int, asS_s, asN_int, extrK_0, extrK_1, extrK_2, Bool.not_true, Bool.not_false, Nat.beq_refl, hx.ind, hx.load, nat_toNat, refMayB_is, hm, List.all_cons, Bool.false_and, Bool.false_eq_true, if_false]
    · simp -implicitDefEqProofs (disch := omega) only [lt_t, lt_f, gt_t, gt_f, le_t, le_f, ge_t, ge_f, ne_t, ne_f, eq_t, eq_f, w64, chk_true, Option.bind_some, decide_true, decide_false, cond_true, cond_false, seqJ_n, seqJ_r, seqJ_e, headK_c, asB_bool, asI_int, asS_s, asN_int, extrK_0, extrK_1, extrK_2, Bool.not_true, Bool.not_false, Nat.beq_refl, hx.ind, hx.load, nat_toNat, refMayB_is, hm, List.all_cons, Bool.true_and]
      exact ih
theorem refBest_loop {μ : AMem} {x : SV} {l : List Int} (hx : IsRow μ .i64 x l) (hb : l.length ≤ 1000000) :
    ∀ (n i : Nat) (k s : Int), i + n = 25 → overdubref01_Best_L2 [.s x] [.s (.int .i64 k), .s (.int .i64 s), .s (.int .i64 i)] μ = some (.exit 2, [.s (.int .i64 (bestF l n i k s).1), .s (.int .i64 (bestF l n i k s).2)], μ)
  | 0, i, k, s, h => by
    obtain rfl : i = 25 := by omega
    rw [overdubref01_Best_L2_eq, overdubref01_Best_L2_B_eq]
    rfl
  | n + 1, i, k, s, h => by
    have hsum := refBestSum_loop (k := k) (s := s) (i := (i : Int)) hx hb _ 0 (Nat.zero_add _)
    rw [n0, show sumS l (i : Int) 0 = 0 from rfl] at hsum
    rw [overdubref01_Best_L2_eq, overdubref01_Best_L2_B_eq, bestF]
    by_cases c1 : i = 0
    · subst c1
      rw [if_pos (Or.inl rfl)]
      have ih := refBest_loop hx hb n 1 ((0 : Nat) : Int) (sumS l ((0 : Nat) : Int) l.length) (by omega)
      rw [show ((1 : Nat) : Int) = (((0 : Nat) : Int) + 1) from rfl] at ih
      simp -implicitDefEqProofs (disch := omega) only [lt_t, lt_f, gt_t, gt_f, le_t, le_f, ge_t, ge_f, ne_t, ne_f, eq_t, eq_f, w64, chk_true, Option.bind_some, decide_true, decide_false, cond_true, cond_false, seqJ_n, seqJ_r, seqJ_e, headK_c, asB_bool, asI_int, asS_s, asN_int, extrK_0, extrK_1, extrK_2, Bool.not_true, Bool.not_false, Nat.beq_refl, hx.len, hsum]
      exact ih
    · by_cases c2 : sumS l (i : Int) l.length < s
      · rw [if_pos (Or.inr c2)]
        have ih := refBest_loop hx hb n (i + 1) (i : Int) (sumS l (i : Int) l.length) (by omega)
        rw [nsu] at ih
        simp -implicitDefEqProofs (disch := omega) only [lt_t, lt_f, gt_t, gt_f, le_t, le_f, ge_t, ge_f, ne_t, ne_f, eq_t, eq_f, w64, chk_true, Option.bind_some, decide_true, decide_false, cond_true, cond_false, seqJ_n, seqJ_r, seqJ_e, headK_c, asB_bool, asI_int, asS_s, asN_int, extrK_0, extrK_1, extrK_2, Bool.not_true, Bool.not_false, Nat.beq_refl, hx.len, hsum]
        exact ih
      · rw [if_neg (by omega)]
        have ih := refBest_loop hx hb n (i + 1) k s (by omega)
        rw [nsu] at ih
        simp -implicitDefEqProofs (disch := omega) only [lt_t, lt_f, gt_t, gt_f, le_t, le_f, ge_t, ge_f, ne_t, ne_f, eq_t, eq_f, w64, chk_true, Option.bind_some, decide_true, decide_false, cond_true, cond_false, seqJ_n, seqJ_r, seqJ_e, headK_c, asB_bool, asI_int, asS_s, asN_int, extrK_0, extrK_1, extrK_2, Bool.not_true, Bool.not_false, Nat.beq_refl, hx.len, hsum]
        exact ih
theorem refBest_is {μ : AMem} {x : SV} {l : List Int} (hx : IsRow μ .i64 x l) (hb : l.length ≤ 1000000) : overdubref01_Best [.s x] μ = some (.tuple [.s (.int .i64 (bestZ l).1), .s (.int .i64 (bestZ l).2)], μ) := by
  have h1 := refBestMay_loop (k := 0) (s := 0) hx hb _ 0 (Nat.zero_add _)
  rw [n0, List.drop_zero] at h1
  have h2 := refBest_loop hx hb 25 0 0 0 rfl
  rw [n0] at h2
  rw [overdubref01_Best_eq, hx.len]
  unfold bestZ
  cases hall : l.all (fun z => mayB z 0)
  · rw [hall] at h1
    simp only [Bool.false_eq_true, if_false] at h1 ⊢
    simp -implicitDefEqProofs (disch := omega) only [lt_t, lt_f, gt_t, gt_f, le_t, le_f, ge_t, ge_f, ne_t, ne_f, eq_t, eq_f, w64, chk_true, Option.bind_some, decide_true, decide_false, cond_true, cond_false, seqJ_n, seqJ_r, seqJ_e, headK_c, asB_bool, asI_int, asS_s, asN_int, extrK_0, extrK_1, extrK_2, Bool.not_true, Bool.not_false, Nat.beq_refl, h1]
  · rw [hall] at h1
    simp only [if_true] at h1 ⊢
    simp -implicitDefEqProofs (disch := omega) only [lt_t, lt_f, gt_t, gt_f, le_t, le_f, ge_t, ge_f, ne_t, ne_f, eq_t, eq_f, w64, chk_true, Option.bind_some, decide_true, decide_false, cond_true, cond_false, seqJ_n, seqJ_r, seqJ_e, headK_c, asB_bool, asI_int, asS_s, asN_int, extrK_0, extrK_1, extrK_2, Bool.not_true, Bool.not_false, Nat.beq_refl, h1, h2]
theorem bestF_spec (l : List Int) : ∀ (n i : Nat) (k s : Int), i + n = 25 → 1 ≤ i → (0 ≤ k ∧ k < i ∧ s = sumS l k l.length ∧ ∀ p : Nat, p < i → s ≤ sumS l p l.length ∧ (s = sumS l p l.length → k ≤ p)) →
      0 ≤ (bestF l n i k s).1 ∧ (bestF l n i k s).1 < 25 ∧ (bestF l n i k s).2 = sumS l (bestF l n i k s).1 l.length ∧ ∀ p : Nat, p < 25 → (bestF l n i k s).2 ≤ sumS l p l.length ∧ ((bestF l n i k s).2 = sumS l p l.length → (bestF l n i k s).1 ≤ p)
  | 0, i, k, s, h, h1, ⟨a, b, c, d⟩ => by
    obtain rfl : i = 25 := by omega
    exact ⟨a, b, c, d⟩
  | n + 1, i, k, s, h, h1, ⟨a, b, c, d⟩ => by
    rw [bestF]
    by_cases hc : sumS l i l.length < s
    · rw [if_pos (Or.inr hc)]
      refine bestF_spec l n (i + 1) i _ (by omega) (by omega) ⟨by omega, by omega, rfl, fun p hp => ?_⟩
      by_cases hpi : p = i
      · subst hpi; exact ⟨by omega, fun _ => by omega⟩
      · have := d p (by omega)
        exact ⟨by omega, fun h => by omega⟩
    · rw [if_neg (by omega)]
      refine bestF_spec l n (i + 1) k s (by omega) (by omega) ⟨a, by omega, c, fun p hp => ?_⟩
      by_cases hpi : p = i
      · subst hpi; exact ⟨by omega, fun _ => by omega⟩
      · exact d p (by omega)
theorem bestZ_spec {l : List Int} (h : l.all (fun z => mayB z 0) = true) : 0 ≤ (bestZ l).1 ∧ (bestZ l).1 < 25 ∧ (bestZ l).2 = sumS l (bestZ l).1 l.length ∧ ∀ p : Nat, p < 25 → (bestZ l).2 ≤ sumS l p l.length ∧ ((bestZ l).2 = sumS l p l.length → (bestZ l).1 ≤ p) := by
  unfold bestZ
  rw [if_pos h, bestF, if_pos (Or.inl rfl)]
  refine bestF_spec l 24 1 _ _ rfl (by omega) ⟨by omega, by omega, rfl, fun p hp => ?_⟩
  obtain rfl : p = 0 := by omega
  exact ⟨Int.le_refl _, fun _ => Int.le_refl _⟩
end Go.Proofs.Ytpdleoehllhbkaa
