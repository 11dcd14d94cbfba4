/- Zig, Zag, Size: what they come to. -/
import Derived.Test.YtpdleoehllhbkaaKWithin
namespace Go.Proofs.Ytpdleoehllhbkaa
open Go Go.Proofs.Ytpdleoehllhbkaa.E
set_option linter.unusedVariables false
set_option linter.unusedSimpArgs false
def zigZ (n : Int) : Int := if n < -1099511627776 ∨ n ≥ 1099511627776 then 0 else if n < 0 then -2 * n - 1 else 2 * n
def zagZ (z : Int) : Int := if z < 0 ∨ z ≥ 2199023255552 then 0 else if z % 2 = 1 then -((z + 1) / 2) else z / 2
def mayB (z k : Int) : Bool := decide (0 ≤ z) && decide (z < 4294967296) && decide (0 ≤ k) && decide (k ≤ 24)
def sizeZ (z k : Int) : Int := if mayB z k then (if z / 2 ^ k.toNat < 24 then z / 2 ^ k.toNat + 1 + k else 56) else 0
theorem zig_is (n : Int) (μ : AMem) : rice_Zig [.s (.int .i64 n)] μ = some (.s (.int .i64 (zigZ n)), μ) := by
  rw [rice_Zig_eq]; unfold zigZ
  by_cases h1 : n < -1099511627776
  · simp only [h1, true_or, if_true, Option.bind_some, decide_true, decide_false, cond_true, cond_false, seqJ_n, seqJ_r, seqJ_e, headK_c, asB_bool, asI_int, asS_s, asN_int, Bool.not_true, Bool.not_false, Nat.beq_refl]
  · by_cases h2 : n ≥ 1099511627776
    · simp only [h1, h2, or_true, if_true, Option.bind_some, decide_true, decide_false, cond_true, cond_false, seqJ_n, seqJ_r, seqJ_e, headK_c, asB_bool, asI_int, asS_s, asN_int, Bool.not_true, Bool.not_false, Nat.beq_refl]
    · by_cases h3 : n < 0
      · simp only [h1, h2, h3, or_false, if_true, if_false, Option.bind_some, decide_true, decide_false, cond_true, cond_false, seqJ_n, seqJ_r, seqJ_e, headK_c, asB_bool, asI_int, asS_s, asN_int, Bool.not_true, Bool.not_false, Nat.beq_refl]
        rw [wr (n := -2 * n) (by omega), wr (by omega)]
      · simp only [h1, h2, h3, or_false, if_true, if_false, Option.bind_some, decide_true, decide_false, cond_true, cond_false, seqJ_n, seqJ_r, seqJ_e, headK_c, asB_bool, asI_int, asS_s, asN_int, Bool.not_true, Bool.not_false, Nat.beq_refl]
        rw [wr (by omega)]
theorem refZig_is (n : Int) (μ : AMem) : overdubref01_Zig [.s (.int .i64 n)] μ = some (.s (.int .i64 (zigZ n)), μ) := by
  rw [overdubref01_Zig_eq]; unfold zigZ
  by_cases h1 : n < -1099511627776
  · simp only [h1, true_or, if_true, Option.bind_some, decide_true, decide_false, cond_true, cond_false, seqJ_n, seqJ_r, seqJ_e, headK_c, asB_bool, asI_int, asS_s, asN_int, Bool.not_true, Bool.not_false, Nat.beq_refl]
  · by_cases h2 : n ≥ 1099511627776
    · simp only [h1, h2, or_true, if_true, Option.bind_some, decide_true, decide_false, cond_true, cond_false, seqJ_n, seqJ_r, seqJ_e, headK_c, asB_bool, asI_int, asS_s, asN_int, Bool.not_true, Bool.not_false, Nat.beq_refl]
    · by_cases h3 : n < 0
      · simp only [h1, h2, h3, or_false, if_true, if_false, Option.bind_some, decide_true, decide_false, cond_true, cond_false, seqJ_n, seqJ_r, seqJ_e, headK_c, asB_bool, asI_int, asS_s, asN_int, Bool.not_true, Bool.not_false, Nat.beq_refl]
        rw [wr (n := -2 * n) (by omega), wr (by omega)]
      · simp only [h1, h2, h3, or_false, if_true, if_false, Option.bind_some, decide_true, decide_false, cond_true, cond_false, seqJ_n, seqJ_r, seqJ_e, headK_c, asB_bool, asI_int, asS_s, asN_int, Bool.not_true, Bool.not_false, Nat.beq_refl]
        rw [wr (by omega)]
theorem tmod2 {z : Int} (h : 0 ≤ z) : Int.tmod z 2 = z % 2 := Int.tmod_eq_emod_of_nonneg h
theorem tdiv_neg2 {z : Int} (h : 0 ≤ z) (ho : z % 2 = 1) : Int.tdiv (0 - (z + 1)) 2 = -((z + 1) / 2) := by
  rw [Int.zero_sub, Int.neg_tdiv, Int.tdiv_eq_ediv_of_nonneg (by omega)]
theorem zag_is (z : Int) (μ : AMem) : rice_Zag [.s (.int .i64 z)] μ = some (.s (.int .i64 (zagZ z)), μ) := by
  rw [rice_Zag_eq]; unfold zagZ
  by_cases h1 : z < 0
  · simp only [h1, true_or, if_true, Option.bind_some, decide_true, decide_false, cond_true, cond_false, seqJ_n, seqJ_r, seqJ_e, headK_c, asB_bool, asI_int, asS_s, asN_int, Bool.not_true, Bool.not_false, Nat.beq_refl]
  · by_cases h2 : z ≥ 2199023255552
    · simp only [h1, h2, or_true, if_true, Option.bind_some, decide_true, decide_false, cond_true, cond_false, seqJ_n, seqJ_r, seqJ_e, headK_c, asB_bool, asI_int, asS_s, asN_int, Bool.not_true, Bool.not_false, Nat.beq_refl]
    · by_cases h3 : z % 2 = 1
      · simp only [h1, h2, h3, or_false, if_true, if_false, tmod2 (show 0 ≤ z by omega), beq_self_eq_true, Option.bind_some, decide_true, decide_false, cond_true, cond_false, seqJ_n, seqJ_r, seqJ_e, headK_c, asB_bool, asI_int, asS_s, asN_int, Bool.not_true, Bool.not_false, Nat.beq_refl]
        rw [wr (n := z + 1) (by omega), wr (n := 0 - (z + 1)) (by omega), tdiv_neg2 (by omega) h3, wr (by omega)]
      · have : (z % 2 == 1) = false := by simp [h3]
        simp only [h1, h2, h3, this, or_false, if_true, if_false, tmod2 (show 0 ≤ z by omega), Option.bind_some, decide_true, decide_false, cond_true, cond_false, seqJ_n, seqJ_r, seqJ_e, headK_c, asB_bool, asI_int, asS_s, asN_int, Bool.not_true, Bool.not_false, Nat.beq_refl]
        rw [Int.tdiv_eq_ediv_of_nonneg (by omega), wr (by omega)]
theorem refZag_is (z : Int) (μ : AMem) : overdubref01_Zag [.s (.int .i64 z)] μ = some (.s (.int .i64 (zagZ z)), μ) := by
  rw [overdubref01_Zag_eq]; unfold zagZ
  by_cases h1 : z < 0
  · simp only [h1, true_or, if_true, Option.bind_some, decide_true, decide_false, cond_true, cond_false, seqJ_n, seqJ_r, seqJ_e, headK_c, asB_bool, asI_int, asS_s, asN_int, Bool.not_true, Bool.not_false, Nat.beq_refl]
  · by_cases h2 : z ≥ 2199023255552
    · simp only [h1, h2, or_true, if_true, Option.bind_some, decide_true, decide_false, cond_true, cond_false, seqJ_n, seqJ_r, seqJ_e, headK_c, asB_bool, asI_int, asS_s, asN_int, Bool.not_true, Bool.not_false, Nat.beq_refl]
    · by_cases h3 : z % 2 = 1
      · simp only [h1, h2, h3, or_false, if_true, if_false, tmod2 (show 0 ≤ z by omega), beq_self_eq_true, Option.bind_some, decide_true, decide_false, cond_true, cond_false, seqJ_n, seqJ_r, seqJ_e, headK_c, asB_bool, asI_int, asS_s, asN_int, Bool.not_true, Bool.not_false, Nat.beq_refl]
        rw [wr (n := z + 1) (by omega), wr (n := 0 - (z + 1)) (by omega), tdiv_neg2 (by omega) h3, wr (by omega)]
      · have : (z % 2 == 1) = false := by simp [h3]
        simp only [h1, h2, h3, this, or_false, if_true, if_false, tmod2 (show 0 ≤ z by omega), Option.bind_some, decide_true, decide_false, cond_true, cond_false, seqJ_n, seqJ_r, seqJ_e, headK_c, asB_bool, asI_int, asS_s, asN_int, Bool.not_true, Bool.not_false, Nat.beq_refl]
        rw [Int.tdiv_eq_ediv_of_nonneg (by omega), wr (by omega)]
theorem may_is (z k : Int) (μ : AMem) : rice_may [.s (.int .i64 z), .s (.int .i64 k)] μ = some (.s (.bool (mayB z k)), μ) := by
  rw [rice_may_eq]; unfold mayB
  by_cases h1 : z ≥ 0 <;> by_cases h2 : z < 4294967296 <;> by_cases h3 : k ≥ 0 <;> simp [h1, h2, h3]
theorem quo_le {z : Int} (h : 0 ≤ z) (n : Nat) : 0 ≤ z / 2 ^ n ∧ z / 2 ^ n ≤ z := ⟨Int.ediv_nonneg h (Int.le_of_lt (Int.pow_pos (by omega))), Int.ediv_le_self _ h⟩
theorem fdiv_pow (z : Int) (n : Nat) : Int.fdiv z (2 ^ n) = z / 2 ^ n := Int.fdiv_eq_ediv_of_nonneg _ (Int.le_of_lt (Int.pow_pos (by omega)))
theorem mayB_spec {z k : Int} (h : mayB z k = true) : 0 ≤ z ∧ z < 4294967296 ∧ 0 ≤ k ∧ k ≤ 24 := by
  simp [mayB] at h; omega
theorem size_is (z k : Int) (μ : AMem) : rice_Size [.s (.int .i64 z), .s (.int .i64 k)] μ = some (.s (.int .i64 (sizeZ z k)), μ) := by
  rw [rice_Size_eq, may_is]; unfold sizeZ
  by_cases h : mayB z k = true
  · obtain ⟨h1, h2, h3, h4⟩ := mayB_spec h
    have hb : min k.toNat (IntKind.bits .i64) = k.toNat := by show min k.toNat 64 = _; omega
    have hk : ¬ k < 0 := by omega
    have hq := quo_le h1 k.toNat
    simp only [h, hb, hk, fdiv_pow, if_true, if_false, Option.bind_some, decide_true, decide_false, cond_true, cond_false, seqJ_n, seqJ_r, seqJ_e, headK_c, asB_bool, asI_int, asS_s, asN_int, Bool.not_true, Bool.not_false, Nat.beq_refl]
    by_cases h5 : z / 2 ^ k.toNat < 24
    · simp only [h5, if_true, Option.bind_some, decide_true, decide_false, cond_true, cond_false, seqJ_n, seqJ_r, seqJ_e, headK_c, asB_bool, asI_int, asS_s, asN_int, Bool.not_true, Bool.not_false, Nat.beq_refl]
      rw [wr (n := z / 2 ^ k.toNat + 1) (by omega), wr (by omega)]
    · simp only [h5, if_false, Option.bind_some, decide_true, decide_false, cond_true, cond_false, seqJ_n, seqJ_r, seqJ_e, headK_c, asB_bool, asI_int, asS_s, asN_int, Bool.not_true, Bool.not_false, Nat.beq_refl]
  · have h' : mayB z k = false := by simpa using h
    simp only [h', Bool.false_eq_true, if_false, Option.bind_some, decide_true, decide_false, cond_true, cond_false, seqJ_n, seqJ_r, seqJ_e, headK_c, asB_bool, asI_int, asS_s, asN_int, Bool.not_true, Bool.not_false, Nat.beq_refl]
end Go.Proofs.Ytpdleoehllhbkaa
