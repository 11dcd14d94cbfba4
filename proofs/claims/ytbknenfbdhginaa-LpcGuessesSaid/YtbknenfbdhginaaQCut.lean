/- Cut of a row; the reference's rounding down and its guess. -/
import Derived.Test.YtbknenfbdhginaaQGuess
namespace Go.Proofs.Ytbknenfbdhginaa
open Go Go.Proofs.Ytbknenfbdhginaa.E
set_option linter.unusedVariables false
set_option linter.unusedSimpArgs false
theorem cutN_is {μ : AMem} {x : SV} {zs : List Int} (h : IsRow μ .i64 x zs) (n : Nat) :
    ∃ y, overdubkeep_Cut_int [.s x, .s (.int .i64 n)] μ = some (.s y, μ) ∧ IsRow μ .i64 y (zs.take n) := by
  rw [overdubkeep_Cut_int_eq, h.len]
  simp only [Option.bind_some]
  have e : (if ((n : Nat) : Int) < ((zs.length : Nat) : Int) then ((n : Nat) : Int) else ((zs.length : Nat) : Int)) = ((min n zs.length : Nat) : Int) := by split <;> omega
  rw [e, h.cut (by omega) (by omega) (by omega)]
  refine ⟨_, rfl, ?_⟩
  have := h.cutRow (a := 0) (b := ((min n zs.length : Nat) : Int)) (by omega) (by omega) (by omega)
  have e2 : (zs.take (((min n zs.length : Nat) : Int)).toNat).drop (0 : Int).toNat = zs.take n := by
    simp only [Int.toNat_zero, List.drop_zero]
    rw [show (((min n zs.length : Nat) : Int)).toNat = min n zs.length by omega]
    rcases Nat.le_total n zs.length with hl | hl
    · rw [Nat.min_eq_left hl]
    · rw [Nat.min_eq_right hl, List.take_of_length_le (Nat.le_refl _), List.take_of_length_le hl]
  rw [e2] at this
  exact this
theorem down_is (a b : Int) (hb : 1 ≤ b) (ha : -4611686018427387904 ≤ a ∧ a ≤ 4611686018427387904) (μ : AMem) :
    overdubref05_down [.s (.int .i64 a), .s (.int .i64 b)] μ = some (.s (.int .i64 (a / b)), μ) := by
  rw [overdubref05_down_eq]
  have h2 : ¬ b = 0 := by omega
  have hd := Int.mul_ediv_add_emod a b
  have hlt := Int.emod_lt_of_pos a (show 0 < b by omega)
  have hge := Int.emod_nonneg a h2
  have hq : -4611686018427387904 ≤ a / b ∧ a / b ≤ 4611686018427387904 := by
    constructor
    · have : -4611686018427387904 * b ≤ a := by have := Int.mul_le_mul_of_nonneg_left hb (show (0 : Int) ≤ 4611686018427387904 by omega); omega
      exact (Int.le_ediv_iff_mul_le (by omega)).mpr this
    · rcases Int.lt_or_le a 0 with h | h
      · have := Int.ediv_neg_of_neg_of_pos h (show 0 < b by omega); omega
      · have := Int.ediv_le_self b h; omega
  have hdiv : a.tdiv b = if 0 ≤ a ∨ a % b = 0 then a / b else a / b + 1 := by
    rw [Int.tdiv_eq_ediv]
    by_cases h : 0 ≤ a
    · simp [h]
    · by_cases h3 : a % b = 0
      · have : b ∣ a := Int.dvd_of_emod_eq_zero h3
        simp [h3, this]
      · have : ¬ b ∣ a := fun hd => h3 (Int.emod_eq_zero_of_dvd hd)
        have hs : b.sign = 1 := Int.sign_eq_one_of_pos (by omega)
        simp [h, this, h3, hs]
  have hmod : (a.tmod b != 0) = decide (a % b ≠ 0) := by
    rw [Int.tmod_eq_emod]
    by_cases h : 0 ≤ a
    · simp [h, bne]
      cases hz : decide (a % b = 0) <;> simp_all
    · by_cases h3 : a % b = 0
      · have : b ∣ a := Int.dvd_of_emod_eq_zero h3
        simp [h3, this]
      · have : ¬ b ∣ a := fun hd => h3 (Int.emod_eq_zero_of_dvd hd)
        simp [h, this, h3]; omega
  rw [if_neg h2, if_neg h2, hmod, hdiv]
  by_cases h3 : a % b = 0
  · simp only [h3, ne_eq, not_true_eq_false, decide_false, cond_false, seqJ_n, headK_c, asB_bool, asI_int, or_true, if_true]
    rw [wr (by omega)]
  · by_cases h : 0 ≤ a
    · have : ¬ a < 0 := by omega
      simp only [h3, h, this, ne_eq, not_false_eq_true, decide_true, decide_false, cond_true, cond_false, seqJ_n, headK_c, asB_bool, asI_int, true_or, if_true]
      rw [wr (by omega)]
    · have : a < 0 := by omega
      simp only [h3, h, this, ne_eq, not_false_eq_true, decide_true, cond_true, seqJ_n, headK_c, asB_bool, asI_int, or_false, if_false]
      rw [wr (n := a / b + 1) (by omega), wr (by omega)]
      congr 4; omega
def rterm (zs cs : List Int) (i : Nat) : Int :=
  let a := cs.getD i 0
  let b := zs.getD (zs.length - 1 - i) 0
  if a < -32768 ∨ a > 32767 ∨ b < -16777216 ∨ b > 16777216 then 0 else a * b
theorem rterm_eq (zs cs : List Int) (i : Nat) : rterm zs cs i = gterm zs cs i := by
  unfold rterm gterm coefB cutZ
  simp only []
  generalize cs.getD i 0 = a
  generalize zs.getD (zs.length - 1 - i) 0 = b
  by_cases h1 : -32768 ≤ a <;> by_cases h2 : a ≤ 32767 <;> by_cases h3 : -16777216 ≤ b ∧ b ≤ 16777216
  all_goals simp only [h1, h2, h3, decide_true, decide_false, Bool.and_true, Bool.and_false, Bool.true_and, Bool.false_and, Bool.false_eq_true, if_true, if_false, Int.mul_zero]
  all_goals first
    | (rw [if_pos (by omega)]; done)
    | (rw [if_neg (by omega)]; done)
    | (rw [if_neg (by omega)]; simp; done)
    | (rw [if_pos (by omega)]; simp; done)
theorem ref_loop {μ : AMem} {x y : SV} {zs cs : List Int} (hx : IsRow μ .i64 x zs) (hy : IsRow μ .i64 y cs) (hlen : zs.length ≤ 4611686018427387904) {n : Nat} (hn : n = min 12 (min zs.length cs.length)) :
    ∀ k i : Nat, i + k = n → overdubref05_Guess_L1 [.s x, .s y] [.s (.int .i64 (gsum zs cs i)), .s (.int .i64 i)] μ = some (.exit 0, [.s (.int .i64 (gsum zs cs n))], μ)
  | 0, i, h => by
    rw [overdubref05_Guess_L1_eq, overdubref05_Guess_L1_B_eq, hx.len, hy.len]
    obtain rfl : i = n := by omega
    by_cases h1 : (i : Int) < (cs.length : Int)
    · by_cases h2 : (i : Int) < (zs.length : Int)
      · have h3 : ¬ (i : Int) < 12 := by omega
        simp only [h1, h2, h3, Option.bind_some, decide_true, decide_false, cond_true, cond_false, seqJ_n, headK_c, asB_bool, asI_int, Bool.not_true, Bool.not_false]
      · simp only [h1, h2, Option.bind_some, decide_true, decide_false, cond_true, cond_false, seqJ_n, headK_c, asB_bool, asI_int, Bool.not_true, Bool.not_false]
    · simp only [h1, Option.bind_some, decide_true, decide_false, cond_true, cond_false, seqJ_n, headK_c, asB_bool, asI_int, Bool.not_true, Bool.not_false]
  | k + 1, i, h => by
    have ih := ref_loop hx hy hlen hn k (i + 1) (by omega)
    rw [overdubref05_Guess_L1_eq, overdubref05_Guess_L1_B_eq, hx.len, hy.len]
    have h1 : (i : Int) < (cs.length : Int) := by omega
    have h2 : (i : Int) < (zs.length : Int) := by omega
    have h3 : (i : Int) < 12 := by omega
    have hs := gsum_le zs cs i
    have ht := gterm_le zs cs i
    have e1 : IntKind.wrap .i64 ((i : Int) + 1) = ((i + 1 : Nat) : Int) := by rw [wr (by omega)]; omega
    have e2 : IntKind.wrap .i64 (IntKind.wrap .i64 (((zs.length : Nat) : Int) - 1) - (i : Int)) = ((zs.length - 1 - i : Nat) : Int) := by
      rw [wr (n := (zs.length : Int) - 1) (by omega), wr (by omega)]; omega
    have e3 : (((i : Nat) : Int)).toNat = i := by omega
    have e4 : (((zs.length - 1 - i : Nat) : Int)).toNat = zs.length - 1 - i := by omega
    have hgi : gsum zs cs (i + 1) = gsum zs cs i + gterm zs cs i := rfl
    simp only [Option.bind_some, h1, h2, h3, decide_true, cond_true, seqJ_n, headK_c, asB_bool]
    rw [hy.ind (by omega) h1, hy.load (by omega) h1, asI_int, hx.ind (by omega) (by omega), e2, hx.load (by omega) (by omega), asI_int, e3, e4]
    have hr := rterm_eq zs cs i
    unfold rterm at hr
    simp only [] at hr
    generalize cs.getD i 0 = a at *
    generalize zs.getD (zs.length - 1 - i) 0 = b at *
    by_cases c1 : a < -32768
    · have hg : gterm zs cs i = 0 := by rw [← hr, if_pos (.inl c1)]
      have : gsum zs cs (i + 1) = gsum zs cs i := by omega
      rw [this] at ih
      simp only [c1, e1, Option.bind_some, decide_true, decide_false, cond_true, cond_false, seqJ_n, headK_c, asB_bool, asI_int, Bool.not_true, Bool.not_false]; exact ih
    · by_cases c2 : a > 32767
      · have hg : gterm zs cs i = 0 := by rw [← hr, if_pos (.inr (.inl c2))]
        have : gsum zs cs (i + 1) = gsum zs cs i := by omega
        rw [this] at ih
        simp only [c1, c2, e1, Option.bind_some, decide_true, decide_false, cond_true, cond_false, seqJ_n, headK_c, asB_bool, asI_int, Bool.not_true, Bool.not_false]; exact ih
      · by_cases c3 : b < -16777216
        · have hg : gterm zs cs i = 0 := by rw [← hr, if_pos (.inr (.inr (.inl c3)))]
          have : gsum zs cs (i + 1) = gsum zs cs i := by omega
          rw [this] at ih
          simp only [c1, c2, c3, e1, Option.bind_some, decide_true, decide_false, cond_true, cond_false, seqJ_n, headK_c, asB_bool, asI_int, Bool.not_true, Bool.not_false]; exact ih
        · by_cases c4 : b > 16777216
          · have hg : gterm zs cs i = 0 := by rw [← hr, if_pos (.inr (.inr (.inr c4)))]
            have : gsum zs cs (i + 1) = gsum zs cs i := by omega
            rw [this] at ih
            simp only [c1, c2, c3, c4, e1, Option.bind_some, decide_true, decide_false, cond_true, cond_false, seqJ_n, headK_c, asB_bool, asI_int, Bool.not_true, Bool.not_false]; exact ih
          · have hg : a * b = gterm zs cs i := by rw [← hr, if_neg (by omega)]
            have e5 : IntKind.wrap .i64 (a * b) = gterm zs cs i := by rw [hg, wr (by omega)]
            have e6 : IntKind.wrap .i64 (gsum zs cs i + gterm zs cs i) = gsum zs cs (i + 1) := by rw [wr (by omega), hgi]
            simp only [c1, c2, c3, c4, e1, e5, e6, Option.bind_some, decide_true, decide_false, cond_true, cond_false, seqJ_n, headK_c, asB_bool, asI_int, Bool.not_true, Bool.not_false]; exact ih
theorem refGuess_is {μ : AMem} {x y : SV} {zs cs : List Int} (hx : IsRow μ .i64 x zs) (hy : IsRow μ .i64 y cs) (hlen : zs.length ≤ 4611686018427387904) :
    overdubref05_Guess [.s x, .s y] μ = some (.s (.int .i64 (guessZ zs cs)), μ) := by
  rw [overdubref05_Guess_eq]
  have := ref_loop hx hy hlen rfl _ 0 (Nat.zero_add _)
  have h1 : ((0 : Nat) : Int) = 0 := rfl
  rw [h1] at this
  rw [show overdubref05_Guess_L1 [.s x, .s y] [.s (.int .i64 0), .s (.int .i64 0)] μ = _ from this]
  have hs := gsum_le zs cs (min 12 (min zs.length cs.length))
  simp only [seqJ_e, Nat.beq_refl, cond_true, headK_c, asI_int]
  rw [down_is _ _ (by omega) (by omega)]
  simp only [Option.bind_some, asI_int, guessZ]
  rw [Int.fdiv_eq_ediv_of_nonneg _ (by omega)]
end Go.Proofs.Ytbknenfbdhginaa
