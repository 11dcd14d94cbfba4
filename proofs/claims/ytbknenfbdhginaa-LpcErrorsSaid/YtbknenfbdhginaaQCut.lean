/- Cut of a row; the reference's rounding down and its guess. -/
import Derived.Test.YtbknenfbdhginaaQGuess
import Derived.Test.YtbknenfbdhginaaKCut
import Derived.Test.YtbknenfbdhginaaKDown
namespace Go.Proofs.Ytbknenfbdhginaa
open Go Go.Proofs.Ytbknenfbdhginaa.E
set_option linter.unusedVariables false
set_option linter.unusedSimpArgs false
def rterm (zs cs : List Int) (i : Nat) : Int :=
  let a := cs.getD i 0
  let b := zs.getD (zs.length - 1 - i) 0
  if a < -32768 ∨ a > 32767 ∨ b < -16777216 ∨ b > 16777216 then 0 else a * b
theorem rterm_eq (zs cs : List Int) (i : Nat) : rterm zs cs i = gterm zs cs i := by
  unfold rterm gterm coefB cutZ
  simp only []
  generalize cs.getD i 0 = a
  generalize zs.getD (zs.length - 1 - i) 0 = b
  by_cases h1 : -32768 ≤ a <;> by_cases h2 : a ≤ 32767 <;> by_cases h3 : -16777216 ≤ b ∧ b ≤ 16777216
  all_goals simp only [h1, h2, h3, decide_true, decide_false, Bool.and_true, Bool.and_false, Bool.true_and, Bool.false_and, Bool.false_eq_true, if_true, if_false, Int.mul_zero]
  all_goals first
    | (rw [if_pos (by omega)]; done)
    | (rw [if_neg (by omega)]; done)
    | (rw [if_neg (by omega)]; simp; done)
    | (rw [if_pos (by omega)]; simp; done)
theorem ref_loop {μ : AMem} {x y : SV} {zs cs : List Int} (hx : IsRow μ .i64 x zs) (hy : IsRow μ .i64 y cs) (hlen : zs.length ≤ 4611686018427387904) {n : Nat} (hn : n = min 12 (min zs.length cs.length)) :
    ∀ k i : Nat, i + k = n → overdubref05_Guess_L1 [.s x, .s y] [.s (.int .i64 (gsum zs cs i)), .s (.int .i64 i)] μ = some (.exit 0, [.s (.int .i64 (gsum zs cs n))], μ)
  | 0, i, h => by
    rw [overdubref05_Guess_L1_eq, overdubref05_Guess_L1_B_eq, hx.len, hy.len]
    obtain rfl : i = n := by omega
    by_cases h1 : (i : Int) < (cs.length : Int)
    · by_cases h2 : (i : Int) < (zs.length : Int)
      · have h3 : ¬ (i : Int) < 12 := by omega
        simp only [h1, h2, h3, Option.bind_some, decide_true, decide_false, cond_true, cond_false, seqJ_n, headK_c, asB_bool, asI_int, Bool.not_true, Bool.not_false]
      · simp only [h1, h2, Option.bind_some, decide_true, decide_false, cond_true, cond_false, seqJ_n, headK_c, asB_bool, asI_int, Bool.not_true, Bool.not_false]
    · simp only [h1, Option.bind_some, decide_true, decide_false, cond_true, cond_false, seqJ_n, headK_c, asB_bool, asI_int, Bool.not_true, Bool.not_false]
  | k + 1, i, h => by
    have ih := ref_loop hx hy hlen hn k (i + 1) (by omega)
    rw [overdubref05_Guess_L1_eq, overdubref05_Guess_L1_B_eq, hx.len, hy.len]
    have h1 : (i : Int) < (cs.length : Int) := by omega
    have h2 : (i : Int) < (zs.length : Int) := by omega
    have h3 : (i : Int) < 12 := by omega
    have hs := gsum_le zs cs i
    have ht := gterm_le zs cs i
    have e1 : IntKind.wrap .i64 ((i : Int) + 1) = ((i + 1 : Nat) : Int) := by rw [wr (by omega)]; omega
    have e2 : IntKind.wrap .i64 (IntKind.wrap .i64 (((zs.length : Nat) : Int) - 1) - (i : Int)) = ((zs.length - 1 - i : Nat) : Int) := by
      rw [wr (n := (zs.length : Int) - 1) (by omega), wr (by omega)]; omega
    have e3 : (((i : Nat) : Int)).toNat = i := by omega
    have e4 : (((zs.length - 1 - i : Nat) : Int)).toNat = zs.length - 1 - i := by omega
    have hgi : gsum zs cs (i + 1) = gsum zs cs i + gterm zs cs i := rfl
    simp only [Option.bind_some, h1, h2, h3, decide_true, cond_true, seqJ_n, headK_c, asB_bool]
    rw [hy.ind (by omega) h1, hy.load (by omega) h1, asI_int, hx.ind (by omega) (by omega), e2, hx.load (by omega) (by omega), asI_int, e3, e4]
    have hr := rterm_eq zs cs i
    unfold rterm at hr
    simp only [] at hr
    generalize cs.getD i 0 = a at *
    generalize zs.getD (zs.length - 1 - i) 0 = b at *
    by_cases c1 : a < -32768
    · have hg : gterm zs cs i = 0 := by rw [← hr, if_pos (.inl c1)]
      have : gsum zs cs (i + 1) = gsum zs cs i := by omega
      rw [this] at ih
      simp only [c1, e1, Option.bind_some, decide_true, decide_false, cond_true, cond_false, seqJ_n, headK_c, asB_bool, asI_int, Bool.not_true, Bool.not_false]; exact ih
    · by_cases c2 : a > 32767
      · have hg : gterm zs cs i = 0 := by rw [← hr, if_pos (.inr (.inl c2))]
        have : gsum zs cs (i + 1) = gsum zs cs i := by omega
        rw [this] at ih
        simp only [c1, c2, e1, Option.bind_some, decide_true, decide_false, cond_true, cond_false, seqJ_n, headK_c, asB_bool, asI_int, Bool.not_true, Bool.not_false]; exact ih
      · by_cases c3 : b < -16777216
        · have hg : gterm zs cs i = 0 := by rw [← hr, if_pos (.inr (.inr (.inl c3)))]
          have : gsum zs cs (i + 1) = gsum zs cs i := by omega
          rw [this] at ih
          simp only [c1, c2, c3, e1, Option.bind_some, decide_true, decide_false, cond_true, cond_false, seqJ_n, headK_c, asB_bool, asI_int, Bool.not_true, Bool.not_false]; exact ih
        · by_cases c4 : b > 16777216
          · have hg : gterm zs cs i = 0 := by rw [← hr, if_pos (.inr (.inr (.inr c4)))]
            have : gsum zs cs (i + 1) = gsum zs cs i := by omega
            rw [this] at ih
            simp only [c1, c2, c3, c4, e1, Option.bind_some, decide_true, decide_false, cond_true, cond_false, seqJ_n, headK_c, asB_bool, asI_int, Bool.not_true, Bool.not_false]; exact ih
          · have hg : a * b = gterm zs cs i := by rw [← hr, if_neg (by omega)]
            have e5 : IntKind.wrap .i64 (a * b) = gterm zs cs i := by rw [hg, wr (by omega)]
            have e6 : IntKind.wrap .i64 (gsum zs cs i + gterm zs cs i) = gsum zs cs (i + 1) := by rw [wr (by omega), hgi]
            simp only [c1, c2, c3, c4, e1, e5, e6, Option.bind_some, decide_true, decide_false, cond_true, cond_false, seqJ_n, headK_c, asB_bool, asI_int, Bool.not_true, Bool.not_false]; exact ih
theorem refGuess_is {μ : AMem} {x y : SV} {zs cs : List Int} (hx : IsRow μ .i64 x zs) (hy : IsRow μ .i64 y cs) (hlen : zs.length ≤ 4611686018427387904) :
    overdubref05_Guess [.s x, .s y] μ = some (.s (.int .i64 (guessZ zs cs)), μ) := by
  rw [overdubref05_Guess_eq]
  have := ref_loop hx hy hlen rfl _ 0 (Nat.zero_add _)
  have h1 : ((0 : Nat) : Int) = 0 := rfl
  rw [h1] at this
  rw [show overdubref05_Guess_L1 [.s x, .s y] [.s (.int .i64 0), .s (.int .i64 0)] μ = _ from this]
  have hs := gsum_le zs cs (min 12 (min zs.length cs.length))
  simp only [seqJ_e, Nat.beq_refl, cond_true, headK_c, asI_int]
  rw [down_is _ _ (by omega) (by omega)]
  simp only [Option.bind_some, asI_int, guessZ]
  rw [Int.fdiv_eq_ediv_of_nonneg _ (by omega)]
end Go.Proofs.Ytbknenfbdhginaa
