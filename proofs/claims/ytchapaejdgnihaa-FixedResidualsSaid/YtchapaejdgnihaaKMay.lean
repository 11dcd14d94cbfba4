/- May samples be: what the reference's check comes to. -/
import Derived.Test.YtchapaejdgnihaaKMayZ
namespace Go.Proofs.Ytchapaejdgnihaa
open Go Go.Proofs.Ytchapaejdgnihaa.E
set_option linter.unusedVariables false
set_option linter.unusedSimpArgs false
theorem may_loop {μ : AMem} {x : SV} {zs : List Int} (hx : IsRow μ .i64 x zs) (hb : zs.length ≤ 4611686018427387904) :
    ∀ k i : Nat, i + k = zs.length → overdubref05_May_L1 [.s x, .s (.int .i64 zs.length)] [.s (.int .i64 i)] μ = if (zs.drop i).all okS then some (.exit 0, [.s x], μ) else some (.ret, [.s (.int .i64 8)], μ)
  | 0, i, h => by
    have h1 : ¬ (i : Int) < (zs.length : Int) := by omega
    rw [overdubref05_May_L1_eq, overdubref05_May_L1_B_eq, List.drop_eq_nil_of_le (by omega)]
    simp only [h1, List.all_nil, if_true, Option.bind_some, decide_true, decide_false, cond_true, cond_false, seqJ_n, seqJ_r, seqJ_e, headK_c, asB_bool, asI_int, asS_s, asN_int, Bool.not_true, Bool.not_false, Nat.beq_refl]
  | k + 1, i, h => by
    have ih := may_loop hx hb k (i + 1) (by omega)
    have h1 : (i : Int) < (zs.length : Int) := by omega
    have e1 : IntKind.wrap .i64 ((i : Int) + 1) = ((i + 1 : Nat) : Int) := by rw [wr (by omega)]; omega
    have e3 : (((i : Nat) : Int)).toNat = i := by omega
    have hi : i < zs.length := by omega
    have g1 : zs.getD i 0 = zs[i] := by rw [List.getD_eq_getElem?_getD, List.getElem?_eq_getElem hi]; rfl
    rw [overdubref05_May_L1_eq, overdubref05_May_L1_B_eq, List.drop_eq_getElem_cons hi]
    simp only [h1, Option.bind_some, decide_true, decide_false, cond_true, cond_false, seqJ_n, seqJ_r, seqJ_e, headK_c, asB_bool, asI_int, asS_s, asN_int, Bool.not_true, Bool.not_false, Nat.beq_refl]
    rw [hx.ind (by omega) h1, hx.load (by omega) h1, asI_int, hx.ind (by omega) h1, hx.load (by omega) h1, asI_int, e3, g1]
    simp only [List.all_cons]
    by_cases c1 : zs[i] < -8388608
    · have ho : okS zs[i] = false := by simp [okS]; omega
      simp only [c1, ho, Bool.false_and, Bool.false_eq_true, if_false, Option.bind_some, decide_true, decide_false, cond_true, cond_false, seqJ_n, seqJ_r, seqJ_e, headK_c, asB_bool, asI_int, asS_s, asN_int, Bool.not_true, Bool.not_false, Nat.beq_refl]
    · by_cases c2 : zs[i] > 8388607
      · have ho : okS zs[i] = false := by simp [okS]; omega
        simp only [c1, c2, ho, Bool.false_and, Bool.false_eq_true, if_false, Option.bind_some, decide_true, decide_false, cond_true, cond_false, seqJ_n, seqJ_r, seqJ_e, headK_c, asB_bool, asI_int, asS_s, asN_int, Bool.not_true, Bool.not_false, Nat.beq_refl]
      · have ho : okS zs[i] = true := by simp [okS]; omega
        simp only [c1, c2, ho, Bool.true_and, e1, Option.bind_some, decide_true, decide_false, cond_true, cond_false, seqJ_n, seqJ_r, seqJ_e, headK_c, asB_bool, asI_int, asS_s, asN_int, Bool.not_true, Bool.not_false, Nat.beq_refl]
        exact ih
theorem refMay_is {μ : AMem} {x : SV} {zs : List Int} (hx : IsRow μ .i64 x zs) (hb : zs.length ≤ 4611686018427387904) : overdubref05_May [.s x] μ = some (.s (.int .i64 (checkZ zs)), μ) := by
  rw [overdubref05_May_eq, hx.len]
  have := may_loop hx hb _ 0 (Nat.zero_add _)
  simp only [Option.bind_some]
  rw [show overdubref05_May_L1 [.s x, .s (.int .i64 ((zs.length : Nat) : Int))] [.s (.int .i64 0)] μ = _ from this]
  simp only [List.drop_zero, checkZ]
  cases zs.all okS
  · simp only [Bool.false_eq_true, if_false, Option.bind_some, decide_true, decide_false, cond_true, cond_false, seqJ_n, seqJ_r, seqJ_e, headK_c, asB_bool, asI_int, asS_s, asN_int, Bool.not_true, Bool.not_false, Nat.beq_refl]
  · simp only [if_true, hx.len, Option.bind_some, decide_true, decide_false, cond_true, cond_false, seqJ_n, seqJ_r, seqJ_e, headK_c, asB_bool, asI_int, asS_s, asN_int, Bool.not_true, Bool.not_false, Nat.beq_refl]
    by_cases h : (zs.length : Int) > 64
    · have : zs.length > 64 := by omega
      simp only [h, this, if_true, Option.bind_some, decide_true, decide_false, cond_true, cond_false, seqJ_n, seqJ_r, seqJ_e, headK_c, asB_bool, asI_int, asS_s, asN_int, Bool.not_true, Bool.not_false, Nat.beq_refl]
    · have : ¬ zs.length > 64 := by omega
      simp only [h, this, if_false, Option.bind_some, decide_true, decide_false, cond_true, cond_false, seqJ_n, seqJ_r, seqJ_e, headK_c, asB_bool, asI_int, asS_s, asN_int, Bool.not_true, Bool.not_false, Nat.beq_refl]
end Go.Proofs.Ytchapaejdgnihaa
