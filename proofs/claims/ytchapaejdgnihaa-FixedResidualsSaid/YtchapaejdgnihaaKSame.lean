/- What Same comes to. -/
import Derived.Test.YtchapaejdgnihaaKBase
namespace Go.Proofs.Ytchapaejdgnihaa
open Go Go.Proofs.Ytchapaejdgnihaa.E
set_option linter.unusedVariables false
set_option linter.unusedSimpArgs false
theorem same_loop {μ : AMem} {x y : SV} {zs ws : List Int} (hx : IsRow μ .i64 x zs) (hy : IsRow μ .i64 y ws) (hl : zs.length = ws.length) (hb : zs.length ≤ 4611686018427387904) :
    ∀ k i : Nat, i + k = zs.length → overdubkeep_Same_int_L1 [.s x, .s y] [.s (.int .i64 i)] μ = if zs.drop i = ws.drop i then some (.exit 0, [], μ) else some (.ret, [.s (.bool false)], μ)
  | 0, i, h => by
    have h1 : ¬ (i : Int) < (zs.length : Int) := by omega
    rw [overdubkeep_Same_int_L1_eq, overdubkeep_Same_int_L1_B_eq, hx.len]
    rw [List.drop_eq_nil_of_le (by omega), List.drop_eq_nil_of_le (by omega), if_pos rfl]
    simp only [h1, Option.bind_some, decide_true, decide_false, cond_true, cond_false, seqJ_n, seqJ_r, seqJ_e, headK_c, asB_bool, asI_int, asS_s, asN_int, Bool.not_true, Bool.not_false, Nat.beq_refl]
  | k + 1, i, h => by
    have ih := same_loop hx hy hl hb k (i + 1) (by omega)
    have h1 : (i : Int) < (zs.length : Int) := by omega
    have e1 : IntKind.wrap .i64 ((i : Int) + 1) = ((i + 1 : Nat) : Int) := by rw [wr (by omega)]; omega
    have e3 : (((i : Nat) : Int)).toNat = i := by omega
    have hi : i < zs.length := by omega
    have hi2 : i < ws.length := by omega
    rw [overdubkeep_Same_int_L1_eq, overdubkeep_Same_int_L1_B_eq, hx.len]
    simp only [h1, Option.bind_some, decide_true, decide_false, cond_true, cond_false, seqJ_n, seqJ_r, seqJ_e, headK_c, asB_bool, asI_int, asS_s, asN_int, Bool.not_true, Bool.not_false, Nat.beq_refl]
    rw [hx.ind (by omega) h1, hx.load (by omega) h1, asI_int, hy.ind (by omega) (by omega), hy.load (by omega) (by omega), asI_int, e3]
    rw [List.drop_eq_getElem_cons hi, List.drop_eq_getElem_cons hi2]
    have g1 : zs.getD i 0 = zs[i] := by rw [List.getD_eq_getElem?_getD, List.getElem?_eq_getElem hi]; rfl
    have g2 : ws.getD i 0 = ws[i] := by rw [List.getD_eq_getElem?_getD, List.getElem?_eq_getElem hi2]; rfl
    rw [g1, g2]
    by_cases he : zs[i] = ws[i]
    · have hb1 : (zs[i] != ws[i]) = false := by simp [he]
      have hb2 : (ws[i] != ws[i]) = false := by simp
      simp only [hb2, e1, he, List.cons.injEq, true_and, Option.bind_some, decide_true, decide_false, cond_true, cond_false, seqJ_n, seqJ_r, seqJ_e, headK_c, asB_bool, asI_int, asS_s, asN_int, Bool.not_true, Bool.not_false, Nat.beq_refl]
      exact ih
    · have hb1 : (zs[i] != ws[i]) = true := by simp [he]
      simp only [hb1, he, List.cons.injEq, false_and, if_false, Option.bind_some, decide_true, decide_false, cond_true, cond_false, seqJ_n, seqJ_r, seqJ_e, headK_c, asB_bool, asI_int, asS_s, asN_int, Bool.not_true, Bool.not_false, Nat.beq_refl]
theorem same_is {μ : AMem} {x y : SV} {zs ws : List Int} (hx : IsRow μ .i64 x zs) (hy : IsRow μ .i64 y ws) (hb : zs.length ≤ 4611686018427387904) :
    overdubkeep_Same_int [.s x, .s y] μ = some (.s (.bool (decide (zs = ws))), μ) := by
  rw [overdubkeep_Same_int_eq, hx.len, hy.len]
  by_cases hl : zs.length = ws.length
  · have h1 : ((zs.length : Int) != (ws.length : Int)) = false := by simp [hl]
    have := same_loop hx hy hl hb _ 0 (Nat.zero_add _)
    simp only [h1, Option.bind_some, decide_true, decide_false, cond_true, cond_false, seqJ_n, seqJ_r, seqJ_e, headK_c, asB_bool, asI_int, asS_s, asN_int, Bool.not_true, Bool.not_false, Nat.beq_refl]
    rw [show overdubkeep_Same_int_L1 [.s x, .s y] [.s (.int .i64 0)] μ = _ from this]
    simp only [List.drop_zero]
    by_cases he : zs = ws
    · simp only [he, if_true, Option.bind_some, decide_true, decide_false, cond_true, cond_false, seqJ_n, seqJ_r, seqJ_e, headK_c, asB_bool, asI_int, asS_s, asN_int, Bool.not_true, Bool.not_false, Nat.beq_refl]
    · simp only [he, if_false, Option.bind_some, decide_true, decide_false, cond_true, cond_false, seqJ_n, seqJ_r, seqJ_e, headK_c, asB_bool, asI_int, asS_s, asN_int, Bool.not_true, Bool.not_false, Nat.beq_refl]
  · have h1 : ((zs.length : Int) != (ws.length : Int)) = true := by simp; omega
    have he : ¬ zs = ws := fun h => hl (by rw [h])
    simp only [h1, he, Option.bind_some, decide_true, decide_false, cond_true, cond_false, seqJ_n, seqJ_r, seqJ_e, headK_c, asB_bool, asI_int, asS_s, asN_int, Bool.not_true, Bool.not_false, Nat.beq_refl]
end Go.Proofs.Ytchapaejdgnihaa
