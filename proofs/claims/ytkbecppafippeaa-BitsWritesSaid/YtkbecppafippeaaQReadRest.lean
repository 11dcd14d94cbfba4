/- Is what is left of a reader all noughts? -/
import Derived.Test.YtkbecppafippeaaQReader
namespace Go.Proofs.Ytkbecppafippeaa
open Go Go.Proofs.Ytkbecppafippeaa.E
set_option linter.unusedVariables false
set_option linter.unusedSimpArgs false
def restF (bs : List Int) (a : Nat) : Nat → Nat → Bool
  | 0, _ => true
  | k + 1, i => if digB bs (a + i) = 1 then false else restF bs a k (i + 1)
theorem restF_all {bs : List Int} {a : Nat} : ∀ k i : Nat, (∀ j, i ≤ j → j < i + k → digB bs (a + j) = 0) → restF bs a k i = true
  | 0, _, _ => rfl
  | k + 1, i, h => by
    rw [restF, if_neg (by rw [h i (Nat.le_refl _) (by omega)]; omega), restF_all k (i + 1) fun j h1 h2 => h j (by omega) (by omega)]
theorem Rest_loop {N : Nat} {μ : AMem} {id : Nat} {b : SV} {a n : Nat} {bs : List Int} (h : St N μ id b (a : Int) bs) (hon : a + n ≤ 8 * bs.length) (hl : bs.length ≤ 1000000) (hb : ∀ v ∈ bs, 0 ≤ v ∧ v < 256) :
    ∀ k i : Nat, i + k = n → bits_Reader_Rest_L1 [.s (.ptr id 0 0), .s (.int .i64 n)] [.s (.int .i64 i)] μ = if restF bs a k i then some (.exit 0, [], μ) else some (.ret, [.s (.bool false)], μ)
  | 0, i, hi => by
    rw [bits_Reader_Rest_L1_eq, bits_Reader_Rest_L1_B_eq]
    simp -implicitDefEqProofs (disch := omega) only [lt_t, lt_f, gt_t, gt_f, le_t, le_f, ge_t, ge_f, ne_t, ne_f, eq_t, eq_f, w64, chk_true, Option.bind_some, decide_true, decide_false, cond_true, cond_false, seqJ_n, seqJ_r, seqJ_e, headK_c, asB_bool, asI_int, asS_s, asN_int, extrK_0, extrK_1, extrK_2, Bool.not_true, Bool.not_false, Nat.beq_refl]
    rfl
  | k + 1, i, hi => by
    have ih := Rest_loop h hon hl hb k (i + 1) (by omega)
    rw [nsu] at ih
    have hd := digit_is h i (by omega) hl hb
    have ei : IntKind.wrap .i64 ((i : Int) + 1) = (i : Int) + 1 := wr (by omega)
    rw [bits_Reader_Rest_L1_eq, bits_Reader_Rest_L1_B_eq, restF]
    by_cases hc : digB bs (a + i) = 1
    · rw [if_pos hc]
      simp -implicitDefEqProofs only [lt_t (show (i : Int) < (n : Int) by omega), hd, eq_t hc, Option.bind_some, decide_true, decide_false, cond_true, cond_false, seqJ_n, seqJ_r, seqJ_e, headK_c, asB_bool, asI_int, asS_s, asN_int, extrK_0, extrK_1, extrK_2, Bool.not_true, Bool.not_false, Nat.beq_refl]
      rfl
    · rw [if_neg hc]
      simp -implicitDefEqProofs only [lt_t (show (i : Int) < (n : Int) by omega), hd, eq_f hc, ei, Option.bind_some, decide_true, decide_false, cond_true, cond_false, seqJ_n, seqJ_r, seqJ_e, headK_c, asB_bool, asI_int, asS_s, asN_int, extrK_0, extrK_1, extrK_2, Bool.not_true, Bool.not_false, Nat.beq_refl]
      exact ih
theorem Rest_is {N : Nat} {μ : AMem} {id : Nat} {b : SV} {a : Nat} {bs : List Int} (h : St N μ id b (a : Int) bs) (hon : a ≤ 8 * bs.length) (hl : bs.length ≤ 1000000) (hb : ∀ v ∈ bs, 0 ≤ v ∧ v < 256) :
    bits_Reader_Rest [.s (.ptr id 0 0)] μ = some (.s (.bool (restF bs a (8 * bs.length - a) 0)), μ) := by
  have e := Rest_loop (n := 8 * bs.length - a) h (by omega) hl hb (8 * bs.length - a) 0 (by omega)
  rw [n0] at e
  rw [bits_Reader_Rest_eq]
  cases hr : restF bs a (8 * bs.length - a) 0
  · rw [hr] at e
    simp only [Bool.false_eq_true, if_false] at e
    simp -implicitDefEqProofs only [Left_is h hon hl, e, Option.bind_some, decide_true, decide_false, cond_true, cond_false, seqJ_n, seqJ_r, seqJ_e, headK_c, asB_bool, asI_int, asS_s, asN_int, extrK_0, extrK_1, extrK_2, Bool.not_true, Bool.not_false, Nat.beq_refl]
  · rw [hr] at e
    simp only [if_true] at e
    simp -implicitDefEqProofs only [Left_is h hon hl, e, Option.bind_some, decide_true, decide_false, cond_true, cond_false, seqJ_n, seqJ_r, seqJ_e, headK_c, asB_bool, asI_int, asS_s, asN_int, extrK_0, extrK_1, extrK_2, Bool.not_true, Bool.not_false, Nat.beq_refl]
end Go.Proofs.Ytkbecppafippeaa
