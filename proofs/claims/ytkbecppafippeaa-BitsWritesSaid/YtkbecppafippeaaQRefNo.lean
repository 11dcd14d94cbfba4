/- The document's digits: what may not be put or taken; are all noughts? -/
import Derived.Test.YtkbecppafippeaaQRefGet
import Derived.Test.YtkbecppafippeaaQReadRest
namespace Go.Proofs.Ytkbecppafippeaa
open Go Go.Proofs.Ytkbecppafippeaa.E
set_option linter.unusedVariables false
set_option linter.unusedSimpArgs false
theorem refOnes_no {μ : AMem} {x : SV} {n : Int} (hn : n < 0 ∨ n > 1024) : overdubref01_Bits_Ones [.s x, .s (.int .i64 n)] μ = some (.tuple [.s x, .s (.bool false)], μ) := by
  rw [overdubref01_Bits_Ones_eq]
  by_cases h : n < 0
  · simp -implicitDefEqProofs only [lt_t h, Option.bind_some, decide_true, decide_false, cond_true, cond_false, seqJ_n, seqJ_r, seqJ_e, headK_c, asB_bool, asI_int, asS_s, asN_int, extrK_0, extrK_1, extrK_2, Bool.not_true, Bool.not_false, Nat.beq_refl]
  · simp -implicitDefEqProofs only [lt_f (show 0 ≤ n by omega), gt_t (show 1024 < n by omega), Option.bind_some, decide_true, decide_false, cond_true, cond_false, seqJ_n, seqJ_r, seqJ_e, headK_c, asB_bool, asI_int, asS_s, asN_int, extrK_0, extrK_1, extrK_2, Bool.not_true, Bool.not_false, Nat.beq_refl]
theorem refTakeOnes_no {μ : AMem} {x : SV} {n : Int} (hn : n < 0 ∨ n > 1024) : overdubref01_Bits_TakeOnes [.s x, .s (.int .i64 n)] μ = some (.tuple [.s (.int .i64 0), .s x, .s (.bool false)], μ) := by
  rw [overdubref01_Bits_TakeOnes_eq]
  by_cases h : n < 0
  · simp -implicitDefEqProofs only [lt_t h, Option.bind_some, decide_true, decide_false, cond_true, cond_false, seqJ_n, seqJ_r, seqJ_e, headK_c, asB_bool, asI_int, asS_s, asN_int, extrK_0, extrK_1, extrK_2, Bool.not_true, Bool.not_false, Nat.beq_refl]
  · simp -implicitDefEqProofs only [lt_f (show 0 ≤ n by omega), gt_t (show 1024 < n by omega), Option.bind_some, decide_true, decide_false, cond_true, cond_false, seqJ_n, seqJ_r, seqJ_e, headK_c, asB_bool, asI_int, asS_s, asN_int, extrK_0, extrK_1, extrK_2, Bool.not_true, Bool.not_false, Nat.beq_refl]
theorem onesF_false (bs : List Int) (a left : Nat) : ∀ k n, (onesF bs a left k n).2.1 = false → onesF bs a left k n = (0, false, a)
  | 0, n, h => by simp [onesF] at h
  | k + 1, n, h => by
    unfold onesF at h ⊢
    split at h
    · rename_i c; rw [if_pos c]
    · rename_i c
      rw [if_neg c]
      split at h
      · cases h
      · rename_i d; rw [if_neg d]; exact onesF_false bs a left k (n + 1) h
theorem restF_step {bs : List Int} {a k i : Nat} : restF bs a (k + 1) i = if digB bs (a + i) = 1 then false else restF bs a k (i + 1) := rfl
theorem refRest_loop {μ : AMem} {x : SV} {bs l : List Int} {a : Nat} (hx : IsRow μ .u8 x l) (hA : At bs a l) (hl : l.length ≤ 1000000) :
    ∀ k i : Nat, i + k = l.length → overdubref01_Bits_Rest_L1 [.s x, .s (.int .i64 (l.length : Int))] [.s (.int .i64 (i : Int))] μ = if restF bs a k i then some (.exit 0, [], μ) else some (.ret, [.s (.bool false)], μ)
  | 0, i, h => by
    rw [overdubref01_Bits_Rest_L1_eq, overdubref01_Bits_Rest_L1_B_eq]
    simp -implicitDefEqProofs (disch := omega) only [lt_t, lt_f, gt_t, gt_f, le_t, le_f, ge_t, ge_f, ne_t, ne_f, eq_t, eq_f, w64, chk_true, Option.bind_some, decide_true, decide_false, cond_true, cond_false, seqJ_n, seqJ_r, seqJ_e, headK_c, asB_bool, asI_int, asS_s, asN_int, extrK_0, extrK_1, extrK_2, Bool.not_true, Bool.not_false, Nat.beq_refl]
    rfl
  | k + 1, i, h => by
    have ih := refRest_loop hx hA hl k (i + 1) (by omega)
    have hi : i < l.length := by omega
    have g1 := fun {R : Type} (K : AV → Option R) => hx.ind (i := (i : Int)) (by omega) (by omega) K
    have g2 := fun {R : Type} (K : AV → Option R) => hx.load (i := (i : Int)) (by omega) (by omega) K
    have ei : IntKind.wrap .i64 ((i : Int) + 1) = ((i + 1 : Nat) : Int) := by rw [wr (by omega)]; rfl
    have hd := digB_le bs (a + i)
    rw [overdubref01_Bits_Rest_L1_eq, overdubref01_Bits_Rest_L1_B_eq, restF_step]
    by_cases hc : digB bs (a + i) = 1
    · rw [if_pos hc]
      simp -implicitDefEqProofs only [lt_t (show (i : Int) < (l.length : Int) by omega), g1, g2, nat_toNat, hA.2, ne_t (show ¬ digB bs (a + i) = 0 by omega), Option.bind_some, decide_true, decide_false, cond_true, cond_false, seqJ_n, seqJ_r, seqJ_e, headK_c, asB_bool, asI_int, asS_s, asN_int, extrK_0, extrK_1, extrK_2, Bool.not_true, Bool.not_false, Nat.beq_refl]
      rfl
    · rw [if_neg hc]
      simp -implicitDefEqProofs only [lt_t (show (i : Int) < (l.length : Int) by omega), g1, g2, nat_toNat, hA.2, ne_f (show digB bs (a + i) = 0 by omega), ei, Option.bind_some, decide_true, decide_false, cond_true, cond_false, seqJ_n, seqJ_r, seqJ_e, headK_c, asB_bool, asI_int, asS_s, asN_int, extrK_0, extrK_1, extrK_2, Bool.not_true, Bool.not_false, Nat.beq_refl]
      exact ih
theorem refRest_is {μ : AMem} {x : SV} {bs l : List Int} {a : Nat} (hx : IsRow μ .u8 x l) (hA : At bs a l) (hl : l.length ≤ 1000000) : overdubref01_Bits_Rest [.s x] μ = some (.s (.bool (restF bs a l.length 0)), μ) := by
  have e := refRest_loop hx hA hl l.length 0 (by omega)
  rw [n0] at e
  rw [overdubref01_Bits_Rest_eq, hx.len]
  simp only [Option.bind_some, e]
  cases restF bs a l.length 0 <;> simp -implicitDefEqProofs only [if_true, if_false, Bool.false_eq_true, Option.bind_some, decide_true, decide_false, cond_true, cond_false, seqJ_n, seqJ_r, seqJ_e, headK_c, asB_bool, asI_int, asS_s, asN_int, extrK_0, extrK_1, extrK_2, Bool.not_true, Bool.not_false, Nat.beq_refl]
end Go.Proofs.Ytkbecppafippeaa
