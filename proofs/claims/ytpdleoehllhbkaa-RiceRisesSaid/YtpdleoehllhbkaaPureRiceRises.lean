/- The plain answer of RiceRises. -/
import Derived.Test.YtpdleoehllhbkaaQRice
namespace Go.Proofs.Ytpdleoehllhbkaa
open Go Go.Proofs.Ytpdleoehllhbkaa.E
set_option linter.unusedVariables false
set_option linter.unusedSimpArgs false
theorem zigP {n : Int} (h : 0 ≤ n) (h2 : n < 1099511627776) : zigZ n = 2 * n := by unfold zigZ; rw [if_neg (by omega), if_neg (by omega)]
theorem zigN {n : Int} (h : n < 0) (h2 : -1099511627776 ≤ n) : zigZ n = -2 * n - 1 := by unfold zigZ; rw [if_neg (by omega), if_pos h]
theorem rises_tail (a b k : Int) (ha : 0 ≤ a) (hab : a ≤ b) (hb : b < 1073741824) (hk : 0 ≤ k) (hk2 : k < 25) :
    sizeZ a k ≤ sizeZ b k ∧ 1 + k ≤ sizeZ a k ∧ sizeZ b k ≤ 56 ∧ (a ≠ b → zigZ a < zigZ b ∧ zigZ (0 - a) < zigZ (0 - b)) ∧ zigZ a = 2 * a ∧ (a ≠ 0 → zigZ (0 - a) = 2 * a - 1) := by
  have ma : mayB a k = true := by simp [mayB]; omega
  have mb : mayB b k = true := by simp [mayB]; omega
  have qa := quo_le ha k.toNat
  have qb := quo_le (show 0 ≤ b by omega) k.toNat
  have hle : a / 2 ^ k.toNat ≤ b / 2 ^ k.toNat := Int.ediv_le_ediv (Int.pow_pos (by omega)) hab
  unfold sizeZ
  simp only [ma, mb, if_true]
  refine ⟨?_, ?_, ?_, ?_, ?_, ?_⟩
  · split <;> split <;> omega
  · split <;> omega
  · split <;> omega
  · intro hne
    constructor
    · rw [zigP ha (by omega), zigP (by omega) (by omega)]; omega
    · rw [zigN (n := 0 - b) (by omega) (by omega)]
      by_cases h0 : a = 0
      · subst h0; rw [zigP (by omega) (by omega)]; omega
      · rw [zigN (by omega) (by omega)]; omega
  · exact zigP ha (by omega)
  · intro h0
    rw [zigN (by omega) (by omega)]; omega
theorem pureRiceRises (a0 : Int) (w0 : (Lit.int .i64 a0).wf = true) (a1 : Int) (w1 : (Lit.int .i64 a1).wf = true) (a2 : Int) (w2 : (Lit.int .i64 a2).wf = true) :
    ∃ μ', overdublaw02_RiceRises (argVals 0 [.i .i64 a0, .i .i64 a1, .i .i64 a2]) (argMem [.i .i64 a0, .i .i64 a1, .i .i64 a2]) = some (.s (.bool true), μ') := by
  show ∃ μ', overdublaw02_RiceRises [.s (.int .i64 a0), .s (.int .i64 a1), .s (.int .i64 a2)] _ = _
  generalize argMem [.i .i64 a0, .i .i64 a1, .i .i64 a2] = μ
  refine ⟨μ, ?_⟩
  rw [overdublaw02_RiceRises_eq, within_is _ _ (wf64 w0) (by omega) (by omega)]
  simp only [within_is _ _ (wf64 w1) (show (1 : Int) ≤ 1073741824 by omega) (by omega), within_is _ _ (wf64 w2) (show (1 : Int) ≤ 25 by omega) (by omega), Option.bind_some, decide_true, decide_false, cond_true, cond_false, seqJ_n, seqJ_r, seqJ_e, headK_c, asB_bool, asI_int, asS_s, asN_int, Bool.not_true, Bool.not_false, Nat.beq_refl]
  have hk : 0 ≤ a2 % 25 ∧ a2 % 25 < 25 := by omega
  have ha : 0 ≤ a0 % 1073741824 ∧ a0 % 1073741824 < 1073741824 := by omega
  have hb : 0 ≤ a1 % 1073741824 ∧ a1 % 1073741824 < 1073741824 := by omega
  generalize a2 % 25 = k at *
  generalize a0 % 1073741824 = a at *
  generalize a1 % 1073741824 = b at *
  have key : ∀ x y : Int, 0 ≤ x → x ≤ y → y < 1073741824 → (sizeZ x k > sizeZ y k) = False ∧ (sizeZ x k < IntKind.wrap .i64 (1 + k)) = False ∧ (x ≠ y → (x == y) = false ∧ (zigZ x < zigZ y) = True ∧ (zigZ (IntKind.wrap .i64 (0 - x)) < zigZ (IntKind.wrap .i64 (0 - y))) = True) ∧
      (zigZ x == IntKind.wrap .i64 (2 * x)) = true ∧ (x ≠ 0 → (x == 0) = false ∧ (zigZ (IntKind.wrap .i64 (0 - x)) == IntKind.wrap .i64 (IntKind.wrap .i64 (2 * x) - 1)) = true) ∧ (sizeZ y k ≤ 56) = True := by
    intro x y h1 h2 h3
    obtain ⟨g1, g2, g3, g4, g5, g6⟩ := rises_tail x y k h1 h2 h3 hk.1 hk.2
    rw [wr (n := 1 + k) (by omega), wr (n := 0 - x) (by omega), wr (n := 0 - y) (by omega), wr (n := 2 * x) (by omega), wr (n := 2 * x - 1) (by omega)]
    refine ⟨eq_false (by omega), eq_false (by omega), fun hne => ⟨by simp [hne], eq_true (g4 hne).1, eq_true (g4 hne).2⟩, by rw [g5]; exact beq_self_eq_true _, fun h0 => ⟨by simp [h0], by rw [g6 h0]; exact beq_self_eq_true _⟩, eq_true g3⟩
  have fin : ∀ x y : Int, 0 ≤ x → x ≤ y → y < 1073741824 → (a ≤ b → x = a ∧ y = b) → (¬ a ≤ b → x = b ∧ y = a) → True := fun _ _ _ _ _ _ _ => trivial
  by_cases hab : a > b
  · obtain ⟨k1, k2, k3, k4, k5, k6⟩ := key b a hb.1 (by omega) ha.2
    obtain ⟨e1, e2, e3⟩ := k3 (by omega)
    simp only [hab, size_is, zig_is, wakes_is, k1, k2, e1, e2, e3, k4, k6, Option.bind_some, decide_true, decide_false, cond_true, cond_false, seqJ_n, seqJ_r, seqJ_e, headK_c, asB_bool, asI_int, asS_s, asN_int, Bool.not_true, Bool.not_false, Nat.beq_refl]
    by_cases h0 : b = 0
    · subst h0; simp only [beq_self_eq_true, Option.bind_some, decide_true, decide_false, cond_true, cond_false, seqJ_n, seqJ_r, seqJ_e, headK_c, asB_bool, asI_int, asS_s, asN_int, Bool.not_true, Bool.not_false, Nat.beq_refl]
    · obtain ⟨e4, e5⟩ := k5 h0
      simp only [e4, e5, Option.bind_some, decide_true, decide_false, cond_true, cond_false, seqJ_n, seqJ_r, seqJ_e, headK_c, asB_bool, asI_int, asS_s, asN_int, Bool.not_true, Bool.not_false, Nat.beq_refl]
  · obtain ⟨k1, k2, k3, k4, k5, k6⟩ := key a b ha.1 (by omega) hb.2
    by_cases hne : a = b
    · subst hne
      simp only [hab, size_is, zig_is, wakes_is, k1, k2, k4, k6, beq_self_eq_true, Option.bind_some, decide_true, decide_false, cond_true, cond_false, seqJ_n, seqJ_r, seqJ_e, headK_c, asB_bool, asI_int, asS_s, asN_int, Bool.not_true, Bool.not_false, Nat.beq_refl]
      by_cases h0 : a = 0
      · subst h0; simp only [beq_self_eq_true, Option.bind_some, decide_true, decide_false, cond_true, cond_false, seqJ_n, seqJ_r, seqJ_e, headK_c, asB_bool, asI_int, asS_s, asN_int, Bool.not_true, Bool.not_false, Nat.beq_refl]
      · obtain ⟨e4, e5⟩ := k5 h0
        simp only [e4, e5, Option.bind_some, decide_true, decide_false, cond_true, cond_false, seqJ_n, seqJ_r, seqJ_e, headK_c, asB_bool, asI_int, asS_s, asN_int, Bool.not_true, Bool.not_false, Nat.beq_refl]
    · obtain ⟨e1, e2, e3⟩ := k3 hne
      simp only [hab, size_is, zig_is, wakes_is, k1, k2, e1, e2, e3, k4, k6, Option.bind_some, decide_true, decide_false, cond_true, cond_false, seqJ_n, seqJ_r, seqJ_e, headK_c, asB_bool, asI_int, asS_s, asN_int, Bool.not_true, Bool.not_false, Nat.beq_refl]
      by_cases h0 : a = 0
      · subst h0; simp only [beq_self_eq_true, Option.bind_some, decide_true, decide_false, cond_true, cond_false, seqJ_n, seqJ_r, seqJ_e, headK_c, asB_bool, asI_int, asS_s, asN_int, Bool.not_true, Bool.not_false, Nat.beq_refl]
      · obtain ⟨e4, e5⟩ := k5 h0
        simp only [e4, e5, Option.bind_some, decide_true, decide_false, cond_true, cond_false, seqJ_n, seqJ_r, seqJ_e, headK_c, asB_bool, asI_int, asS_s, asN_int, Bool.not_true, Bool.not_false, Nat.beq_refl]
end Go.Proofs.Ytpdleoehllhbkaa
