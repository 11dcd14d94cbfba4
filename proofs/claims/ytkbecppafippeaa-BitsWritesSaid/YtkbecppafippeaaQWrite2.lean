/- Numbers and ones put behind digits; the bytes of all. -/
import Derived.Test.YtkbecppafippeaaQWriter
import Derived.Test.YtkbecppafippeaaKFresh
namespace Go.Proofs.Ytkbecppafippeaa
open Go Go.Proofs.Ytkbecppafippeaa.E
set_option linter.unusedVariables false
set_option linter.unusedSimpArgs false
theorem fdivp2 (z : Int) (n : Nat) : Int.fdiv z (2 ^ n) = z / 2 ^ n := Int.fdiv_eq_ediv_of_nonneg _ (Int.le_of_lt (Int.pow_pos (by omega)))
theorem mod2_01 (a : Int) : (if (a % 2 == 1) = true then (1 : Int) else 0) = a % 2 := by
  rcases (show a % 2 = 0 ∨ a % 2 = 1 by omega) with h | h <;> rw [h] <;> rfl
theorem Put_loop {N : Nat} {x : SV} {v : Int} :
    ∀ (k : Nat) (μ : AMem) (F : Nat → Prop) (ds : List Int), WF μ → k ≤ 63 → ds.length + k ≤ 1000000 → Wr N μ x F ds →
      ∃ F' μ', bits_Writer_Put_L1 [.s x, .s (.int .i64 v)] [.s (.int .i64 ((k : Int) - 1))] μ = some (.exit 0, [], μ') ∧ Keep F μ μ' ∧ Wr N μ' x F' (ds ++ putD v k) ∧ ∀ j, F' j → F j ∨ μ.next ≤ j
  | 0, μ, F, ds, hw, hk, hl, h => by
    obtain ⟨id, b, bs, rfl, hr⟩ := h
    rw [bits_Writer_Put_L1_eq, bits_Writer_Put_L1_B_eq]
    refine ⟨F, μ, ?_, Keep.refl hw, ?_, fun j hj => .inl hj⟩
    · simp -implicitDefEqProofs (disch := omega) only [lt_t, lt_f, gt_t, gt_f, le_t, le_f, ge_t, ge_f, ne_t, ne_f, eq_t, eq_f, w64, chk_true, Option.bind_some, decide_true, decide_false, cond_true, cond_false, seqJ_n, seqJ_r, seqJ_e, headK_c, asB_bool, asI_int, asS_s, asN_int, extrK_0, extrK_1, extrK_2, Bool.not_true, Bool.not_false, Nat.beq_refl]
    · rw [putD, List.append_nil]; exact ⟨id, b, bs, rfl, hr⟩
  | k + 1, μ, F, ds, hw, hk, hl, h => by
    obtain ⟨F1, m1, e1, k1, w1, f1⟩ := put_is hw h (by omega) (v / 2 ^ k % 2 == 1)
    rw [mod2_01] at w1
    obtain ⟨F2, m2, e2, k2, w2, f2⟩ := Put_loop (v := v) k m1 F1 _ k1.wf (by omega) (by simp; omega) w1
    rw [List.append_assoc] at w2
    refine ⟨F2, m2, ?_, k1.trans2 k2 f1 hw, w2, fun j hj => ?_⟩
    · obtain ⟨id, b, bs, rfl, hr⟩ := h
      have e0 : ((k + 1 : Nat) : Int) - 1 = (k : Int) := by omega
      have hm : min (Int.toNat (k : Int)) (IntKind.bits .i64) = k := by show min _ 64 = k; omega
      rw [e0, bits_Writer_Put_L1_eq, bits_Writer_Put_L1_B_eq]
      simp -implicitDefEqProofs only [ge_t (show (0 : Int) ≤ k by omega), hm, fdivp2, and_one, e1, Option.bind_some, decide_true, decide_false, cond_true, cond_false, seqJ_n, seqJ_r, seqJ_e, headK_c, asB_bool, asI_int, asS_s, asN_int, extrK_0, extrK_1, extrK_2, Bool.not_true, Bool.not_false, Nat.beq_refl]
      rw [if_neg (by omega)]
      simp -implicitDefEqProofs (disch := omega) only [lt_t, lt_f, gt_t, gt_f, le_t, le_f, ge_t, ge_f, ne_t, ne_f, eq_t, eq_f, w64, chk_true, Option.bind_some, decide_true, decide_false, cond_true, cond_false, seqJ_n, seqJ_r, seqJ_e, headK_c, asB_bool, asI_int, asS_s, asN_int, extrK_0, extrK_1, extrK_2, Bool.not_true, Bool.not_false, Nat.beq_refl]
      exact e2
    · rcases f2 j hj with h1 | h1
      · exact f1 j h1
      · exact .inr (Nat.le_trans k1.next h1)
theorem Put_is {N : Nat} {μ : AMem} (hw : WF μ) {x : SV} {F : Nat → Prop} {ds : List Int} (h : Wr N μ x F ds) (hl : ds.length ≤ 900000) (v n : Int) :
    ((n < 0 ∨ n > 62) → bits_Writer_Put [.s x, .s (.int .i64 v), .s (.int .i64 n)] μ = some (.s (.bool false), μ)) ∧
    (0 ≤ n ∧ n ≤ 62 → ∃ F' μ', bits_Writer_Put [.s x, .s (.int .i64 v), .s (.int .i64 n)] μ = some (.s (.bool true), μ') ∧ Keep F μ μ' ∧ Wr N μ' x F' (ds ++ putD v n.toNat) ∧ ∀ j, F' j → F j ∨ μ.next ≤ j) := by
  refine ⟨fun hn => ?_, fun hn => ?_⟩
  · obtain ⟨id, b, bs, rfl, hr⟩ := h
    rw [bits_Writer_Put_eq]
    by_cases h1 : n < 0
    · simp -implicitDefEqProofs (disch := omega) only [lt_t, lt_f, gt_t, gt_f, le_t, le_f, ge_t, ge_f, ne_t, ne_f, eq_t, eq_f, w64, chk_true, Option.bind_some, decide_true, decide_false, cond_true, cond_false, seqJ_n, seqJ_r, seqJ_e, headK_c, asB_bool, asI_int, asS_s, asN_int, extrK_0, extrK_1, extrK_2, Bool.not_true, Bool.not_false, Nat.beq_refl]
    · simp -implicitDefEqProofs (disch := omega) only [lt_t, lt_f, gt_t, gt_f, le_t, le_f, ge_t, ge_f, ne_t, ne_f, eq_t, eq_f, w64, chk_true, Option.bind_some, decide_true, decide_false, cond_true, cond_false, seqJ_n, seqJ_r, seqJ_e, headK_c, asB_bool, asI_int, asS_s, asN_int, extrK_0, extrK_1, extrK_2, Bool.not_true, Bool.not_false, Nat.beq_refl]
  · obtain ⟨F', μ', e1, k1, w1, f1⟩ := Put_loop (v := v) n.toNat μ F ds hw (by omega) (by omega) h
    refine ⟨F', μ', ?_, k1, w1, f1⟩
    have e0 : ((n.toNat : Nat) : Int) - 1 = n - 1 := by omega
    rw [e0] at e1
    obtain ⟨id, b, bs, rfl, hr⟩ := h
    rw [bits_Writer_Put_eq]
    simp -implicitDefEqProofs (disch := omega) only [lt_t, lt_f, gt_t, gt_f, le_t, le_f, ge_t, ge_f, ne_t, ne_f, eq_t, eq_f, w64, chk_true, Option.bind_some, decide_true, decide_false, cond_true, cond_false, seqJ_n, seqJ_r, seqJ_e, headK_c, asB_bool, asI_int, asS_s, asN_int, extrK_0, extrK_1, extrK_2, Bool.not_true, Bool.not_false, Nat.beq_refl, e1]
theorem Ones_loop {N : Nat} {x : SV} {n : Nat} (hn : n ≤ 1024) :
    ∀ (k i : Nat) (μ : AMem) (F : Nat → Prop) (ds : List Int), i + k = n → WF μ → ds.length + k ≤ 1000000 → Wr N μ x F ds →
      ∃ F' μ', bits_Writer_Ones_L1 [.s x, .s (.int .i64 n)] [.s (.int .i64 i)] μ = some (.exit 0, [.s x], μ') ∧ Keep F μ μ' ∧ Wr N μ' x F' (ds ++ List.replicate k 1) ∧ ∀ j, F' j → F j ∨ μ.next ≤ j
  | 0, i, μ, F, ds, hi, hw, hl, h => by
    obtain ⟨id, b, bs, rfl, hr⟩ := h
    rw [bits_Writer_Ones_L1_eq, bits_Writer_Ones_L1_B_eq]
    refine ⟨F, μ, ?_, Keep.refl hw, ?_, fun j hj => .inl hj⟩
    · simp -implicitDefEqProofs (disch := omega) only [lt_t, lt_f, gt_t, gt_f, le_t, le_f, ge_t, ge_f, ne_t, ne_f, eq_t, eq_f, w64, chk_true, Option.bind_some, decide_true, decide_false, cond_true, cond_false, seqJ_n, seqJ_r, seqJ_e, headK_c, asB_bool, asI_int, asS_s, asN_int, extrK_0, extrK_1, extrK_2, Bool.not_true, Bool.not_false, Nat.beq_refl]
    · rw [List.replicate_zero, List.append_nil]; exact ⟨id, b, bs, rfl, hr⟩
  | k + 1, i, μ, F, ds, hi, hw, hl, h => by
    obtain ⟨F1, m1, e1, k1, w1, f1⟩ := put_is hw h (by omega) true
    obtain ⟨F2, m2, e2, k2, w2, f2⟩ := Ones_loop hn k (i + 1) m1 F1 _ (by omega) k1.wf (by simp; omega) w1
    rw [nsu] at e2
    rw [List.append_assoc] at w2
    refine ⟨F2, m2, ?_, k1.trans2 k2 f1 hw, w2, fun j hj => ?_⟩
    · obtain ⟨id, b, bs, rfl, hr⟩ := h
      rw [bits_Writer_Ones_L1_eq, bits_Writer_Ones_L1_B_eq]
      simp -implicitDefEqProofs (disch := omega) only [lt_t, lt_f, gt_t, gt_f, le_t, le_f, ge_t, ge_f, ne_t, ne_f, eq_t, eq_f, w64, chk_true, Option.bind_some, decide_true, decide_false, cond_true, cond_false, seqJ_n, seqJ_r, seqJ_e, headK_c, asB_bool, asI_int, asS_s, asN_int, extrK_0, extrK_1, extrK_2, Bool.not_true, Bool.not_false, Nat.beq_refl, e1]
      exact e2
    · rcases f2 j hj with h1 | h1
      · exact f1 j h1
      · exact .inr (Nat.le_trans k1.next h1)
theorem Ones_is {N : Nat} {μ : AMem} (hw : WF μ) {x : SV} {F : Nat → Prop} {ds : List Int} (h : Wr N μ x F ds) (hl : ds.length ≤ 900000) (n : Int) :
    ((n < 0 ∨ n > 1024) → bits_Writer_Ones [.s x, .s (.int .i64 n)] μ = some (.s (.bool false), μ)) ∧
    (0 ≤ n ∧ n ≤ 1024 → ∃ F' μ', bits_Writer_Ones [.s x, .s (.int .i64 n)] μ = some (.s (.bool true), μ') ∧ Keep F μ μ' ∧ Wr N μ' x F' (ds ++ List.replicate n.toNat 1 ++ [0]) ∧ ∀ j, F' j → F j ∨ μ.next ≤ j) := by
  refine ⟨fun hn => ?_, fun hn => ?_⟩
  · obtain ⟨id, b, bs, rfl, hr⟩ := h
    rw [bits_Writer_Ones_eq]
    by_cases h1 : n < 0
    · simp -implicitDefEqProofs (disch := omega) only [lt_t, lt_f, gt_t, gt_f, le_t, le_f, ge_t, ge_f, ne_t, ne_f, eq_t, eq_f, w64, chk_true, Option.bind_some, decide_true, decide_false, cond_true, cond_false, seqJ_n, seqJ_r, seqJ_e, headK_c, asB_bool, asI_int, asS_s, asN_int, extrK_0, extrK_1, extrK_2, Bool.not_true, Bool.not_false, Nat.beq_refl]
    · simp -implicitDefEqProofs (disch := omega) only [lt_t, lt_f, gt_t, gt_f, le_t, le_f, ge_t, ge_f, ne_t, ne_f, eq_t, eq_f, w64, chk_true, Option.bind_some, decide_true, decide_false, cond_true, cond_false, seqJ_n, seqJ_r, seqJ_e, headK_c, asB_bool, asI_int, asS_s, asN_int, extrK_0, extrK_1, extrK_2, Bool.not_true, Bool.not_false, Nat.beq_refl]
  · obtain ⟨F1, m1, e1, k1, w1, f1⟩ := Ones_loop (n := n.toNat) (by omega) n.toNat 0 μ F ds (by omega) hw (by omega) h
    obtain ⟨F2, m2, e2, k2, w2, f2⟩ := put_is k1.wf w1 (by simp; omega) false
    refine ⟨F2, m2, ?_, k1.trans2 k2 f1 hw, w2, fun j hj => ?_⟩
    · have e0 : ((n.toNat : Nat) : Int) = n := by omega
      rw [e0, n0] at e1
      obtain ⟨id, b, bs, rfl, hr⟩ := h
      rw [bits_Writer_Ones_eq]
      simp -implicitDefEqProofs (disch := omega) only [lt_t, lt_f, gt_t, gt_f, le_t, le_f, ge_t, ge_f, ne_t, ne_f, eq_t, eq_f, w64, chk_true, Option.bind_some, decide_true, decide_false, cond_true, cond_false, seqJ_n, seqJ_r, seqJ_e, headK_c, asB_bool, asI_int, asS_s, asN_int, extrK_0, extrK_1, extrK_2, Bool.not_true, Bool.not_false, Nat.beq_refl, e1, e2]
    · rcases f2 j hj with h1 | h1
      · exact f1 j h1
      · exact .inr (Nat.le_trans k1.next h1)
theorem Len_is {N : Nat} {μ : AMem} {x : SV} {F : Nat → Prop} {ds : List Int} (h : Wr N μ x F ds) : bits_Writer_Len [.s x] μ = some (.s (.int .i64 ds.length), μ) := by
  obtain ⟨id, b, bs, rfl, _, hs, _⟩ := h
  rw [bits_Writer_Len_eq]
  simp -implicitDefEqProofs only [hs.cell1, Option.bind_some, decide_true, decide_false, cond_true, cond_false, seqJ_n, seqJ_r, seqJ_e, headK_c, asB_bool, asI_int, asS_s, asN_int, extrK_0, extrK_1, extrK_2, Bool.not_true, Bool.not_false, Nat.beq_refl]
theorem Bytes_is {N : Nat} {μ : AMem} (hw : WF μ) {x : SV} {F : Nat → Prop} {ds : List Int} (h : Wr N μ x F ds) (hl : ds.length ≤ 1000000) :
    ∃ y bs μ', bits_Writer_Bytes [.s x] μ = some (.s y, μ') ∧ Same μ μ' ∧ OwnRow μ.next μ' .u8 5 y bs ∧ holds bs ds := by
  obtain ⟨id, b, bs, rfl, _, hs, hh⟩ := h
  have hlb := hh.1
  obtain ⟨y, μ', g1, g2, g3⟩ := copyS (e := 5) (B := 1) (b := 4) (n := 6) hw (Keep.refl hw) hs.2.2.1.row (by omega) (by omega) (by omega)
  refine ⟨y, bs, μ', ?_, g2, g3, hh⟩
  rw [bits_Writer_Bytes_eq]
  simp -implicitDefEqProofs only [bump_cell, hs.cell0, g1, Option.bind_some, decide_true, decide_false, cond_true, cond_false, seqJ_n, seqJ_r, seqJ_e, headK_c, asB_bool, asI_int, asS_s, asN_int, extrK_0, extrK_1, extrK_2, Bool.not_true, Bool.not_false, Nat.beq_refl]
/-- The bytes are just made. -/
theorem BytesF_is {N : Nat} {μ : AMem} (hw : WF μ) {x : SV} {F : Nat → Prop} {ds : List Int} (h : Wr N μ x F ds) (hl : ds.length ≤ 1000000) :
    ∃ y bs μ', bits_Writer_Bytes [.s x] μ = some (.s y, μ') ∧ Same μ μ' ∧ Fresh μ.next μ' .u8 5 y bs ∧ holds bs ds := by
  obtain ⟨id, b, bs, rfl, _, hs, hh⟩ := h
  have hlb := hh.1
  obtain ⟨y, μ', g1, g2, g3⟩ := copyF (e := 5) (B := 1) (b := 4) (n := 6) hw (Keep.refl hw) hs.2.2.1.row (by omega) (by omega) (by omega)
  refine ⟨y, bs, μ', ?_, g2, g3, hh⟩
  rw [bits_Writer_Bytes_eq]
  simp -implicitDefEqProofs only [bump_cell, hs.cell0, g1, Option.bind_some, decide_true, decide_false, cond_true, cond_false, seqJ_n, seqJ_r, seqJ_e, headK_c, asB_bool, asI_int, asS_s, asN_int, extrK_0, extrK_1, extrK_2, Bool.not_true, Bool.not_false, Nat.beq_refl]
end Go.Proofs.Ytkbecppafippeaa
