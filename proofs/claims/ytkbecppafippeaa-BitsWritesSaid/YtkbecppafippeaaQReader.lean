/- What a reader of digits comes to. -/
import Derived.Test.YtkbecppafippeaaQWriter
namespace Go.Proofs.Ytkbecppafippeaa
open Go Go.Proofs.Ytkbecppafippeaa.E
set_option linter.unusedVariables false
set_option linter.unusedSimpArgs false
theorem newReader_is {μ : AMem} (hw : WF μ) {y : SV} {bs : List Int} (hy : IsRow μ .u8 y bs) (hl : bs.length ≤ 1000000) :
    ∃ id b μ', bits_NewReader [.s y] μ = some (.s (.ptr id 0 0), μ') ∧ Same μ μ' ∧ St μ.next μ' id b ((0 : Nat) : Int) bs := by
  obtain ⟨b, m, g1, g2, g3, g4, g5⟩ := copyI (e := 5) (B := 1) (b := 1) (n := 5) hw (Keep.refl hw) hy (by omega) (by omega) (by omega)
  have hni : ¬ isId b (μ.next + 3) := fun h => by have := g5 _ h; omega
  refine ⟨μ.next + 3, b, _, by rw [bits_NewReader_eq, g1, asS_s], Keep.setS hw g2 (by omega) (by omega), by omega, ⟨_, set_self _ _ _, rfl, rfl, rfl⟩, g3.old fun id o ho hi => ?_, hni⟩
  have : ¬ id = μ.next + 3 := fun e => hni (e ▸ hi)
  rw [set_obj, if_neg this]; exact ho
theorem digit_is {N : Nat} {μ : AMem} {id : Nat} {b : SV} {a : Nat} {bs : List Int} (h : St N μ id b (a : Int) bs) (on : Nat) (hon : a + on < 8 * bs.length) (hl : bs.length ≤ 1000000) (hb : ∀ v ∈ bs, 0 ≤ v ∧ v < 256) :
    bits_Reader_digit [.s (.ptr id 0 0), .s (.int .i64 on)] μ = some (.s (.int .i64 (digB bs (a + on))), μ) := by
  have hidx : (a + on) / 8 < bs.length := by omega
  have hv := hb _ (getD_mem hidx)
  have e1 : IntKind.wrap .i64 ((a : Int) + (on : Int)) = ((a + on : Nat) : Int) := by rw [wr (by omega)]; rfl
  have e2 : IntKind.wrap .i64 (Int.tdiv ((a + on : Nat) : Int) 8) = (((a + on) / 8 : Nat) : Int) := by rw [Int.tdiv_eq_ediv_of_nonneg (by omega), wr (by omega)]; omega
  have e3 : IntKind.wrap .i64 (7 - Int.tmod ((a + on : Nat) : Int) 8) = ((7 - (a + on) % 8 : Nat) : Int) := by rw [Int.tmod_eq_emod_of_nonneg (by omega), wr (by omega)]; omega
  have e4 : min (Int.toNat ((7 - (a + on) % 8 : Nat) : Int)) (IntKind.bits .i64) = 7 - (a + on) % 8 := by show min _ 64 = _; omega
  have hr := h.2.2.1.row
  have hi := fun {R : Type} (K : AV → Option R) => hr.ind (i := (((a + on) / 8 : Nat) : Int)) (by omega) (by omega) K
  have hld := fun {R : Type} (K : AV → Option R) => hr.load (i := (((a + on) / 8 : Nat) : Int)) (by omega) (by omega) K
  rw [nat_toNat] at hld
  have e5 : IntKind.wrap .i64 (bs.getD ((a + on) / 8) 0) = bs.getD ((a + on) / 8) 0 := wr (by omega)
  rw [bits_Reader_digit_eq]
  simp -implicitDefEqProofs only [h.cell0, h.cell1, e1, e2, hi, hld, Option.bind_some, decide_true, decide_false, cond_true, cond_false, seqJ_n, seqJ_r, seqJ_e, headK_c, asB_bool, asI_int, asS_s, asN_int, extrK_0, extrK_1, extrK_2, Bool.not_true, Bool.not_false, Nat.beq_refl]
  rw [e3, if_neg (by omega), e4, e5, and_one, Int.fdiv_eq_ediv_of_nonneg _ (Int.le_of_lt (Int.pow_pos (by omega)))]
  rfl
theorem Left_is {N : Nat} {μ : AMem} {id : Nat} {b : SV} {a : Nat} {bs : List Int} (h : St N μ id b (a : Int) bs) (hon : a ≤ 8 * bs.length) (hl : bs.length ≤ 1000000) :
    bits_Reader_Left [.s (.ptr id 0 0)] μ = some (.s (.int .i64 ((8 * bs.length - a : Nat) : Int)), μ) := by
  have e : IntKind.wrap .i64 (IntKind.wrap .i64 (8 * ((bs.length : Nat) : Int)) - (a : Int)) = ((8 * bs.length - a : Nat) : Int) := by rw [wr (n := 8 * ((bs.length : Nat) : Int)) (by omega), wr (by omega)]; omega
  rw [bits_Reader_Left_eq]
  simp -implicitDefEqProofs only [h.cell0, h.cell1, h.2.2.1.row.len, e, Option.bind_some, decide_true, decide_false, cond_true, cond_false, seqJ_n, seqJ_r, seqJ_e, headK_c, asB_bool, asI_int, asS_s, asN_int, extrK_0, extrK_1, extrK_2, Bool.not_true, Bool.not_false, Nat.beq_refl]
theorem storeAt_p {R : Type} (m : AMem) (a b c : Nat) (x : SV) (K : AMem → Option R) : storeAt 1 m (.s (.ptr a b c)) (.s x) K = (m.store a b c [x]).bind K := rfl
theorem GetL_loop {N : Nat} {μ : AMem} {id : Nat} {b : SV} {a n : Nat} {bs : List Int} (h : St N μ id b (a : Int) bs) (hon : a + n ≤ 8 * bs.length) (hl : bs.length ≤ 1000000) (hb : ∀ v ∈ bs, 0 ≤ v ∧ v < 256) (hn : n ≤ 62) :
    ∀ k i : Nat, i + k = n → bits_Reader_Get_L1 [.s (.ptr id 0 0), .s (.int .i64 n), .s (.int .i64 n)] [.s (.int .i64 (numB bs a i)), .s (.int .i64 i)] μ = some (.exit 0, [.s (.ptr id 0 0), .s (.int .i64 n), .s (.int .i64 (numB bs a n))], μ)
  | 0, i, hi => by
    obtain rfl : i = n := by omega
    rw [bits_Reader_Get_L1_eq, bits_Reader_Get_L1_B_eq]
    simp -implicitDefEqProofs (disch := omega) only [lt_t, lt_f, gt_t, gt_f, le_t, le_f, ge_t, ge_f, ne_t, ne_f, eq_t, eq_f, w64, chk_true, Option.bind_some, decide_true, decide_false, cond_true, cond_false, seqJ_n, seqJ_r, seqJ_e, headK_c, asB_bool, asI_int, asS_s, asN_int, extrK_0, extrK_1, extrK_2, Bool.not_true, Bool.not_false, Nat.beq_refl]
  | k + 1, i, hi => by
    have ih := GetL_loop h hon hl hb hn k (i + 1) (by omega)
    rw [nsu] at ih
    have hd := digit_is h i (by omega) hl hb
    have h1 := numB_le bs a i
    have h2 := digB_le bs (a + i)
    have h3 := pow_le62 (n := i) (by omega)
    have ho := or_one (v := numB bs a i) (d := digB bs (a + i)) (by omega) (by omega)
    rw [bits_Reader_Get_L1_eq, bits_Reader_Get_L1_B_eq]
    simp -implicitDefEqProofs only [lt_t (show (i : Int) < n by omega), hd, ho, w64 (n := (i : Int) + 1) (by omega) (by omega), Option.bind_some, decide_true, decide_false, cond_true, cond_false, seqJ_n, seqJ_r, seqJ_e, headK_c, asB_bool, asI_int, asS_s, asN_int, extrK_0, extrK_1, extrK_2, Bool.not_true, Bool.not_false, Nat.beq_refl]
    exact ih
theorem Get_is {N : Nat} {μ : AMem} (hw : WF μ) {id : Nat} {b : SV} {a : Nat} {bs : List Int} (h : St N μ id b (a : Int) bs) (hon : a ≤ 8 * bs.length) (hl : bs.length ≤ 1000000) (hb : ∀ v ∈ bs, 0 ≤ v ∧ v < 256) (n : Int) :
    ((n < 0 ∨ n > 62 ∨ n > ((8 * bs.length - a : Nat) : Int)) → bits_Reader_Get [.s (.ptr id 0 0), .s (.int .i64 n)] μ = some (.tuple [.s (.int .i64 0), .s (.bool false)], μ)) ∧
    (0 ≤ n ∧ n ≤ 62 ∧ n ≤ ((8 * bs.length - a : Nat) : Int) → ∃ μ', bits_Reader_Get [.s (.ptr id 0 0), .s (.int .i64 n)] μ = some (.tuple [.s (.int .i64 (numB bs a n.toNat)), .s (.bool true)], μ') ∧ Keep (fun j => j = id) μ μ' ∧ St N μ' id b ((a + n.toNat : Nat) : Int) bs) := by
  have hL := Left_is h hon hl
  refine ⟨fun hn => ?_, fun hn => ?_⟩
  · rw [bits_Reader_Get_eq]
    by_cases h1 : n < 0
    · simp -implicitDefEqProofs (disch := omega) only [lt_t, lt_f, gt_t, gt_f, le_t, le_f, ge_t, ge_f, ne_t, ne_f, eq_t, eq_f, w64, chk_true, Option.bind_some, decide_true, decide_false, cond_true, cond_false, seqJ_n, seqJ_r, seqJ_e, headK_c, asB_bool, asI_int, asS_s, asN_int, extrK_0, extrK_1, extrK_2, Bool.not_true, Bool.not_false, Nat.beq_refl]
    · by_cases h2 : n > 62
      · simp -implicitDefEqProofs (disch := omega) only [lt_t, lt_f, gt_t, gt_f, le_t, le_f, ge_t, ge_f, ne_t, ne_f, eq_t, eq_f, w64, chk_true, Option.bind_some, decide_true, decide_false, cond_true, cond_false, seqJ_n, seqJ_r, seqJ_e, headK_c, asB_bool, asI_int, asS_s, asN_int, extrK_0, extrK_1, extrK_2, Bool.not_true, Bool.not_false, Nat.beq_refl]
      · simp -implicitDefEqProofs (disch := omega) only [lt_t, lt_f, gt_t, gt_f, le_t, le_f, ge_t, ge_f, ne_t, ne_f, eq_t, eq_f, w64, chk_true, Option.bind_some, decide_true, decide_false, cond_true, cond_false, seqJ_n, seqJ_r, seqJ_e, headK_c, asB_bool, asI_int, asS_s, asN_int, extrK_0, extrK_1, extrK_2, Bool.not_true, Bool.not_false, Nat.beq_refl, hL]
  · have hlp := GetL_loop (n := n.toNat) h (by omega) hl hb (by omega) _ 0 (Nat.zero_add _)
    have e0 : ((n.toNat : Nat) : Int) = n := by omega
    rw [n0, e0, show numB bs a 0 = 0 from rfl] at hlp
    obtain ⟨m, s1, s2, s3⟩ := h.count hw ((a + n.toNat : Nat) : Int)
    refine ⟨m, ?_, s2, s3⟩
    have e1 : IntKind.wrap .i64 ((a : Int) + n) = ((a + n.toNat : Nat) : Int) := by rw [wr (by omega)]; omega
    rw [bits_Reader_Get_eq]
    have q1 := lt_f (a := n) (b := 0) (by omega)
    have q2 := gt_f (a := n) (b := 62) (by omega)
    have q3 := gt_f (a := n) (b := ((8 * bs.length - a : Nat) : Int)) (by omega)
    simp -implicitDefEqProofs only [q1, q2, q3, hL, hlp, nonNil_ptr, ptrAdd_p, loadAt_p, storeAt_p, h.cell1, e1, s1, Option.bind_some, decide_true, decide_false, cond_true, cond_false, seqJ_n, seqJ_r, seqJ_e, headK_c, asB_bool, asI_int, asS_s, asN_int, extrK_0, extrK_1, extrK_2, Bool.not_true, Bool.not_false, Nat.beq_refl]
/-- Ones ahead of a nought: how many, whether so, where it goes on. -/
def onesF (bs : List Int) (a left : Nat) : Nat → Nat → Int × Bool × Nat
  | 0, n => ((n : Int), true, a + n)
  | k + 1, n => if left ≤ n then (0, false, a) else if digB bs (a + n) = 0 then ((n : Int), true, a + n + 1) else onesF bs a left k (n + 1)
theorem OnesL_loop {N : Nat} {μ : AMem} (hw : WF μ) {id : Nat} {b : SV} {a most : Nat} {bs : List Int} (h : St N μ id b (a : Int) bs) (hon : a ≤ 8 * bs.length) (hl : bs.length ≤ 1000000) (hb : ∀ v ∈ bs, 0 ≤ v ∧ v < 256) (hm : most ≤ 1024) :
    ∀ k n : Nat, n + k = most →
      (bits_Reader_Ones_L1 [.s (.ptr id 0 0), .s (.int .i64 most), .s (.int .i64 (8 * bs.length - a : Nat)), .s (.int .i64 most)] [.s (.int .i64 n)] μ = some (.exit 0, [.s (.ptr id 0 0), .s (.int .i64 most)], μ) ∧ onesF bs a (8 * bs.length - a) k n = ((most : Int), true, a + most)) ∨
      (∃ μ', bits_Reader_Ones_L1 [.s (.ptr id 0 0), .s (.int .i64 most), .s (.int .i64 (8 * bs.length - a : Nat)), .s (.int .i64 most)] [.s (.int .i64 n)] μ = some (.ret, [.s (.int .i64 (onesF bs a (8 * bs.length - a) k n).1), .s (.bool (onesF bs a (8 * bs.length - a) k n).2.1)], μ') ∧ Keep (fun j => j = id) μ μ' ∧ St N μ' id b ((onesF bs a (8 * bs.length - a) k n).2.2 : Int) bs)
  | 0, n, hn => by
    obtain rfl : n = most := by omega
    refine .inl ⟨?_, rfl⟩
    rw [bits_Reader_Ones_L1_eq, bits_Reader_Ones_L1_B_eq]
    simp -implicitDefEqProofs (disch := omega) only [lt_t, lt_f, gt_t, gt_f, le_t, le_f, ge_t, ge_f, ne_t, ne_f, eq_t, eq_f, w64, chk_true, Option.bind_some, decide_true, decide_false, cond_true, cond_false, seqJ_n, seqJ_r, seqJ_e, headK_c, asB_bool, asI_int, asS_s, asN_int, extrK_0, extrK_1, extrK_2, Bool.not_true, Bool.not_false, Nat.beq_refl]
  | k + 1, n, hn => by
    rw [bits_Reader_Ones_L1_eq, bits_Reader_Ones_L1_B_eq, onesF]
    by_cases c1 : 8 * bs.length - a ≤ n
    · rw [if_pos c1]
      refine .inr ⟨μ, ?_, Keep.refl hw, h⟩
      simp -implicitDefEqProofs (disch := omega) only [lt_t, lt_f, gt_t, gt_f, le_t, le_f, ge_t, ge_f, ne_t, ne_f, eq_t, eq_f, w64, chk_true, Option.bind_some, decide_true, decide_false, cond_true, cond_false, seqJ_n, seqJ_r, seqJ_e, headK_c, asB_bool, asI_int, asS_s, asN_int, extrK_0, extrK_1, extrK_2, Bool.not_true, Bool.not_false, Nat.beq_refl]
    · rw [if_neg c1]
      have hd := digit_is h n (by omega) hl hb
      by_cases c2 : digB bs (a + n) = 0
      · rw [if_pos c2]
        obtain ⟨m, s1, s2, s3⟩ := h.count hw ((a + n + 1 : Nat) : Int)
        refine .inr ⟨m, ?_, s2, s3⟩
        have e1 : IntKind.wrap .i64 (IntKind.wrap .i64 ((a : Int) + (n : Int)) + 1) = ((a + n + 1 : Nat) : Int) := by rw [wr (n := (a : Int) + (n : Int)) (by omega), wr (by omega)]; rfl
        have t0 : ((0 : Int) == 0) = true := rfl
        simp -implicitDefEqProofs only [lt_t (show (n : Int) < most by omega), ge_f (show (n : Int) < ((8 * bs.length - a : Nat) : Int) by omega), hd, c2, t0, h.cell1, e1, s1, Option.bind_some, decide_true, decide_false, cond_true, cond_false, seqJ_n, seqJ_r, seqJ_e, headK_c, asB_bool, asI_int, asS_s, asN_int, extrK_0, extrK_1, extrK_2, Bool.not_true, Bool.not_false, Nat.beq_refl]
      · rw [if_neg c2]
        have ih := OnesL_loop hw h hon hl hb hm k (n + 1) (by omega)
        rw [nsu] at ih
        have t0 : (digB bs (a + n) == 0) = false := by simp [c2]
        simp -implicitDefEqProofs only [lt_t (show (n : Int) < most by omega), ge_f (show (n : Int) < ((8 * bs.length - a : Nat) : Int) by omega), hd, t0, w64 (n := (n : Int) + 1) (by omega) (by omega), Option.bind_some, decide_true, decide_false, cond_true, cond_false, seqJ_n, seqJ_r, seqJ_e, headK_c, asB_bool, asI_int, asS_s, asN_int, extrK_0, extrK_1, extrK_2, Bool.not_true, Bool.not_false, Nat.beq_refl]
        exact ih
theorem OnesR_is {N : Nat} {μ : AMem} (hw : WF μ) {id : Nat} {b : SV} {a : Nat} {bs : List Int} (h : St N μ id b (a : Int) bs) (hon : a ≤ 8 * bs.length) (hl : bs.length ≤ 1000000) (hb : ∀ v ∈ bs, 0 ≤ v ∧ v < 256) (most : Int) :
    ((most < 0 ∨ most > 1024) → bits_Reader_Ones [.s (.ptr id 0 0), .s (.int .i64 most)] μ = some (.tuple [.s (.int .i64 0), .s (.bool false)], μ)) ∧
    (0 ≤ most ∧ most ≤ 1024 → ∃ μ', bits_Reader_Ones [.s (.ptr id 0 0), .s (.int .i64 most)] μ = some (.tuple [.s (.int .i64 (onesF bs a (8 * bs.length - a) most.toNat 0).1), .s (.bool (onesF bs a (8 * bs.length - a) most.toNat 0).2.1)], μ') ∧ Keep (fun j => j = id) μ μ' ∧ St N μ' id b ((onesF bs a (8 * bs.length - a) most.toNat 0).2.2 : Int) bs) := by
  have hL := Left_is h hon hl
  refine ⟨fun hn => ?_, fun hn => ?_⟩
  · rw [bits_Reader_Ones_eq]
    by_cases h1 : most < 0
    · simp -implicitDefEqProofs (disch := omega) only [lt_t, lt_f, gt_t, gt_f, le_t, le_f, ge_t, ge_f, ne_t, ne_f, eq_t, eq_f, w64, chk_true, Option.bind_some, decide_true, decide_false, cond_true, cond_false, seqJ_n, seqJ_r, seqJ_e, headK_c, asB_bool, asI_int, asS_s, asN_int, extrK_0, extrK_1, extrK_2, Bool.not_true, Bool.not_false, Nat.beq_refl]
    · simp -implicitDefEqProofs (disch := omega) only [lt_t, lt_f, gt_t, gt_f, le_t, le_f, ge_t, ge_f, ne_t, ne_f, eq_t, eq_f, w64, chk_true, Option.bind_some, decide_true, decide_false, cond_true, cond_false, seqJ_n, seqJ_r, seqJ_e, headK_c, asB_bool, asI_int, asS_s, asN_int, extrK_0, extrK_1, extrK_2, Bool.not_true, Bool.not_false, Nat.beq_refl]
  · have e0 : ((most.toNat : Nat) : Int) = most := by omega
    have q1 := lt_f (a := most) (b := 0) (by omega)
    have q2 := gt_f (a := most) (b := 1024) (by omega)
    rw [bits_Reader_Ones_eq]
    rcases OnesL_loop (most := most.toNat) hw h hon hl hb (by omega) most.toNat 0 (Nat.zero_add _) with ⟨e, hf⟩ | ⟨μ', e, k, hs⟩
    · rw [e0, n0] at e
      rw [hf]
      obtain ⟨m, s1, s2, s3⟩ := h.count hw ((a + most.toNat : Nat) : Int)
      refine ⟨m, ?_, s2, s3⟩
      have e1 : IntKind.wrap .i64 ((a : Int) + most) = ((a + most.toNat : Nat) : Int) := by rw [wr (by omega)]; omega
      simp -implicitDefEqProofs only [q1, q2, hL, e, nonNil_ptr, ptrAdd_p, loadAt_p, storeAt_p, h.cell1, e1, s1, e0, Option.bind_some, decide_true, decide_false, cond_true, cond_false, seqJ_n, seqJ_r, seqJ_e, headK_c, asB_bool, asI_int, asS_s, asN_int, extrK_0, extrK_1, extrK_2, Bool.not_true, Bool.not_false, Nat.beq_refl]
    · rw [e0, n0] at e
      refine ⟨μ', ?_, k, hs⟩
      simp -implicitDefEqProofs only [q1, q2, hL, e, Option.bind_some, decide_true, decide_false, cond_true, cond_false, seqJ_n, seqJ_r, seqJ_e, headK_c, asB_bool, asI_int, asS_s, asN_int, extrK_0, extrK_1, extrK_2, Bool.not_true, Bool.not_false, Nat.beq_refl]
end Go.Proofs.Ytkbecppafippeaa
