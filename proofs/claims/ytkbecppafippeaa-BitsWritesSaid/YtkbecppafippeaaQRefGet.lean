/- The document's digits: of bytes, numbers and ones taken. -/
import Derived.Test.YtkbecppafippeaaQRefPut
namespace Go.Proofs.Ytkbecppafippeaa
open Go Go.Proofs.Ytkbecppafippeaa.E
set_option linter.unusedVariables false
set_option linter.unusedSimpArgs false
/-- A cut up to the end is of the same object. -/
theorem back3 {μ : AMem} {k : IntKind} {x : SV} {zs : List Int} (h : IsRow μ k x zs) {n : Nat} (hn : n ≤ zs.length) : ∃ y, (∀ {R : Type} (K : AV → Option R), cutS 1 (.s x) (n : Int) (zs.length : Int) K = K (.s y)) ∧ IsRow μ k y (zs.drop n) ∧ ∀ j, isId y j → isId x j := by
  refine ⟨cutV x n zs.length, fun K => h.cut (by omega) (by omega) (by omega) K, ?_, fun j hj => ?_⟩
  · have := h.cutRow (a := n) (b := (zs.length : Int)) (by omega) (by omega) (by omega)
    simpa using this
  · cases x <;> first | exact hj | exact hj.elim
/-- The digits that are left. -/
def At (bs : List Int) (a : Nat) (l : List Int) : Prop := l.length = 8 * bs.length - a ∧ ∀ j, l.getD j 0 = digB bs (a + j)
theorem At.drop {bs l : List Int} {a : Nat} (h : At bs a l) (n : Nat) : At bs (a + n) (l.drop n) := by
  refine ⟨by rw [List.length_drop, h.1]; omega, fun j => ?_⟩
  rw [Nat.add_assoc, ← h.2 (n + j), List.getD_eq_getElem?_getD, List.getElem?_drop, List.getD_eq_getElem?_getD]
theorem ofL_loop {μ0 : AMem} (h0 : WF μ0) {x : SV} {bs : List Int} {n1 i1 : Int} {i : Nat} (hx : IsRow μ0 .u8 x bs) (hi : i < bs.length) (hv : 0 ≤ bs.getD i 0 ∧ bs.getD i 0 < 256) (hb : bs.length ≤ 1000) :
    ∀ (k : Nat) (μ : AMem) (y : SV) (zs : List Int), k ≤ 8 → zs.length + k ≤ 100000 → Same μ0 μ → OwnRow μ0.next μ .u8 5 y zs →
      ∃ y' μ', overdubref01_Of_L2 [.s x, .s (.int .i64 i), .s (.int .i64 n1), .s (.int .i64 i1)] [.s y, .s (.int .i64 ((k : Int) - 1))] μ = some (.exit 2, [.s x, .s y', .s (.int .i64 n1), .s (.int .i64 i1)], μ') ∧ Same μ0 μ' ∧ OwnRow μ0.next μ' .u8 5 y' (zs ++ putD (bs.getD i 0) k)
  | 0, μ, y, zs, hk, hl, hs, hy => by
    rw [overdubref01_Of_L2_eq, overdubref01_Of_L2_B_eq, putD, List.append_nil]
    simp -implicitDefEqProofs (disch := omega) only [lt_t, lt_f, gt_t, gt_f, le_t, le_f, ge_t, ge_f, ne_t, ne_f, eq_t, eq_f, w64, chk_true, Option.bind_some, decide_true, decide_false, cond_true, cond_false, seqJ_n, seqJ_r, seqJ_e, headK_c, asB_bool, asI_int, asS_s, asN_int, extrK_0, extrK_1, extrK_2, Bool.not_true, Bool.not_false, Nat.beq_refl]
    exact ⟨y, μ, rfl, hs, hy⟩
  | k + 1, μ, y, zs, hk, hl, hs, hy => by
    have hx12 := hx.same (bumpS hs 12)
    obtain ⟨y', μ', p1, p2, p3⟩ := pushS (B := 1) (a := 9) (b := 10) (n := 12) (q := some 1) h0 hs hy (bs.getD i 0 / 2 ^ k % 2) (by omega) (by omega) (by omega) (by omega) (by omega)
    obtain ⟨y2, μ2, q1, q2, q3⟩ := ofL_loop (n1 := n1) (i1 := i1) h0 hx hi hv hb k μ' y' _ (by omega) (by simp; omega) p2 p3
    rw [List.append_assoc] at q3
    refine ⟨y2, μ2, ?_, q2, q3⟩
    have e0 : ((k + 1 : Nat) : Int) - 1 = (k : Int) := by omega
    have hu := u64n (n := k) (by omega)
    have hmin : min (Int.toNat (k : Int)) (IntKind.bits .u8) = k := by show min _ 8 = k; omega
    have hand : IntKind.wrap .u8 (BitVec.toNat ((BitVec.ofInt (IntKind.bits .u8) (bs.getD i 0 / 2 ^ k)) &&& (BitVec.ofInt (IntKind.bits .u8) 1))) = bs.getD i 0 / 2 ^ k % 2 := by
      have e : (BitVec.toNat ((BitVec.ofInt (IntKind.bits .u8) (bs.getD i 0 / 2 ^ k)) &&& (BitVec.ofInt (IntKind.bits .u8) 1)) : Int) = bs.getD i 0 / 2 ^ k % 2 := by
        show ((BitVec.toNat ((BitVec.ofInt 8 (bs.getD i 0 / 2 ^ k)) &&& (BitVec.ofInt 8 1)) : Nat) : Int) = _
        rw [BitVec.toNat_and, BitVec.toNat_ofInt, BitVec.toNat_ofInt]
        have : (1 : Int) % ((2 ^ 8 : Nat) : Int) = 1 := by decide
        rw [this, show (1 : Int).toNat = 1 from rfl, Nat.and_one_is_mod]
        omega
      rw [e, wu8 (by omega)]
    have ei : IntKind.wrap .i64 ((k : Int) - 1) = (k : Int) - 1 := wr (by omega)
    have hi1 := fun {R : Type} (K : AV → Option R) => (hx.same hs).ind (i := (i : Int)) (by omega) (by omega) K
    have hl1 := fun {R : Type} (K : AV → Option R) => hx12.load (i := (i : Int)) (by omega) (by omega) K
    rw [nat_toNat] at hl1
    rw [e0, overdubref01_Of_L2_eq, overdubref01_Of_L2_B_eq]
    simp -implicitDefEqProofs only [ge_t (show (0 : Int) ≤ k by omega), hi1, hl1, hu, if_neg (show ¬ (k : Int) < 0 by omega), hmin, fdivp2, hand, p1, ei, Option.bind_some, decide_true, decide_false, cond_true, cond_false, seqJ_n, seqJ_r, seqJ_e, headK_c, asB_bool, asI_int, asS_s, asN_int, extrK_0, extrK_1, extrK_2, Bool.not_true, Bool.not_false, Nat.beq_refl]
    exact q1
def ofD (bs : List Int) : List Int := bs.flatMap fun v => putD v 8
theorem ofD_snoc (bs : List Int) (v : Int) : ofD (bs ++ [v]) = ofD bs ++ putD v 8 := by simp [ofD]
theorem ofD_len : ∀ bs : List Int, (ofD bs).length = 8 * bs.length
  | [] => rfl
  | v :: bs => by
    have := ofD_len bs
    simp only [ofD, List.flatMap_cons, List.length_append, putD_len, List.length_cons] at this ⊢
    omega
theorem ofD_get : ∀ (bs : List Int) (j : Nat), (ofD bs).getD j 0 = digB bs j
  | [], j => by unfold digB; simp [ofD, digV_zero]
  | v :: bs, j => by
    show (putD v 8 ++ ofD bs).getD j 0 = _
    rw [getD_app, putD_len]
    by_cases h : j < 8
    · rw [if_pos h, putD_get v 8 j h]
      unfold digB digV
      rw [show j / 8 = 0 by omega, show j % 8 = j by omega]; rfl
    · rw [if_neg h, ofD_get bs (j - 8)]
      unfold digB
      rw [show j / 8 = (j - 8) / 8 + 1 by omega, show j % 8 = (j - 8) % 8 by omega]; rfl
theorem of_loop {μ0 : AMem} (h0 : WF μ0) {x : SV} {bs : List Int} (hx : IsRow μ0 .u8 x bs) (hv : ∀ v ∈ bs, 0 ≤ v ∧ v < 256) (hb : bs.length ≤ 1000) :
    ∀ (k i : Nat) (μ : AMem) (y : SV), i + k = bs.length → Same μ0 μ → OwnRow μ0.next μ .u8 5 y (ofD (bs.take i)) →
      ∃ y' μ', overdubref01_Of_L1 [.s x, .s (.int .i64 bs.length)] [.s y, .s (.int .i64 i)] μ = some (.exit 0, [.s y'], μ') ∧ Same μ0 μ' ∧ OwnRow μ0.next μ' .u8 5 y' (ofD bs)
  | 0, i, μ, y, h, hs, hy => by
    rw [overdubref01_Of_L1_eq, overdubref01_Of_L1_B_eq]
    rw [List.take_of_length_le (by omega)] at hy
    simp -implicitDefEqProofs (disch := omega) only [lt_t, lt_f, gt_t, gt_f, le_t, le_f, ge_t, ge_f, ne_t, ne_f, eq_t, eq_f, w64, chk_true, Option.bind_some, decide_true, decide_false, cond_true, cond_false, seqJ_n, seqJ_r, seqJ_e, headK_c, asB_bool, asI_int, asS_s, asN_int, extrK_0, extrK_1, extrK_2, Bool.not_true, Bool.not_false, Nat.beq_refl]
    exact ⟨y, μ, rfl, hs, hy⟩
  | k + 1, i, μ, y, h, hs, hy => by
    have hi : i < bs.length := by omega
    have hlen : (ofD (bs.take i)).length = 8 * i := by rw [ofD_len]; simp; omega
    obtain ⟨y1, m1, e1, k1, o1⟩ := ofL_loop (n1 := (bs.length : Int)) (i1 := (i : Int)) h0 hx hi (hv _ (getD_mem hi)) hb 8 μ y _ (by omega) (by omega) hs hy
    rw [show ((8 : Nat) : Int) - 1 = 7 from rfl] at e1
    rw [← ofD_snoc, ← take_snoc hi] at o1
    obtain ⟨y2, m2, q1, q2, q3⟩ := of_loop h0 hx hv hb k (i + 1) m1 y1 (by omega) k1 o1
    rw [nsu] at q1
    refine ⟨y2, m2, ?_, q2, q3⟩
    have c1 := lt_t (a := (i : Int)) (b := (bs.length : Int)) (by omega)
    have ei : IntKind.wrap .i64 ((i : Int) + 1) = (i : Int) + 1 := wr (by omega)
    rw [overdubref01_Of_L1_eq, overdubref01_Of_L1_B_eq]
    simp -implicitDefEqProofs only [c1, e1, ei, Option.bind_some, decide_true, decide_false, cond_true, cond_false, seqJ_n, seqJ_r, seqJ_e, headK_c, asB_bool, asI_int, asS_s, asN_int, extrK_0, extrK_1, extrK_2, Bool.not_true, Bool.not_false, Nat.beq_refl]
    exact q1
theorem Of_is {μ : AMem} (h0 : WF μ) {x : SV} {bs : List Int} (hx : IsRow μ .u8 x bs) (hv : ∀ v ∈ bs, 0 ≤ v ∧ v < 256) (hb : bs.length ≤ 1000) :
    ∃ y l μ', overdubref01_Of [.s x] μ = some (.s y, μ') ∧ Same μ μ' ∧ IsRow μ' .u8 y l ∧ At bs 0 l ∧ ∀ j, isId y j → μ.next ≤ j := by
  obtain ⟨y, m, q1, q2, q3⟩ := of_loop h0 hx hv hb bs.length 0 μ .nilSlice (by omega) (Keep.refl h0) (OwnRow.nil _ _ _ _)
  rw [n0] at q1
  refine ⟨y, ofD bs, m, ?_, q2, q3.row, ⟨by rw [ofD_len]; omega, fun j => by rw [ofD_get, Nat.zero_add]⟩, fun j hj => (own_lives q3 hj).1⟩
  rw [overdubref01_Of_eq]
  simp -implicitDefEqProofs only [hx.len, q1, Option.bind_some, decide_true, decide_false, cond_true, cond_false, seqJ_n, seqJ_r, seqJ_e, headK_c, asB_bool, asI_int, asS_s, asN_int, extrK_0, extrK_1, extrK_2, Bool.not_true, Bool.not_false, Nat.beq_refl]
theorem refGet_loop {μ : AMem} {x : SV} {bs l : List Int} {a n : Nat} (hx : IsRow μ .u8 x l) (hA : At bs a l) (hn : n ≤ l.length) (hn2 : n ≤ 62) :
    ∀ k i : Nat, i + k = n → overdubref01_Bits_Get_L1 [.s x, .s (.int .i64 n)] [.s (.int .i64 (numB bs a i)), .s (.int .i64 i)] μ = some (.exit 0, [.s x, .s (.int .i64 n), .s (.int .i64 (numB bs a n))], μ)
  | 0, i, h => by
    obtain rfl : i = n := by omega
    rw [overdubref01_Bits_Get_L1_eq, overdubref01_Bits_Get_L1_B_eq]
    simp -implicitDefEqProofs (disch := omega) only [lt_t, lt_f, gt_t, gt_f, le_t, le_f, ge_t, ge_f, ne_t, ne_f, eq_t, eq_f, w64, chk_true, Option.bind_some, decide_true, decide_false, cond_true, cond_false, seqJ_n, seqJ_r, seqJ_e, headK_c, asB_bool, asI_int, asS_s, asN_int, extrK_0, extrK_1, extrK_2, Bool.not_true, Bool.not_false, Nat.beq_refl]
  | k + 1, i, h => by
    have ih := refGet_loop hx hA hn hn2 k (i + 1) (by omega)
    rw [nsu] at ih
    have h1 := numB_le bs a i
    have h2 := digB_le bs (a + i)
    have h3 := pow_le62 (n := i) (by omega)
    have hi1 := fun {R : Type} (K : AV → Option R) => hx.ind (i := (i : Int)) (by omega) (by omega) K
    have hl1 := fun {R : Type} (K : AV → Option R) => hx.load (i := (i : Int)) (by omega) (by omega) K
    rw [nat_toNat, hA.2] at hl1
    have e1 : IntKind.wrap .i64 (IntKind.wrap .i64 (2 * numB bs a i) + IntKind.wrap .i64 (digB bs (a + i))) = numB bs a (i + 1) := by
      rw [wr (n := 2 * numB bs a i) (by omega), wr (n := digB bs (a + i)) (by omega), wr (by omega)]; rfl
    have ei : IntKind.wrap .i64 ((i : Int) + 1) = (i : Int) + 1 := wr (by omega)
    rw [overdubref01_Bits_Get_L1_eq, overdubref01_Bits_Get_L1_B_eq]
    simp -implicitDefEqProofs only [lt_t (show (i : Int) < n by omega), hi1, hl1, e1, ei, Option.bind_some, decide_true, decide_false, cond_true, cond_false, seqJ_n, seqJ_r, seqJ_e, headK_c, asB_bool, asI_int, asS_s, asN_int, extrK_0, extrK_1, extrK_2, Bool.not_true, Bool.not_false, Nat.beq_refl]
    exact ih
theorem refGet_is {μ : AMem} {x : SV} {bs l : List Int} {a : Nat} (hx : IsRow μ .u8 x l) (hA : At bs a l) (n : Int) :
    ((n < 0 ∨ n > 62 ∨ n > (l.length : Int)) → overdubref01_Bits_Get [.s x, .s (.int .i64 n)] μ = some (.tuple [.s (.int .i64 0), .s x, .s (.bool false)], μ)) ∧
    (0 ≤ n ∧ n ≤ 62 ∧ n ≤ (l.length : Int) → ∃ y, overdubref01_Bits_Get [.s x, .s (.int .i64 n)] μ = some (.tuple [.s (.int .i64 (numB bs a n.toNat)), .s y, .s (.bool true)], μ) ∧ IsRow μ .u8 y (l.drop n.toNat) ∧ ∀ j, isId y j → isId x j) := by
  refine ⟨fun hn => ?_, fun hn => ?_⟩
  · rw [overdubref01_Bits_Get_eq]
    by_cases h1 : n < 0
    · simp -implicitDefEqProofs (disch := omega) only [lt_t, lt_f, gt_t, gt_f, le_t, le_f, ge_t, ge_f, ne_t, ne_f, eq_t, eq_f, w64, chk_true, Option.bind_some, decide_true, decide_false, cond_true, cond_false, seqJ_n, seqJ_r, seqJ_e, headK_c, asB_bool, asI_int, asS_s, asN_int, extrK_0, extrK_1, extrK_2, Bool.not_true, Bool.not_false, Nat.beq_refl]
    · by_cases h2 : n > 62
      · simp -implicitDefEqProofs (disch := omega) only [lt_t, lt_f, gt_t, gt_f, le_t, le_f, ge_t, ge_f, ne_t, ne_f, eq_t, eq_f, w64, chk_true, Option.bind_some, decide_true, decide_false, cond_true, cond_false, seqJ_n, seqJ_r, seqJ_e, headK_c, asB_bool, asI_int, asS_s, asN_int, extrK_0, extrK_1, extrK_2, Bool.not_true, Bool.not_false, Nat.beq_refl]
      · simp -implicitDefEqProofs (disch := omega) only [lt_t, lt_f, gt_t, gt_f, le_t, le_f, ge_t, ge_f, ne_t, ne_f, eq_t, eq_f, w64, chk_true, Option.bind_some, decide_true, decide_false, cond_true, cond_false, seqJ_n, seqJ_r, seqJ_e, headK_c, asB_bool, asI_int, asS_s, asN_int, extrK_0, extrK_1, extrK_2, Bool.not_true, Bool.not_false, Nat.beq_refl, hx.len]
  · have hlp := refGet_loop (n := n.toNat) hx hA (by omega) (by omega) _ 0 (Nat.zero_add _)
    have e0 : ((n.toNat : Nat) : Int) = n := by omega
    obtain ⟨y, f1, f2, f3⟩ := back3 hx (n := n.toNat) (by omega)
    rw [e0] at f1
    rw [n0, e0, show numB bs a 0 = 0 from rfl] at hlp
    refine ⟨y, ?_, f2, f3⟩
    have q1 := lt_f (a := n) (b := 0) (by omega)
    have q2 := gt_f (a := n) (b := 62) (by omega)
    have q3 := gt_f (a := n) (b := (l.length : Int)) (by omega)
    rw [overdubref01_Bits_Get_eq]
    simp -implicitDefEqProofs only [q1, q2, q3, hx.len, hlp, f1, Option.bind_some, decide_true, decide_false, cond_true, cond_false, seqJ_n, seqJ_r, seqJ_e, headK_c, asB_bool, asI_int, asS_s, asN_int, extrK_0, extrK_1, extrK_2, Bool.not_true, Bool.not_false, Nat.beq_refl]
theorem refOnesT_loop {μ : AMem} {x : SV} {bs l : List Int} {a most : Nat} (hx : IsRow μ .u8 x l) (hA : At bs a l) (hm : most ≤ 1024) :
    ∀ k n : Nat, n + k = most → n ≤ l.length → ∃ n' : Nat, overdubref01_Bits_TakeOnes_L1 [.s x, .s (.int .i64 most)] [.s (.int .i64 n)] μ = some (.exit 0, [.s x, .s (.int .i64 most), .s (.int .i64 n')], μ) ∧ n' ≤ most ∧ n' ≤ l.length ∧
      onesF bs a l.length k n = if n' = most then ((most : Int), true, a + most) else if n' = l.length then (0, false, a) else ((n' : Int), true, a + n' + 1)
  | 0, n, h, hl => by
    obtain rfl : n = most := by omega
    refine ⟨n, ?_, Nat.le_refl _, hl, by rw [if_pos rfl]; rfl⟩
    rw [overdubref01_Bits_TakeOnes_L1_eq, overdubref01_Bits_TakeOnes_L1_B_eq]
    simp -implicitDefEqProofs (disch := omega) only [lt_t, lt_f, gt_t, gt_f, le_t, le_f, ge_t, ge_f, ne_t, ne_f, eq_t, eq_f, w64, chk_true, Option.bind_some, decide_true, decide_false, cond_true, cond_false, seqJ_n, seqJ_r, seqJ_e, headK_c, asB_bool, asI_int, asS_s, asN_int, extrK_0, extrK_1, extrK_2, Bool.not_true, Bool.not_false, Nat.beq_refl]
  | k + 1, n, h, hl => by
    have c1 := lt_t (a := (n : Int)) (b := (most : Int)) (by omega)
    rw [onesF, overdubref01_Bits_TakeOnes_L1_eq, overdubref01_Bits_TakeOnes_L1_B_eq]
    by_cases h1 : l.length ≤ n
    · refine ⟨n, ?_, by omega, hl, by rw [if_pos h1, if_neg (by omega), if_pos (by omega)]⟩
      simp -implicitDefEqProofs only [c1, hx.len, lt_f (show (l.length : Int) ≤ n by omega), Option.bind_some, decide_true, decide_false, cond_true, cond_false, seqJ_n, seqJ_r, seqJ_e, headK_c, asB_bool, asI_int, asS_s, asN_int, extrK_0, extrK_1, extrK_2, Bool.not_true, Bool.not_false, Nat.beq_refl]
    · have c2 := lt_t (a := (n : Int)) (b := (l.length : Int)) (by omega)
      have hi1 := fun {R : Type} (K : AV → Option R) => hx.ind (i := (n : Int)) (by omega) (by omega) K
      have hl1 := fun {R : Type} (K : AV → Option R) => hx.load (i := (n : Int)) (by omega) (by omega) K
      rw [nat_toNat, hA.2] at hl1
      have hd := digB_le bs (a + n)
      rw [if_neg h1]
      by_cases h2 : digB bs (a + n) = 0
      · have t0 : (digB bs (a + n) == 1) = false := by simp [h2]
        refine ⟨n, ?_, by omega, hl, by rw [if_pos h2, if_neg (by omega), if_neg (by omega)]⟩
        simp -implicitDefEqProofs only [c1, hx.len, c2, hi1, hl1, t0, Option.bind_some, decide_true, decide_false, cond_true, cond_false, seqJ_n, seqJ_r, seqJ_e, headK_c, asB_bool, asI_int, asS_s, asN_int, extrK_0, extrK_1, extrK_2, Bool.not_true, Bool.not_false, Nat.beq_refl]
      · obtain ⟨n', e1, e2, e3, e4⟩ := refOnesT_loop hx hA hm k (n + 1) (by omega) (by omega)
        rw [nsu] at e1
        have t1 : (digB bs (a + n) == 1) = true := by simp; omega
        have ei : IntKind.wrap .i64 ((n : Int) + 1) = (n : Int) + 1 := wr (by omega)
        refine ⟨n', ?_, e2, e3, by rw [if_neg h2]; exact e4⟩
        simp -implicitDefEqProofs only [c1, hx.len, c2, hi1, hl1, t1, ei, Option.bind_some, decide_true, decide_false, cond_true, cond_false, seqJ_n, seqJ_r, seqJ_e, headK_c, asB_bool, asI_int, asS_s, asN_int, extrK_0, extrK_1, extrK_2, Bool.not_true, Bool.not_false, Nat.beq_refl]
        exact e1
theorem refTakeOnes_is {μ : AMem} {x : SV} {bs l : List Int} {a most : Nat} (hx : IsRow μ .u8 x l) (hA : At bs a l) (hm : most ≤ 1024) (hl : l.length ≤ 1000000) :
    ((onesF bs a l.length most 0).2.1 = false → ∃ v y, overdubref01_Bits_TakeOnes [.s x, .s (.int .i64 most)] μ = some (.tuple [.s (.int .i64 v), .s y, .s (.bool false)], μ) ∧ v = 0 ∧ y = x) ∧
    ((onesF bs a l.length most 0).2.1 = true → ∃ y n, overdubref01_Bits_TakeOnes [.s x, .s (.int .i64 most)] μ = some (.tuple [.s (.int .i64 (onesF bs a l.length most 0).1), .s y, .s (.bool true)], μ) ∧ IsRow μ .u8 y (l.drop n) ∧ (onesF bs a l.length most 0).2.2 = a + n ∧ n ≤ l.length ∧ ∀ j, isId y j → isId x j) := by
  obtain ⟨n, e1, e2, e3, e4⟩ := refOnesT_loop hx hA hm most 0 (Nat.zero_add _) (by omega)
  rw [n0] at e1
  have c1 := lt_f (a := (most : Int)) (b := 0) (by omega)
  have c2 := gt_f (a := (most : Int)) (b := 1024) (by omega)
  rw [overdubref01_Bits_TakeOnes_eq, e4]
  by_cases h1 : n = most
  · rw [if_pos h1]
    refine ⟨fun h => (by cases h), fun _ => ?_⟩
    subst h1
    obtain ⟨y, f1, f2, f3⟩ := back3 hx (n := n) (by omega)
    have t1 : ((n : Int) == (n : Int)) = true := by simp
    refine ⟨y, n, ?_, f2, rfl, e3, f3⟩
    simp -implicitDefEqProofs only [c1, c2, e1, t1, hx.len, f1, Option.bind_some, decide_true, decide_false, cond_true, cond_false, seqJ_n, seqJ_r, seqJ_e, headK_c, asB_bool, asI_int, asS_s, asN_int, extrK_0, extrK_1, extrK_2, Bool.not_true, Bool.not_false, Nat.beq_refl]
  · rw [if_neg h1]
    have t1 := eq_f (a := (n : Int)) (b := (most : Int)) (by omega)
    by_cases h2 : n = l.length
    · rw [if_pos h2]
      refine ⟨fun _ => ⟨0, x, ?_, rfl, rfl⟩, fun h => by cases h⟩
      have t2 := eq_t (a := (n : Int)) (b := (l.length : Int)) (by omega)
      simp -implicitDefEqProofs only [c1, c2, e1, t1, hx.len, t2, Option.bind_some, decide_true, decide_false, cond_true, cond_false, seqJ_n, seqJ_r, seqJ_e, headK_c, asB_bool, asI_int, asS_s, asN_int, extrK_0, extrK_1, extrK_2, Bool.not_true, Bool.not_false, Nat.beq_refl]
    · rw [if_neg h2]
      refine ⟨fun h => (by cases h), fun _ => ?_⟩
      obtain ⟨y, f1, f2, f3⟩ := back3 hx (n := n + 1) (by omega)
      rw [nsu] at f1
      have t2 := eq_f (a := (n : Int)) (b := (l.length : Int)) (by omega)
      have ei : IntKind.wrap .i64 ((n : Int) + 1) = (n : Int) + 1 := wr (by omega)
      refine ⟨y, n + 1, ?_, f2, by dsimp only; omega, by omega, f3⟩
      simp -implicitDefEqProofs only [c1, c2, e1, t1, hx.len, t2, ei, f1, Option.bind_some, decide_true, decide_false, cond_true, cond_false, seqJ_n, seqJ_r, seqJ_e, headK_c, asB_bool, asI_int, asS_s, asN_int, extrK_0, extrK_1, extrK_2, Bool.not_true, Bool.not_false, Nat.beq_refl]
end Go.Proofs.Ytkbecppafippeaa
