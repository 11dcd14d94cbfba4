/- Numbers in few digits, put and got: what the program tells. -/
import Derived.Test.YtpdleoehllhbkaaQDigits
import Derived.Test.YtpdleoehllhbkaaQBest
namespace Go.Proofs.Ytpdleoehllhbkaa
open Go Go.Proofs.Ytpdleoehllhbkaa.E
set_option linter.unusedVariables false
set_option linter.unusedSimpArgs false
def riceD (z k : Int) : List Int := if z / 2 ^ k.toNat < 24 then List.replicate (z / 2 ^ k.toNat).toNat 1 ++ [0] ++ putD z k.toNat else putD 16777215 24 ++ putD z 32
theorem riceD_len {z k : Int} (h : mayB z k = true) : ((riceD z k).length : Int) = sizeZ z k := by
  obtain ⟨h1, h2, h3, h4⟩ := mayB_spec h
  have hq := quo_le h1 k.toNat
  unfold riceD sizeZ
  rw [if_pos h]
  split
  · simp [putD_len]; omega
  · simp [putD_len]
theorem ricePut_is {N : Nat} {μ : AMem} (hw : WF μ) {x : SV} {F : Nat → Prop} {ds : List Int} (h : Wr N μ x F ds) (hl : ds.length ≤ 800000) (z k : Int) :
    (mayB z k = false → rice_Put [.s x, .s (.int .i64 z), .s (.int .i64 k)] μ = some (.s (.bool false), μ)) ∧
    (mayB z k = true → ∃ F' μ', rice_Put [.s x, .s (.int .i64 z), .s (.int .i64 k)] μ = some (.s (.bool true), μ') ∧ Keep F μ μ' ∧ Wr N μ' x F' (ds ++ riceD z k) ∧ ∀ j, F' j → F j ∨ μ.next ≤ j) := by
  refine ⟨fun hm => ?_, fun hm => ?_⟩
  · obtain ⟨id, b, bs, rfl, hr⟩ := h
    rw [rice_Put_eq]
    simp -implicitDefEqProofs only [may_is, hm, Option.bind_some, decide_true, decide_false, cond_true, cond_false, seqJ_n, seqJ_r, seqJ_e, headK_c, asB_bool, asI_int, asS_s, asN_int, extrK_0, extrK_1, extrK_2, Bool.not_true, Bool.not_false, Nat.beq_refl]
  · obtain ⟨h1, h2, h3, h4⟩ := mayB_spec hm
    have hq := quo_le h1 k.toNat
    have hmin : min k.toNat (IntKind.bits .i64) = k.toNat := by show min _ 64 = _; omega
    unfold riceD
    by_cases c : z / 2 ^ k.toNat < 24
    · obtain ⟨F1, m1, f1, k1, w1, g1⟩ := (Ones_is hw h (by omega) (z / 2 ^ k.toNat)).2 (by omega)
      obtain ⟨F2, m2, f2, k2, w2, g2⟩ := (Put_is k1.wf w1 (by simp; omega) z k).2 (by omega)
      rw [if_pos c]
      refine ⟨F2, m2, ?_, k1.trans2 k2 g1 hw, ?_, fun j hj => ?_⟩
      · obtain ⟨id, b, bs, rfl, hr⟩ := h
        rw [rice_Put_eq]
        simp -implicitDefEqProofs only [may_is, hm, if_neg (show ¬ k < 0 by omega), hmin, fdiv_pow, lt_t c, f1, f2, Option.bind_some, decide_true, decide_false, cond_true, cond_false, seqJ_n, seqJ_r, seqJ_e, headK_c, asB_bool, asI_int, asS_s, asN_int, extrK_0, extrK_1, extrK_2, Bool.not_true, Bool.not_false, Nat.beq_refl]
      · rw [← List.append_assoc, ← List.append_assoc]; exact w2
      · rcases g2 j hj with h5 | h5
        · exact g1 j h5
        · exact .inr (Nat.le_trans k1.next h5)
    · obtain ⟨F1, m1, f1, k1, w1, g1⟩ := (Put_is hw h (by omega) 16777215 24).2 (by omega)
      obtain ⟨F2, m2, f2, k2, w2, g2⟩ := (Put_is k1.wf w1 (by simp [putD_len]; omega) z 32).2 (by omega)
      rw [if_neg c]
      refine ⟨F2, m2, ?_, k1.trans2 k2 g1 hw, ?_, fun j hj => ?_⟩
      · obtain ⟨id, b, bs, rfl, hr⟩ := h
        rw [rice_Put_eq]
        simp -implicitDefEqProofs only [may_is, hm, if_neg (show ¬ k < 0 by omega), hmin, fdiv_pow, lt_f (show (24 : Int) ≤ z / 2 ^ k.toNat by omega), f1, f2, Option.bind_some, decide_true, decide_false, cond_true, cond_false, seqJ_n, seqJ_r, seqJ_e, headK_c, asB_bool, asI_int, asS_s, asN_int, extrK_0, extrK_1, extrK_2, Bool.not_true, Bool.not_false, Nat.beq_refl]
      · rw [← List.append_assoc]; exact w2
      · rcases g2 j hj with h5 | h5
        · exact g1 j h5
        · exact .inr (Nat.le_trans k1.next h5)
theorem back_is {N : Nat} {μ : AMem} (hw : WF μ) {id : Nat} {b : SV} {a : Nat} {bs : List Int} (h : St N μ id b (a : Int) bs) :
    ∃ t μ', bits_Reader_Back [.s (.ptr id 0 0)] μ = some (.s (.ptr t 0 0), μ') ∧ Same μ μ' ∧ St N μ' t b (a : Int) bs ∧ μ.next ≤ t := by
  have hn : N ≤ μ.next := by
    obtain ⟨hN, ⟨o, ho, _⟩, _⟩ := h
    have := hw.lt ho
    omega
  have hnb : ∀ j, isId b j → j < μ.next := fun j hj => by
    obtain ⟨_, o, ho⟩ := own_lives h.2.2.1 hj
    exact hw.lt ho
  have e := bits_Reader_Back_eq id 0 0 μ
  simp -implicitDefEqProofs only [bump_cell, h.cell0, h.cell1, freshB hw 11 9, chk_true, Option.bind_some, decide_true, decide_false, cond_true, cond_false, seqJ_n, seqJ_r, seqJ_e, headK_c, asB_bool, asI_int, asS_s, asN_int, extrK_0, extrK_1, extrK_2, Bool.not_true, Bool.not_false, Nat.beq_refl] at e
  refine ⟨_, _, e, Keep.setS hw (Keep.bump hw 11) (by omega) (by simp), ⟨by omega, ⟨_, set_self _ _ _, rfl, rfl, rfl⟩, h.2.2.1.old fun j o ho hi => ?_, fun hh => by have := hnb _ hh; omega⟩, by omega⟩
  have := hw.lt ho
  rw [set_obj, if_neg (by omega)]; exact ho
theorem to_is {N : Nat} {μ : AMem} (hw : WF μ) {id t : Nat} {b : SV} {a c : Nat} {bs : List Int} (h : St N μ id b (a : Int) bs) (ht : St N μ t b (c : Int) bs) :
    ∃ μ', bits_Reader_To [.s (.ptr id 0 0), .s (.ptr t 0 0)] μ = some (.tuple [], μ') ∧ Keep (fun j => j = id) μ μ' ∧ St N μ' id b (c : Int) bs := by
  obtain ⟨m4, s1, s2, s3⟩ := St.bytes hw h.1 h.2.1 h.2.2.1 h.2.2.2
  obtain ⟨m5, t1, t2, t3⟩ := s3.count s2.wf (c : Int)
  refine ⟨m5, ?_, s2.trans t2, t3⟩
  rw [bits_Reader_To_eq]
  simp -implicitDefEqProofs only [ht.cell0, ht.cell1, s1, t1, Option.bind_some, decide_true, decide_false, cond_true, cond_false, seqJ_n, seqJ_r, seqJ_e, headK_c, asB_bool, asI_int, asS_s, asN_int, extrK_0, extrK_1, extrK_2, Bool.not_true, Bool.not_false, Nat.beq_refl]
/-- The next number: it, whether there is one, where it goes on. -/
def getR (bs : List Int) (a : Nat) (k : Int) : Int × Bool × Nat :=
  if k < 0 ∨ k > 24 then (0, false, a) else
  let r := onesF bs a (8 * bs.length - a) 24 0
  if r.2.1 = false then (0, false, a) else
  let n := if r.1 = 24 then 32 else k.toNat
  if 8 * bs.length - r.2.2 < n then (0, false, a) else
  let z := numB bs r.2.2 n
  if r.1 < 24 then (r.1 * 2 ^ k.toNat + z, true, r.2.2 + n) else
  if z / 2 ^ k.toNat < 24 then (0, false, a) else (z, true, r.2.2 + n)
theorem onesF_le (bs : List Int) (a : Nat) (ha : a ≤ 8 * bs.length) (most : Nat) : ∀ k n : Nat, n + k = most → n ≤ 8 * bs.length - a → (onesF bs a (8 * bs.length - a) k n).2.1 = true →
    (0 ≤ (onesF bs a (8 * bs.length - a) k n).1 ∧ (onesF bs a (8 * bs.length - a) k n).1 ≤ most) ∧ a ≤ (onesF bs a (8 * bs.length - a) k n).2.2 ∧ (onesF bs a (8 * bs.length - a) k n).2.2 ≤ 8 * bs.length
  | 0, n, h, hn, _ => by
    simp only [onesF]
    omega
  | k + 1, n, h, hn, ht => by
    rw [onesF] at ht ⊢
    by_cases c1 : 8 * bs.length - a ≤ n
    · rw [if_pos c1] at ht; cases ht
    · rw [if_neg c1] at ht ⊢
      by_cases c2 : digB bs (a + n) = 0
      · rw [if_pos c2]
        dsimp only
        omega
      · rw [if_neg c2] at ht ⊢
        exact onesF_le bs a ha most k (n + 1) (by omega) (by omega) ht
theorem or_shift {q z : Int} {k : Nat} (hq : 0 ≤ q ∧ q < 24) (hk : k ≤ 24) (hz : 0 ≤ z ∧ z < 2 ^ k) : IntKind.wrap .i64 (BitVec.toNat ((BitVec.ofInt (IntKind.bits .i64) (IntKind.wrap .i64 (q * 2 ^ k))) ||| (BitVec.ofInt (IntKind.bits .i64) z))) = q * 2 ^ k + z := by
  have hp : (2 : Int) ^ k ≤ 16777216 := by
    have h1 : (2 : Nat) ^ k ≤ 2 ^ 24 := Nat.pow_le_pow_right (by omega) hk
    have e : ((2 : Int) ^ k) = ((2 ^ k : Nat) : Int) := by simp
    rw [e]
    have h3 : (2 : Nat) ^ 24 = 16777216 := by decide
    omega
  have hp0 := pow_pos2 k
  have hqp := prod_le (a := q) (b := 2 ^ k) (A := 24) (B := 16777216) (by omega) (by omega) (by omega) (by omega)
  have hqn : 0 ≤ q * 2 ^ k := Int.mul_nonneg (by omega) (by omega)
  have hw : IntKind.wrap .i64 (q * 2 ^ k) = q * 2 ^ k := wr (by omega)
  rw [hw]
  have e : (BitVec.toNat ((BitVec.ofInt (IntKind.bits .i64) (q * 2 ^ k)) ||| (BitVec.ofInt (IntKind.bits .i64) z)) : Int) = q * 2 ^ k + z := by
    show ((BitVec.toNat ((BitVec.ofInt 64 (q * 2 ^ k)) ||| (BitVec.ofInt 64 z)) : Nat) : Int) = q * 2 ^ k + z
    rw [BitVec.toNat_or, BitVec.toNat_ofInt, BitVec.toNat_ofInt]
    have h0 : q * 2 ^ k = ((q.toNat * 2 ^ k : Nat) : Int) := by
      rw [Int.natCast_mul, Int.natCast_pow]
      have : ((q.toNat : Nat) : Int) = q := by omega
      rw [this]; rfl
    have h1 : ((q * 2 ^ k) % ((2 ^ 64 : Nat) : Int)).toNat = q.toNat <<< k := by rw [Nat.shiftLeft_eq]; omega
    have h2 : (z % ((2 ^ 64 : Nat) : Int)).toNat = z.toNat := by omega
    have h3 : z.toNat < 2 ^ k := by
      have : ((2 : Int) ^ k) = ((2 ^ k : Nat) : Int) := by simp
      omega
    rw [h1, h2, ← Nat.shiftLeft_add_eq_or_of_lt h3, Nat.shiftLeft_eq]
    omega
  rw [e, wr (by omega)]
theorem riceGet_is {N : Nat} {μ : AMem} (hw : WF μ) {id : Nat} {b : SV} {a : Nat} {bs : List Int} (h : St N μ id b (a : Int) bs) (ha : a ≤ 8 * bs.length) (hl : bs.length ≤ 1000000) (hb : ∀ v ∈ bs, 0 ≤ v ∧ v < 256) (k : Int) :
    ∃ μ', rice_Get [.s (.ptr id 0 0), .s (.int .i64 k)] μ = some (.tuple [.s (.int .i64 (getR bs a k).1), .s (.bool (getR bs a k).2.1)], μ') ∧ Keep (fun j => j = id) μ μ' ∧ St N μ' id b ((getR bs a k).2.2 : Int) bs := by
  unfold getR
  rw [rice_Get_eq]
  by_cases c1 : k < 0 ∨ k > 24
  · rw [if_pos c1]
    refine ⟨μ, ?_, Keep.refl hw, h⟩
    by_cases h1 : k < 0
    · simp -implicitDefEqProofs (disch := omega) only [lt_t, lt_f, gt_t, gt_f, le_t, le_f, ge_t, ge_f, ne_t, ne_f, eq_t, eq_f, w64, chk_true, Option.bind_some, decide_true, decide_false, cond_true, cond_false, seqJ_n, seqJ_r, seqJ_e, headK_c, asB_bool, asI_int, asS_s, asN_int, extrK_0, extrK_1, extrK_2, Bool.not_true, Bool.not_false, Nat.beq_refl]
    · simp -implicitDefEqProofs (disch := omega) only [lt_t, lt_f, gt_t, gt_f, le_t, le_f, ge_t, ge_f, ne_t, ne_f, eq_t, eq_f, w64, chk_true, Option.bind_some, decide_true, decide_false, cond_true, cond_false, seqJ_n, seqJ_r, seqJ_e, headK_c, asB_bool, asI_int, asS_s, asN_int, extrK_0, extrK_1, extrK_2, Bool.not_true, Bool.not_false, Nat.beq_refl]
  · rw [if_neg c1]
    have q1 := lt_f (a := k) (b := 0) (by omega)
    have q2 := gt_f (a := k) (b := 24) (by omega)
    obtain ⟨t, m1, f1, k1, st1, ht⟩ := back_is hw h
    have hr1 := h.same k1
    obtain ⟨m2, f2, k2, st2⟩ := (OnesR_is k1.wf st1 ha hl hb 24).2 (by omega)
    have hidn : id < μ.next := by
      obtain ⟨_, ⟨o, ho, _⟩, _⟩ := h
      exact hw.lt ho
    have hnt : ∀ j, j = t → ¬ foot id b j := fun j hj hf => by
      subst hj
      obtain ⟨_, o, ho⟩ := h.ids hf
      have := hw.lt ho
      omega
    have hr2 := hr1.keep k2 hnt
    have hk02 : Keep (fun j => j = id) μ m2 := (k1.weak fun j h => h.elim).trans2 (k2.weak (T := fun j => μ.next ≤ j) fun j hj => by subst hj; exact ht) (fun j hj => .inr hj) hw
    have e24 : (24 : Int).toNat = 24 := rfl
    rw [e24] at f2 st2
    have hle := onesF_le bs a ha 24 24 0 (by omega) (by omega)
    generalize onesF bs a (8 * bs.length - a) 24 0 = r at *
    obtain ⟨q, ok, a1⟩ := r
    dsimp only at *
    cases ok
    · rw [if_pos rfl]
      refine ⟨m2, ?_, hk02, hr2⟩
      simp -implicitDefEqProofs only [q1, q2, f1, f2, Option.bind_some, decide_true, decide_false, cond_true, cond_false, seqJ_n, seqJ_r, seqJ_e, headK_c, asB_bool, asI_int, asS_s, asN_int, extrK_0, extrK_1, extrK_2, Bool.not_true, Bool.not_false, Nat.beq_refl]
    · rw [if_neg (by simp)]
      obtain ⟨⟨hq0, hq1⟩, ha1, ha2⟩ := hle rfl
      obtain ⟨n, hn, hn2⟩ : ∃ n : Nat, (if q = 24 then 32 else k.toNat) = n ∧ n ≤ 32 := ⟨_, rfl, by split <;> omega⟩
      rw [hn]
      have hsel : (bif (q == 24) then (some (AExit.normal, [AV.s (.int .i64 32)], m2)) else (some (AExit.normal, [AV.s (.int .i64 k)], m2))) = some (AExit.normal, [AV.s (.int .i64 (n : Int))], m2) := by
        by_cases hc : q = 24
        · rw [eq_t hc, cond_true, ← hn, if_pos hc]; rfl
        · rw [eq_f hc, cond_false, ← hn, if_neg hc, show ((k.toNat : Nat) : Int) = k by omega]
      have hG := Get_is k2.wf st2 ha2 hl hb (n : Int)
      rw [nat_toNat] at hG
      by_cases c2 : 8 * bs.length - a1 < n
      · rw [if_pos c2]
        have f3 := hG.1 (by omega)
        refine ⟨m2, ?_, hk02, hr2⟩
        simp -implicitDefEqProofs only [q1, q2, f1, f2, hsel, f3, Option.bind_some, decide_true, decide_false, cond_true, cond_false, seqJ_n, seqJ_r, seqJ_e, headK_c, asB_bool, asI_int, asS_s, asN_int, extrK_0, extrK_1, extrK_2, Bool.not_true, Bool.not_false, Nat.beq_refl]
      · rw [if_neg c2]
        obtain ⟨m3, f3, k3, st3⟩ := hG.2 (by omega)
        have hr3 := hr2.keep k3 hnt
        have hk03 : Keep (fun j => j = id) μ m3 := hk02.trans2 (k3.weak (T := fun j => μ.next ≤ j) fun j hj => by subst hj; exact ht) (fun j hj => .inr hj) hw
        have hz := numB_le bs a1 n
        have hmin : min k.toNat (IntKind.bits .i64) = k.toNat := by show min _ 64 = _; omega
        have hk0 : ¬ k < 0 := by omega
        by_cases c3 : q < 24
        · rw [if_pos c3]
          have hnk : n = k.toNat := by rw [← hn, if_neg (by omega)]
          have ho := or_shift (q := q) (z := numB bs a1 n) (k := k.toNat) (by omega) (by omega) (by rw [hnk] at hz ⊢; exact hz)
          obtain ⟨m4, f4, k4, st4⟩ := to_is k3.wf hr3 st3
          refine ⟨m4, ?_, hk03.trans k4, st4⟩
          simp -implicitDefEqProofs only [q1, q2, f1, f2, hsel, f3, lt_t c3, if_neg hk0, hmin, ho, f4, Option.bind_some, decide_true, decide_false, cond_true, cond_false, seqJ_n, seqJ_r, seqJ_e, headK_c, asB_bool, asI_int, asS_s, asN_int, extrK_0, extrK_1, extrK_2, Bool.not_true, Bool.not_false, Nat.beq_refl]
        · rw [if_neg c3]
          have q3 := lt_f (a := q) (b := 24) (by omega)
          by_cases c4 : numB bs a1 n / 2 ^ k.toNat < 24
          · rw [if_pos c4]
            refine ⟨m3, ?_, hk03, hr3⟩
            simp -implicitDefEqProofs only [q1, q2, f1, f2, hsel, f3, q3, if_neg hk0, hmin, fdiv_pow, lt_t c4, Option.bind_some, decide_true, decide_false, cond_true, cond_false, seqJ_n, seqJ_r, seqJ_e, headK_c, asB_bool, asI_int, asS_s, asN_int, extrK_0, extrK_1, extrK_2, Bool.not_true, Bool.not_false, Nat.beq_refl]
          · rw [if_neg c4]
            obtain ⟨m4, f4, k4, st4⟩ := to_is k3.wf hr3 st3
            refine ⟨m4, ?_, hk03.trans k4, st4⟩
            simp -implicitDefEqProofs only [q1, q2, f1, f2, hsel, f3, q3, if_neg hk0, hmin, fdiv_pow, lt_f (show (24 : Int) ≤ numB bs a1 n / 2 ^ k.toNat by omega), f4, Option.bind_some, decide_true, decide_false, cond_true, cond_false, seqJ_n, seqJ_r, seqJ_e, headK_c, asB_bool, asI_int, asS_s, asN_int, extrK_0, extrK_1, extrK_2, Bool.not_true, Bool.not_false, Nat.beq_refl]
end Go.Proofs.Ytpdleoehllhbkaa
