/- The plain answer of BlockBursts. -/
import Derived.Test.YtnjenjbodcihmaaZkc
/- The plain answer of BlockBursts. -/
namespace Go.Proofs.Ytnjenjbodcihmaa
open Go Go.Proofs.Ytnjenjbodcihmaa.E
set_option linter.unusedVariables false
set_option linter.unusedSimpArgs false
def flipB (v : Int) (r : Nat) : Int := IntKind.wrap .u8 (BitVec.toNat ((BitVec.ofInt (IntKind.bits .u8) v) ^^^ (BitVec.ofInt (IntKind.bits .u8) (Int.fdiv 128 (2 ^ r)))))
theorem flipB_fin : ∀ v : Fin 256, ∀ r : Fin 8, (0 ≤ flipB (v.val : Int) r.val ∧ flipB (v.val : Int) r.val < 256) ∧ ∀ k : Fin 8, (digV (flipB (v.val : Int) r.val) k.val == 1) = ((digV (v.val : Int) k.val == 1) ^^ decide (k = r)) := by decide +kernel
theorem flipB_dig {v : Int} (h : 0 ≤ v ∧ v < 256) {r : Nat} (hr : r < 8) : (0 ≤ flipB v r ∧ flipB v r < 256) ∧ ∀ k, k < 8 → (digV (flipB v r) k == 1) = ((digV v k == 1) ^^ decide (k = r)) := by
  have := flipB_fin ⟨v.toNat, by omega⟩ ⟨r, hr⟩
  have e : ((v.toNat : Nat) : Int) = v := by omega
  simp only [e] at this
  refine ⟨this.1, fun k hk => ?_⟩
  have h2 := this.2 ⟨k, hk⟩
  simp only [Fin.mk.injEq] at h2
  exact h2
theorem dgB_set {cs : List Int} (hb : ∀ v ∈ cs, 0 ≤ v ∧ v < 256) {q r : Nat} (hq : q < cs.length) (hr : r < 8) (j : Nat) : dgB (cs.set q (flipB (cs.getD q 0) r)) j = (dgB cs j ^^ decide (j = 8 * q + r)) := by
  have hv := hb _ (getD_mem hq)
  obtain ⟨_, hd⟩ := flipB_dig hv hr
  unfold dgB digB
  rw [getD_setB hq]
  by_cases h : j / 8 = q
  · rw [if_pos h, hd (j % 8) (by omega), h]
    congr 1
    by_cases h2 : j % 8 = r
    · rw [decide_eq_true h2, decide_eq_true (by omega)]
    · rw [decide_eq_false h2, decide_eq_false (by omega)]
  · rw [if_neg h, decide_eq_false (by omega), Bool.xor_false]
theorem bit_is (B : BitVec 32) {i : Nat} (hi : i < 32) : ((IntKind.wrap .u32 (BitVec.toNat ((BitVec.ofInt (IntKind.bits .u32) (Int.fdiv (V B) (2 ^ i))) &&& (BitVec.ofInt (IntKind.bits .u32) 1)))) == 1) = B.getLsbD i := by
  have hl := B.isLt
  have fd : Int.fdiv (V B) (2 ^ i) = V (B >>> i) := by
    unfold V
    rw [Int.fdiv_eq_ediv_of_nonneg _ (Int.le_of_lt (Int.pow_pos (by omega))), BitVec.toNat_ushiftRight, Nat.shiftRight_eq_div_pow]
    simp
  have h1 : BitVec.ofInt (IntKind.bits .u32) 1 = (1#32 : BitVec 32) := rfl
  rw [fd, ofV, h1, wu32]
  have e : ((B >>> i &&& 1#32).toNat : Int) % 4294967296 = ((B >>> i &&& 1#32).toNat : Int) := by
    have : (B >>> i &&& 1#32).toNat < 2 ^ 32 := (B >>> i &&& 1#32).isLt
    exact Int.emod_eq_of_lt (Int.natCast_nonneg _) (by omega)
  show (((B >>> i &&& 1#32).toNat : Int) % 4294967296 == 1) = _
  rw [e, BitVec.toNat_and, BitVec.toNat_ushiftRight, Nat.shiftRight_eq_div_pow]
  have h3 : B.toNat / 2 ^ i &&& (1#32 : BitVec 32).toNat = B.toNat / 2 ^ i % 2 := Nat.and_one_is_mod _
  rw [h3, BitVec.getLsbD, Nat.testBit_eq_decide_div_mod_eq]
  rcases Nat.mod_two_eq_zero_or_one (B.toNat / 2 ^ i) with h | h <;> rw [h] <;> rfl
theorem flips_loop {N : Nat} {x c : SV} {B : BitVec 32} {a : Nat} (ha : a ≤ 992) :
    ∀ (k i : Nat) (μ : AMem) (cs : List Int), i + k = 32 → WF μ → OwnRow N μ .u8 5 x cs → cs.length = 128 → (∀ v ∈ cs, 0 ≤ v ∧ v < 256) →
      ∃ μ' cs', overdublaw09_BlockBursts_L1 [.s (.int .i64 (a : Int)), .s (.int .u32 (V B)), .s c, .s x] [.s (.int .i64 (i : Int))] μ = some (.exit 0, [.s c, .s x], μ') ∧ Keep (isId x) μ μ' ∧ OwnRow N μ' .u8 5 x cs' ∧ cs'.length = 128 ∧ (∀ v ∈ cs', 0 ≤ v ∧ v < 256) ∧
        ∀ j, dgB cs' j = (dgB cs j ^^ (decide (a + i ≤ j) && (decide (j < a + 32) && B.getLsbD (j - a))))
  | 0, i, μ, cs, h, hw, hx, hl, hb => by
    obtain rfl : i = 32 := by omega
    refine ⟨μ, cs, ?_, Keep.refl hw, hx, hl, hb, fun j => ?_⟩
    · rw [overdublaw09_BlockBursts_L1_eq, overdublaw09_BlockBursts_L1_B_eq]
      simp -implicitDefEqProofs only [lt_f (show (32 : Int) ≤ ((32 : Nat) : Int) by omega), Option.bind_some, decide_true, decide_false, cond_true, cond_false, seqJ_n, seqJ_r, seqJ_e, headK_c, asB_bool, asI_int, asS_s, asN_int, extrK_0, extrK_1, extrK_2, Bool.not_true, Bool.not_false, Nat.beq_refl]
    · by_cases h1 : j < a + 32
      · rw [decide_eq_false (p := a + 32 ≤ j) (by omega), Bool.false_and, Bool.xor_false]
      · rw [decide_eq_false h1, Bool.false_and, Bool.and_false, Bool.xor_false]
  | k + 1, i, μ, cs, h, hw, hx, hl, hb => by
    have ei : IntKind.wrap .i64 ((i : Int) + 1) = ((i + 1 : Nat) : Int) := by rw [wr (by omega)]; rfl
    have e64 : IntKind.wrap .u64 (i : Int) = (i : Int) := by
      have : IntKind.wrap .u64 (i : Int) = (i : Int) % 18446744073709551616 := by simp [IntKind.wrap, IntKind.signed, IntKind.bits]
      rw [this]; omega
    have emin : min (Int.toNat (i : Int)) (IntKind.bits .u32) = i := by simp [IntKind.bits]; omega
    have esum : IntKind.wrap .i64 ((a : Int) + (i : Int)) = ((a + i : Nat) : Int) := by rw [wr (by omega)]; omega
    have ediv : IntKind.wrap .i64 (Int.tdiv ((a + i : Nat) : Int) 8) = (((a + i) / 8 : Nat) : Int) := by
      rw [Int.tdiv_eq_ediv_of_nonneg (by omega), wr (by omega)]; omega
    have emod : IntKind.wrap .u64 (Int.tmod ((a + i : Nat) : Int) 8) = (((a + i) % 8 : Nat) : Int) := by
      have : ∀ n : Int, IntKind.wrap .u64 n = n % 18446744073709551616 := fun n => by simp [IntKind.wrap, IntKind.signed, IntKind.bits]
      rw [this, Int.tmod_eq_emod_of_nonneg (by omega)]; omega
    have emin2 : min (Int.toNat (((a + i) % 8 : Nat) : Int)) (IntKind.bits .u8) = (a + i) % 8 := by simp [IntKind.bits]; omega
    have hq : (a + i) / 8 < cs.length := by omega
    have split : ∀ (D : Nat → Bool) (t : Bool), B.getLsbD i = t → (∀ j, D j = (dgB cs j ^^ (decide (j = a + i) && t))) → ∀ j, (D j ^^ (decide (a + (i + 1) ≤ j) && (decide (j < a + 32) && B.getLsbD (j - a)))) = (dgB cs j ^^ (decide (a + i ≤ j) && (decide (j < a + 32) && B.getLsbD (j - a)))) := by
      intro D t ht hD j
      rw [hD j]
      by_cases h1 : j = a + i
      · subst h1
        rw [decide_eq_true rfl, decide_eq_false (p := a + (i + 1) ≤ a + i) (by omega), decide_eq_true (p := a + i ≤ a + i) (Nat.le_refl _), decide_eq_true (p := a + i < a + 32) (by omega), Nat.add_sub_cancel_left, ht]
        simp
      · rw [decide_eq_false h1]
        by_cases h2 : a + i ≤ j
        · rw [decide_eq_true h2, decide_eq_true (p := a + (i + 1) ≤ j) (by omega)]
          simp
        · rw [decide_eq_false h2, decide_eq_false (p := a + (i + 1) ≤ j) (by omega)]
          simp
    cases ht : B.getLsbD i
    · obtain ⟨μ', cs', q1, q2, q3, q4, q5, q6⟩ := flips_loop (c := c) (B := B) ha k (i + 1) μ cs (by omega) hw hx hl hb
      refine ⟨μ', cs', ?_, q2, q3, q4, q5, fun j => by rw [q6 j]; exact split (dgB cs) false ht (fun j => by simp) j⟩
      rw [overdublaw09_BlockBursts_L1_eq, overdublaw09_BlockBursts_L1_B_eq]
      simp -implicitDefEqProofs only [lt_t (show (i : Int) < 32 by omega), e64, emin, Option.bind_some, decide_true, decide_false, cond_true, cond_false, seqJ_n, seqJ_r, seqJ_e, headK_c, asB_bool, asI_int, asS_s, asN_int, extrK_0, extrK_1, extrK_2, Bool.not_true, Bool.not_false, Nat.beq_refl]
      rw [if_neg (by omega), bit_is B (by omega), ht]
      simp -implicitDefEqProofs only [ei, Option.bind_some, decide_true, decide_false, cond_true, cond_false, seqJ_n, seqJ_r, seqJ_e, headK_c, asB_bool, asI_int, asS_s, asN_int, extrK_0, extrK_1, extrK_2, Bool.not_true, Bool.not_false, Nat.beq_refl]
      exact q1
    · have g1 := fun {R : Type} (K : AV → Option R) => hx.row.ind (i := (((a + i) / 8 : Nat) : Int)) (by omega) (by omega) K
      have l1 := fun {R : Type} (K : AV → Option R) => hx.row.load (i := (((a + i) / 8 : Nat) : Int)) (by omega) (by omega) K
      obtain ⟨m, s1, s2, s3, _⟩ := storeK hw hx (i := (a + i) / 8) hq (flipB (cs.getD ((a + i) / 8) 0) ((a + i) % 8))
      have hf := flipB_dig (hb _ (getD_mem hq)) (r := (a + i) % 8) (by omega)
      obtain ⟨μ', cs', q1, q2, q3, q4, q5, q6⟩ := flips_loop (c := c) (B := B) ha k (i + 1) m _ (by omega) s2.wf s3 (by rw [List.length_set]; exact hl) (fun v hv => by
        rcases List.mem_or_eq_of_mem_set hv with h | h
        · exact hb v h
        · rw [h]; exact hf.1)
      refine ⟨μ', cs', ?_, s2.trans q2, q3, q4, q5, fun j => by
        rw [q6 j]
        refine split _ true ht (fun j => ?_) j
        rw [dgB_set hb hq (by omega), show 8 * ((a + i) / 8) + (a + i) % 8 = a + i by omega, Bool.and_true]⟩
      rw [overdublaw09_BlockBursts_L1_eq, overdublaw09_BlockBursts_L1_B_eq]
      simp -implicitDefEqProofs only [lt_t (show (i : Int) < 32 by omega), e64, emin, esum, ediv, emod, emin2, Option.bind_some, decide_true, decide_false, cond_true, cond_false, seqJ_n, seqJ_r, seqJ_e, headK_c, asB_bool, asI_int, asS_s, asN_int, extrK_0, extrK_1, extrK_2, Bool.not_true, Bool.not_false, Nat.beq_refl]
      rw [if_neg (by omega), bit_is B (by omega), ht]
      simp -implicitDefEqProofs only [g1, l1, nat_toNat, Option.bind_some, decide_true, decide_false, cond_true, cond_false, seqJ_n, seqJ_r, seqJ_e, headK_c, asB_bool, asI_int, asS_s, asN_int, extrK_0, extrK_1, extrK_2, Bool.not_true, Bool.not_false, Nat.beq_refl]
      rw [if_neg (by omega)]
      unfold flipB at s1
      simp -implicitDefEqProofs only [s1, ei, Option.bind_some, decide_true, decide_false, cond_true, cond_false, seqJ_n, seqJ_r, seqJ_e, headK_c, asB_bool, asI_int, asS_s, asN_int, extrK_0, extrK_1, extrK_2, Bool.not_true, Bool.not_false, Nat.beq_refl]
      exact q1
theorem wf32 {n : Int} (h : (Lit.int .u32 n).wf = true) : 0 ≤ n ∧ n < 4294967296 := by
  have : 0 ≤ n ∧ n ≤ 4294967295 := by simpa [Lit.wf, IntKind.min, IntKind.max, IntKind.signed, IntKind.bits] using h
  omega
theorem pureBlockBursts (x0 : Arg) (z0 : List Int) (s0 : Arg.isRow .i64 z0 x0) (w0 : ∀ n ∈ z0, (Lit.int .i64 n).wf = true) (y0 : z0.length * 8 ≤ 140737488351232) (a1 : Int) (w1 : (Lit.int .i64 a1).wf = true) (a2 : Int) (w2 : (Lit.int .i64 a2).wf = true) (a3 : Int) (w3 : (Lit.int .i64 a3).wf = true) (a4 : Int) (w4 : (Lit.int .i64 a4).wf = true) (a5 : Int) (w5 : (Lit.int .u32 a5).wf = true) :
    ∃ μ', overdublaw09_BlockBursts (argVals 0 [x0, .i .i64 a1, .i .i64 a2, .i .i64 a3, .i .i64 a4, .i .u32 a5]) (argMem [x0, .i .i64 a1, .i .i64 a2, .i .i64 a3, .i .i64 a4, .i .u32 a5]) = some (.s (.bool true), μ') := by
  obtain ⟨A, hA, hx⟩ := IsRow.arg (l := [x0, .i .i64 a1, .i .i64 a2, .i .i64 a3, .i .i64 a4, .i .u32 a5]) (j := 0) s0 rfl
  have hw := WF.args [x0, .i .i64 a1, .i .i64 a2, .i .i64 a3, .i .i64 a4, .i .u32 a5]
  show ∃ μ', overdublaw09_BlockBursts [x0.val 0, .s (.int .i64 a1), .s (.int .i64 a2), .s (.int .i64 a3), .s (.int .i64 a4), .s (.int .u32 a5)] _ = _
  rw [hA]
  generalize argMem [x0, .i .i64 a1, .i .i64 a2, .i .i64 a3, .i .i64 a4, .i .u32 a5] = μ at *
  have h5 := wf32 w5
  obtain ⟨B, hB⟩ : ∃ B : BitVec 32, V B = a5 := ⟨BitVec.ofNat 32 a5.toNat, by
    unfold V
    rw [BitVec.toNat_ofNat]
    omega⟩
  subst hB
  have e0 := within_is a1 64 (wf64 w1) (by omega) (by omega) μ
  have ew : IntKind.wrap .i64 (1 + a1 % 64) = 1 + a1 % 64 := wr (by omega)
  obtain ⟨y, m1, xs, e1, k1, o1, hl, hnr⟩ := tone_is hw hx w0 (n := 1 + a1 % 64) (s2 := a2) (p3 := a3) (by omega) (wf64 w2) (wf64 w3)
  have hl' : 1 ≤ xs.length ∧ xs.length ≤ 64 := by omega
  have ht := near_tame hnr
  obtain ⟨p, tid, m2, e2, k2, c2⟩ := coderNew_is k1.wf
  have hlt2 := c2.lt k2.wf
  obtain ⟨b, bs, ds, m3, d3, hh3, l3, e3, k3, c3, o3⟩ := pack_is k2.wf k2.next c2 (by omega) (o1.row.same k2) (by omega) ht (by omega)
  have hge := packN_ge ht
  have hsl := sealZ_len l3
  have hn2 := k2.next
  have hn3 := k3.next
  have hsl' : ((sealZ bs).length : Int) = 128 := by omega
  by_cases hz : V B = 0
  · obtain ⟨m9, e9⟩ := wakes_is m3 k3.wf
    refine ⟨m9, ?_⟩
    rw [overdublaw09_BlockBursts_eq]
    simp -implicitDefEqProofs only [e0, ew, e1, e2, isNil_ptr, e3, ne_f (rfl : (0 : Int) = 0), lt_f (show (1 : Int) ≤ (packN xs : Int) by omega), o3.row.len, hsl', ne_f (rfl : (128 : Int) = 128), eq_t hz, e9, Option.bind_some, decide_true, decide_false, cond_true, cond_false, seqJ_n, seqJ_r, seqJ_e, headK_c, asB_bool, asI_int, asS_s, asN_int, extrK_0, extrK_1, extrK_2, Bool.not_true, Bool.not_false, Nat.beq_refl]
  · have hB0 : B ≠ 0#32 := fun h => hz (by rw [h]; rfl)
    have hm1 := Int.emod_nonneg a4 (show ¬ (993 : Int) = 0 by omega)
    have hm2 := Int.emod_lt_of_pos a4 (show (0 : Int) < 993 by omega)
    have e4 := within_is a4 993 (wf64 w4) (by omega) (by omega) m3
    obtain ⟨q, hq⟩ : ∃ q : Nat, a4 % 993 = q := ⟨(a4 % 993).toNat, by omega⟩
    rw [hq] at e4
    obtain ⟨m4, cs, e5, k5, o5, l5, b5, d5⟩ := flips_loop (c := .ptr p 0 0) (B := B) (a := q) (by omega) 32 0 m3 _ rfl k3.wf o3 hsl (sealZ_byte hh3.2.1)
    rw [n0] at e5
    have hwh := burst_found (sealZ_byte hh3.2.1) b5 (sealZ_whole l3) hB0 (at_ := q) (by omega) (fun j => by simpa using d5 j)
    have c5 : Cd m1.next m4 p tid true 1 0 := c3.keep k5 (fun e => by have := (own_lives o3 e).1; omega) fun e => by have := (own_lives o3 e).1; omega
    have hn5 := k5.next
    obtain ⟨u6, b6, m6, e6, k6, c6, o6⟩ := Open_is k5.wf (by omega) c5 (by omega) o5.row b5 (offNew hlt2 o5)
    have hop : openO cs = none := by unfold openO; rw [hwh]; rfl
    rw [hop] at e6 c6 o6
    simp only [Option.isSome_none, Bool.false_eq_true, if_false, Option.getD_none] at e6 c6 o6
    have o5' : OwnRow m2.next m6 .u8 5 b cs := ownKeep o5 k6 fun j hj e => offNew hlt2 o5 j e hj
    have hn6 := k6.next
    obtain ⟨u7, b7, m7, e7, k7, c7, o7⟩ := Unseal_is k6.wf (by omega) c6 (by omega) o5'.row b5 (offNew hlt2 o5')
    rw [hwh] at e7 c7 o7
    simp only [Bool.false_eq_true, if_false] at e7 c7 o7
    obtain ⟨m9, e9⟩ := wakes_is m7 k7.wf
    refine ⟨m9, ?_⟩
    have lu6 := o6.row.len
    have lu7 := o7.row.len
    rw [List.length_nil] at lu6 lu7
    have wz : IntKind.wrap .i64 (((0 : Nat) : Int) + ((0 : Nat) : Int)) = 0 := rfl
    rw [overdublaw09_BlockBursts_eq]
    simp -implicitDefEqProofs only [e0, ew, e1, e2, isNil_ptr, e3, ne_f (rfl : (0 : Int) = 0), lt_f (show (1 : Int) ≤ (packN xs : Int) by omega), o3.row.len, hsl', ne_f (rfl : (128 : Int) = 128), eq_f hz, e4, e5, Nat.beq_refl, e6, e7, eq_t (rfl : (2 : Int) = 2), lu6, lu7, wz, eq_t (rfl : (0 : Int) = 0), e9, Option.bind_some, decide_true, decide_false, cond_true, cond_false, seqJ_n, seqJ_r, seqJ_e, headK_c, asB_bool, asI_int, asS_s, asN_int, extrK_0, extrK_1, extrK_2, Bool.not_true, Bool.not_false, Nat.beq_refl]
end Go.Proofs.Ytnjenjbodcihmaa
