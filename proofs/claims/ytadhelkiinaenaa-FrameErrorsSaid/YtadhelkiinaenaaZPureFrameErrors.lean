/- The plain answer of FrameErrors. -/
import Derived.Test.YtadhelkiinaenaaZkc
/- The plain answer of FrameErrors. -/
namespace Go.Proofs.Ytadhelkiinaenaa
open Go Go.Proofs.Ytadhelkiinaenaa.E
set_option linter.unusedVariables false
set_option linter.unusedSimpArgs false
set_option maxRecDepth 100000
theorem dec_kinds : ∀ b : Fin 256, 19 ≤ b.val → decO [(b.val : Int), 1, 0, 0, 0, 0, 0] = none := by decide +kernel
theorem dec_none : decO [] = none ∧ decO [0, 0, 0, 0, 0] = none ∧ decO [0, 65, 0, 0, 0] = none := by decide +kernel
theorem wrapU8 {n : Int} (h : 0 ≤ n ∧ n < 256) : IntKind.wrap .u8 n = n := by simp [IntKind.wrap, IntKind.signed, IntKind.bits]; omega
theorem pureFrameErrors (a0 : Int) (w0 : (Lit.int .i64 a0).wf = true) (a1 : Int) (w1 : (Lit.int .i64 a1).wf = true) (a2 : Int) (w2 : (Lit.int .u8 a2).wf = true) :
    ∃ μ', overdublaw08_FrameErrors (argVals 0 [.i .i64 a0, .i .i64 a1, .i .u8 a2]) (argMem [.i .i64 a0, .i .i64 a1, .i .u8 a2]) = some (.s (.bool true), μ') := by
  have hw := WF.args [.i .i64 a0, .i .i64 a1, .i .u8 a2]
  show ∃ μ', overdublaw08_FrameErrors [.s (.int .i64 a0), .s (.int .i64 a1), .s (.int .u8 a2)] _ = _
  generalize argMem [.i .i64 a0, .i .i64 a1, .i .u8 a2] = μ at *
  have e0 := within_is a0 9 (wf64 w0) (by omega) (by omega) (μ.bump 5)
  obtain ⟨L, hL⟩ : ∃ L : Nat, 65 + a0 % 9 = L := ⟨(65 + a0 % 9).toNat, by omega⟩
  have ew : IntKind.wrap .i64 (65 + a0 % 9) = (L : Int) := by rw [wr (by omega), hL]
  have b5 := bumpS (Keep.refl hw) 5
  have hz : OwnRow μ.next ((μ.bump 5).set (μ.next + 3) (rowObj (zerosA [.int .i64 0] L) 1 3 (some L))) .i64 3 (.slice (μ.next + 3) 0 0 L) (List.replicate L 0) :=
    OwnRow.new (o := rowObj (zerosA [.int .i64 0] L) 1 3 (some L)) (by simp) (by omega) (by simp) rfl rfl rfl rfl (by show zerosA _ _ = _; rw [zerosA_rep]; simp)
  have k1 : Same μ ((μ.bump 5).set (μ.next + 3) (rowObj (zerosA [.int .i64 0] L) 1 3 (some L))) := Same.bumpSet hw (by omega) _
  obtain ⟨m3, t1, t2, t3, t4, _⟩ := storeS (i := 3) hw k1 hz (by simp; omega) 8388608
  have t1' : (((μ.bump 5).set (μ.next + 3) (rowObj (zerosA [.int .i64 0] L) 1 3 (some L))).store (μ.next + 3) 0 (0 + Int.toNat 3 * 1) [.int .i64 8388608]).bind some = some m3 := t1 some
  have t1'' : ((μ.bump 5).set (μ.next + 3) (rowObj (zerosA [.int .i64 0] L) 1 3 (some L))).store (μ.next + 3) 0 (0 + Int.toNat 3 * 1) [.int .i64 8388608] = some m3 := by rw [← t1']; cases AMem.store _ _ _ _ _ <;> rfl
  have e4 := within_is a1 99 (wf64 w1) (by omega) (by omega) (m3.bump 5)
  have ew5 : IntKind.wrap .i64 (8388608 + a1 % 99) = 8388608 + a1 % 99 := wr (by omega)
  have k4 : Same m3 ((m3.bump 5).set (m3.next + 3) (rowObj [.int .i64 0, .int .i64 (8388608 + a1 % 99)] 1 3 (some 2))) := Same.bumpSet t2.wf (by omega) _
  have hr : IsRow ((m3.bump 5).set (m3.next + 3) (rowObj [.int .i64 0, .int .i64 (8388608 + a1 % 99)] 1 3 (some 2))) .i64 (.slice (m3.next + 3) 0 0 2) [0, 8388608 + a1 % 99] :=
    IsRow.made (o := rowObj [.int .i64 0, .int .i64 (8388608 + a1 % 99)] 1 3 (some 2)) (by simp) rfl rfl rfl
  have hz4 := t3.row.same k4
  have e6 := (encode_is (y := .nilSlice) (xs := []) k4.wf (.inl ⟨rfl, rfl⟩) (by simp)).1 (by decide)
  have hE0 : encE [] = 4 := by decide
  rw [hE0] at e6
  have hE1 : encE ((List.replicate L (0 : Int)).set 3 8388608) = 4 := by unfold encE; rw [if_pos (.inr (by simp; omega))]
  have e7 := (encode_is k4.wf hz4 (by simp; omega)).1 (by rw [hE1]; omega)
  rw [hE1] at e7
  have hck : checkZ [0, 8388608 + a1 % 99] = 8 := by
    have : okS (8388608 + a1 % 99) = false := by unfold okS; rw [decide_eq_false (p := 8388608 + a1 % 99 ≤ 8388607) (by omega), Bool.and_false]
    unfold checkZ
    simp [this]
  have hE2 : encE [0, 8388608 + a1 % 99] = 8 := by unfold encE; rw [if_neg (by simp), hck]
  have e8 := (encode_is k4.wf hr (by simp)).1 (by rw [hE2]; omega)
  rw [hE2] at e8
  obtain ⟨m5, e9, k5⟩ := (frameAs_is k4.wf hr (by simp) 1).1 (by unfold asD; rw [hck, if_neg (by omega)])
  have k6 : Same m5 ((m5.bump 7).set (m5.next + 0) (rowObj [.int .i64 1] 1 3 (some 1))) := Same.bumpSet k5.wf (by omega) _
  have hr6 : IsRow ((m5.bump 7).set (m5.next + 0) (rowObj [.int .i64 1] 1 3 (some 1))) .i64 (.slice (m5.next + 0) 0 0 1) [1] :=
    IsRow.made (o := rowObj [.int .i64 1] 1 3 (some 1)) (by simp) rfl rfl rfl
  obtain ⟨m6, e10, k7⟩ := (frameAs_is k6.wf hr6 (by simp) 19).1 (by decide)
  obtain ⟨z7, m7, e11, k8, _⟩ := decode_is (y := .nilSlice) (bs := []) k7.wf (.inl ⟨rfl, rfl⟩) (fun v hv => by cases hv) (by simp)
  rw [dec_none.1] at e11
  simp only [Option.isSome_none, Bool.false_eq_true, if_false] at e11
  have hb2 := wf8 w2
  have hm : Int.tmod a2 200 = a2 % 200 := Int.tmod_eq_emod_of_nonneg hb2.1
  have ew8 : IntKind.wrap .u8 (19 + Int.tmod a2 200) = 19 + a2 % 200 := by rw [hm]; exact wrapU8 (by omega)
  obtain ⟨b, hb⟩ : ∃ b : Nat, 19 + a2 % 200 = b := ⟨(19 + a2 % 200).toNat, by omega⟩
  have k9 : Same m7 ((m7.bump 10).set (m7.next + 3) (rowObj [.int .u8 (b : Int), .int .u8 1, .int .u8 0, .int .u8 0, .int .u8 0, .int .u8 0, .int .u8 0] 1 5 (some 7))) := Same.bumpSet k8.wf (by omega) _
  have hr9 : IsRow ((m7.bump 10).set (m7.next + 3) (rowObj [.int .u8 (b : Int), .int .u8 1, .int .u8 0, .int .u8 0, .int .u8 0, .int .u8 0, .int .u8 0] 1 5 (some 7))) .u8 (.slice (m7.next + 3) 0 0 7) [(b : Int), 1, 0, 0, 0, 0, 0] :=
    IsRow.made (o := rowObj [.int .u8 (b : Int), .int .u8 1, .int .u8 0, .int .u8 0, .int .u8 0, .int .u8 0, .int .u8 0] 1 5 (some 7)) (by simp) rfl rfl rfl
  obtain ⟨z10, m10, e12, k10, _⟩ := decode_is k9.wf hr9 (fun v hv => by
    simp only [List.mem_cons, List.not_mem_nil, or_false] at hv; omega) (by simp)
  rw [dec_kinds ⟨b, by omega⟩ (by show 19 ≤ b; omega)] at e12
  simp only [Option.isSome_none, Bool.false_eq_true, if_false] at e12
  have k11 : Same m10 ((m10.bump 7).set (m10.next + 0) (rowObj [.int .u8 0, .int .u8 0, .int .u8 0, .int .u8 0, .int .u8 0] 1 5 (some 5))) := Same.bumpSet k10.wf (by omega) _
  have hr11 : IsRow ((m10.bump 7).set (m10.next + 0) (rowObj [.int .u8 0, .int .u8 0, .int .u8 0, .int .u8 0, .int .u8 0] 1 5 (some 5))) .u8 (.slice (m10.next + 0) 0 0 5) [0, 0, 0, 0, 0] :=
    IsRow.made (o := rowObj [.int .u8 0, .int .u8 0, .int .u8 0, .int .u8 0, .int .u8 0] 1 5 (some 5)) (by simp) rfl rfl rfl
  obtain ⟨z12, m12, e13, k12, _⟩ := decode_is k11.wf hr11 (fun v hv => by
    simp only [List.mem_cons, List.not_mem_nil, or_false] at hv; omega) (by simp)
  rw [dec_none.2.1] at e13
  simp only [Option.isSome_none, Bool.false_eq_true, if_false] at e13
  have k13 : Same m12 ((m12.bump 7).set (m12.next + 0) (rowObj [.int .u8 0, .int .u8 65, .int .u8 0, .int .u8 0, .int .u8 0] 1 5 (some 5))) := Same.bumpSet k12.wf (by omega) _
  have hr13 : IsRow ((m12.bump 7).set (m12.next + 0) (rowObj [.int .u8 0, .int .u8 65, .int .u8 0, .int .u8 0, .int .u8 0] 1 5 (some 5))) .u8 (.slice (m12.next + 0) 0 0 5) [0, 65, 0, 0, 0] :=
    IsRow.made (o := rowObj [.int .u8 0, .int .u8 65, .int .u8 0, .int .u8 0, .int .u8 0] 1 5 (some 5)) (by simp) rfl rfl rfl
  obtain ⟨z14, m14, e14, k14, _⟩ := decode_is k13.wf hr13 (fun v hv => by
    simp only [List.mem_cons, List.not_mem_nil, or_false] at hv; omega) (by simp)
  rw [dec_none.2.2] at e14
  simp only [Option.isSome_none, Bool.false_eq_true, if_false] at e14
  obtain ⟨m15, e15⟩ := wakes_is m14 k14.wf
  refine ⟨m15, ?_⟩
  rw [overdublaw08_FrameErrors_eq]
  rw [hb] at ew8
  simp -implicitDefEqProofs only [e0, ew, Option.bind_some, decide_true, decide_false, cond_true, cond_false, seqJ_n, seqJ_r, seqJ_e, headK_c, asB_bool, asI_int, asS_s, asN_int, extrK_0, extrK_1, extrK_2, Bool.not_true, Bool.not_false, Nat.beq_refl]
  rw [if_pos (by omega), if_pos (by omega)]
  simp -implicitDefEqProofs only [nat_toNat, t1'', e4, ew5, e6, e7, e8, e9, e10, e11, ew8, e12, e13, e14, BEq.rfl, e15, Option.bind_some, decide_true, decide_false, cond_true, cond_false, seqJ_n, seqJ_r, seqJ_e, headK_c, asB_bool, asI_int, asS_s, asN_int, extrK_0, extrK_1, extrK_2, Bool.not_true, Bool.not_false, Nat.beq_refl]
end Go.Proofs.Ytadhelkiinaenaa
