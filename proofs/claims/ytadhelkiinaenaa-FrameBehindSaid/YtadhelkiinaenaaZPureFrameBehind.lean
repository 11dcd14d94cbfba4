/- The plain answer of FrameBehind. -/
import Derived.Test.YtadhelkiinaenaaZkc
/- The plain answer of FrameBehind. -/
namespace Go.Proofs.Ytadhelkiinaenaa
open Go Go.Proofs.Ytadhelkiinaenaa.E
set_option linter.unusedVariables false
set_option linter.unusedSimpArgs false
theorem wf8b {n : Int} (h : (Lit.int .u8 n).wf = true) : 0 ≤ n ∧ n < 256 := by
  have : 0 ≤ n ∧ n ≤ 255 := by simpa [Lit.wf, IntKind.min, IntKind.max, IntKind.signed, IntKind.bits] using h
  omega
theorem xor_nought : ∀ c : Fin 256, IntKind.wrap .u8 (BitVec.toNat ((BitVec.ofInt (IntKind.bits .u8) 0) ^^^ (BitVec.ofInt (IntKind.bits .u8) (c.val : Int)))) = (c.val : Int) := by decide +kernel
theorem copyB_is {μ : AMem} (h0 : WF μ) {x : SV} {zs : List Int} (hx : IsRow μ .u8 x zs) (hb : zs.length ≤ 1000000000000) :
    ∃ y μ', overdubkeep_Copy_byte [.s x] μ = some (.s y, μ') ∧ Same μ μ' ∧ OwnRow μ.next μ' .u8 5 y zs := by
  obtain ⟨y, μ', g1, g2, g3⟩ := copyS (e := 5) (B := 1) (b := 1) (n := 3) h0 (Keep.refl h0) hx (by omega) (by omega) (by omega)
  refine ⟨y, μ', ?_, g2, g3⟩
  rw [overdubkeep_Copy_byte_eq]
  simp -implicitDefEqProofs only [g1, Option.bind_some, decide_true, decide_false, cond_true, cond_false, seqJ_n, seqJ_r, seqJ_e, headK_c, asB_bool, asI_int, asS_s, asN_int, extrK_0, extrK_1, extrK_2, Bool.not_true, Bool.not_false, Nat.beq_refl]
theorem pureFrameBehind (x0 : Arg) (z0 : List Int) (s0 : Arg.isRow .i64 z0 x0) (w0 : ∀ n ∈ z0, (Lit.int .i64 n).wf = true) (y0 : z0.length * 8 ≤ 140737488351232) (a1 : Int) (w1 : (Lit.int .i64 a1).wf = true) (a2 : Int) (w2 : (Lit.int .i64 a2).wf = true) (a3 : Int) (w3 : (Lit.int .i64 a3).wf = true) (a4 : Int) (w4 : (Lit.int .i64 a4).wf = true) (a5 : Int) (w5 : (Lit.int .i64 a5).wf = true) (a6 : Int) (w6 : (Lit.int .u8 a6).wf = true) :
    ∃ μ', overdublaw08_FrameBehind (argVals 0 [x0, .i .i64 a1, .i .i64 a2, .i .i64 a3, .i .i64 a4, .i .i64 a5, .i .u8 a6]) (argMem [x0, .i .i64 a1, .i .i64 a2, .i .i64 a3, .i .i64 a4, .i .i64 a5, .i .u8 a6]) = some (.s (.bool true), μ') := by
  obtain ⟨a, ha, hx⟩ := IsRow.arg (l := [x0, .i .i64 a1, .i .i64 a2, .i .i64 a3, .i .i64 a4, .i .i64 a5, .i .u8 a6]) (j := 0) s0 rfl
  have hw := WF.args [x0, .i .i64 a1, .i .i64 a2, .i .i64 a3, .i .i64 a4, .i .i64 a5, .i .u8 a6]
  show ∃ μ', overdublaw08_FrameBehind [x0.val 0, .s (.int .i64 a1), .s (.int .i64 a2), .s (.int .i64 a3), .s (.int .i64 a4), .s (.int .i64 a5), .s (.int .u8 a6)] _ = _
  rw [ha]
  generalize argMem [x0, .i .i64 a1, .i .i64 a2, .i .i64 a3, .i .i64 a4, .i .i64 a5, .i .u8 a6] = μ at *
  have e0 := within_is a2 64 (wf64 w2) (by omega) (by omega) μ
  have ew : IntKind.wrap .i64 (1 + a2 % 64) = 1 + a2 % 64 := wr (by omega)
  obtain ⟨X, m1, xs, e1, k1, o1, hl, hnr⟩ := tone_is hw hx w0 (n := 1 + a2 % 64) (s2 := a1) (p3 := a3) (by omega) (wf64 w1) (wf64 w3)
  have hl' : 1 ≤ xs.length ∧ xs.length ≤ 64 := by omega
  have ht := near_tame hnr
  have hE : encE xs = 0 := by unfold encE; rw [if_neg (by omega), checkZ_tame ht hl'.2]
  obtain ⟨ds, bs, b, m2, hds, hh, e2, k2, f2⟩ := (encode_is k1.wf o1.row (by omega)).2 hE
  obtain ⟨kk, hf⟩ := enc_kind hds
  have hsz := encD_small ht hl'.2 hds
  have hbl : 2 ≤ bs.length ∧ bs.length ≤ 6000 := by have := hh.1; omega
  have e3 := within_is a4 30 (wf64 w4) (by omega) (by omega) m2
  obtain ⟨k, hk⟩ : ∃ k : Nat, 1 + a4 % 30 = k := ⟨(1 + a4 % 30).toNat, by omega⟩
  have ewk : IntKind.wrap .i64 (1 + a4 % 30) = (k : Int) := by rw [wr (by omega), hk]
  obtain ⟨c, m3, e4, k3, o3⟩ := copyB_is (k2.wf.bump 5) (f2.own.row.same (Keep.bump k2.wf 5)) (by omega)
  have kb3 : Same m2 m3 := (bumpS (Keep.refl k2.wf) 5).trans k3
  have hn3 := k3.next
  rw [bump_next] at hn3
  obtain ⟨z, m4, e5, k4, o4⟩ := zerosS (B := 1) (nid := m2.next + 3) (n := k) k2.wf kb3 (o3.less (by simp)) (by omega) (by omega) (by omega) (by omega) (by omega) (by omega) (freshS k2.wf (by omega) k3)
  have hz0 : ∀ v ∈ List.replicate k (0 : Int), 0 ≤ v ∧ v < 256 := fun v hv => by rw [List.eq_of_mem_replicate hv]; omega
  have hbz : ∀ v ∈ bs ++ List.replicate k (0 : Int), 0 ≤ v ∧ v < 256 := fun v hv => by
    rcases List.mem_append.mp hv with h | h
    · exact hh.2.1 v h
    · exact hz0 v h
  have hlz : (bs ++ List.replicate k (0 : Int)).length = bs.length + k := by simp
  obtain ⟨u, m5, e6, k5, o5⟩ := decode_is k4.wf o4.row hbz (by omega)
  have hall : (List.replicate k (0 : Int)).all (fun v => v == 0) = true := List.all_eq_true.mpr fun v hv => by rw [List.eq_of_mem_replicate hv]; rfl
  rw [dec_more ht hl' hf hh hz0, if_pos hall] at e6 o5
  simp only [Option.isSome_some, if_true, Option.getD_some] at e6 o5
  have e7 := within_is a5 (k : Int) (wf64 w5) (by omega) (by omega) m5
  have hidx : 0 ≤ a5 % (k : Int) ∧ a5 % (k : Int) < (k : Int) := ⟨Int.emod_nonneg _ (by omega), Int.emod_lt_of_pos _ (by omega)⟩
  obtain ⟨i, hi⟩ : ∃ i : Nat, a5 % (k : Int) = i := ⟨(a5 % (k : Int)).toNat, by omega⟩
  rw [hi] at e7
  have ewi : IntKind.wrap .i64 ((bs.length : Int) + (i : Int)) = ((bs.length + i : Nat) : Int) := by rw [wr (by omega)]; rfl
  have oz5 : OwnRow m2.next m5 .u8 5 z (bs ++ List.replicate k 0) := ownKeep o4 k5 fun _ h => h.elim
  have g1 := fun {R : Type} (K : AV → Option R) => oz5.row.ind (i := ((bs.length + i : Nat) : Int)) (by omega) (by omega) K
  have l1 := fun {R : Type} (K : AV → Option R) => oz5.row.load (i := ((bs.length + i : Nat) : Int)) (by omega) (by omega) K
  have hv0 : (bs ++ List.replicate k (0 : Int)).getD (bs.length + i) 0 = 0 := by
    rw [List.getD_eq_getElem?_getD, List.getElem?_append_right (by omega), show bs.length + i - bs.length = i by omega, List.getElem?_replicate, if_pos (by omega)]; rfl
  have hc := wf8b w6
  have hx6 : IntKind.wrap .u8 (BitVec.toNat ((BitVec.ofInt (IntKind.bits .u8) 0) ^^^ (BitVec.ofInt (IntKind.bits .u8) a6))) = a6 := by
    have := xor_nought ⟨a6.toNat, by omega⟩
    rw [show ((a6.toNat : Nat) : Int) = a6 by omega] at this
    exact this
  obtain ⟨m6, t1, t2, t3, _⟩ := storeK k5.wf oz5 (i := bs.length + i) (by omega) a6
  have hset : (bs ++ List.replicate k (0 : Int)).set (bs.length + i) a6 = bs ++ (List.replicate k (0 : Int)).set i a6 := by
    rw [List.set_append, if_neg (by omega), show bs.length + i - bs.length = i by omega]
  rw [hset] at t3
  have hzs : ∀ v ∈ (List.replicate k (0 : Int)).set i a6, 0 ≤ v ∧ v < 256 := fun v hv => by
    rcases List.mem_or_eq_of_mem_set hv with h | rfl
    · exact hz0 v h
    · exact hc
  obtain ⟨u2, m7, e8, k7, _⟩ := decode_is t2.wf t3.row (fun v hv => by
    rcases List.mem_append.mp hv with h | h
    · exact hh.2.1 v h
    · exact hzs v h) (by simp; omega)
  rw [dec_more ht hl' hf hh hzs] at e8
  have hall2 : ((List.replicate k (0 : Int)).set i a6).all (fun v => v == 0) = decide (a6 = 0) := by
    by_cases h0 : a6 = 0
    · rw [decide_eq_true h0]
      exact List.all_eq_true.mpr fun v hv => by
        rcases List.mem_or_eq_of_mem_set hv with h | h
        · rw [List.eq_of_mem_replicate h]; rfl
        · rw [h, h0]; rfl
    · rw [decide_eq_false h0]
      exact List.all_eq_false.mpr ⟨a6, List.mem_iff_getElem?.mpr ⟨i, List.getElem?_set_self (by simp; omega)⟩, by simp [h0]⟩
  rw [hall2] at e8
  have hzn : ∀ j, isId z j → m2.next ≤ j := fun j hj => (own_lives o4 hj).1
  have hb5 := f2.own.row.same (kb3.trans (Keep.refl kb3.wf))
  have hB7 : IsRow m7 .u8 b bs := by
    have h2 : IsRow m5 .u8 b bs := (f2.own.row.same k4).same k5
    exact (rowKeep h2 t2 fun j hj hb => by
      obtain ⟨o, ho⟩ := row_lives f2.own.row hb
      have := k2.wf.lt ho
      have := hzn j hj
      omega).same k7
  obtain ⟨y, g3, hy⟩ := hB7.front (n := bs.length - 1) (by omega)
  have ewl : IntKind.wrap .i64 ((bs.length : Int) - 1) = ((bs.length - 1 : Nat) : Int) := by rw [wr (by omega)]; omega
  have hyb : ∀ v ∈ bs.take (bs.length - 1), 0 ≤ v ∧ v < 256 := fun v hv => hh.2.1 v (List.mem_of_mem_take hv)
  obtain ⟨u3, m8, e9, k8, _⟩ := decode_is k7.wf hy hyb (by simp; omega)
  have hcut := dec_cut ht hl' hf hh
  rw [hcut] at e9
  simp only [Option.isSome_none, Bool.false_eq_true, if_false] at e9
  obtain ⟨m9, e10, k9⟩ := kind_is k8.wf (hy.same k8) hyb (by simp; omega)
  have hkz : kindZ (bs.take (bs.length - 1)) = -1 := by unfold kindZ; rw [hcut]; rfl
  rw [hkz] at e10
  have hu8 : IsRow m8 .i64 u xs := ((rowKeep o5.row t2 fun j hj hu => by
    obtain ⟨o, ho⟩ := row_lives o4.row hj
    have := k4.wf.lt ho
    have := (own_lives o5 hu).1
    omega).same k7).same k8
  have hX8 : IsRow m8 .i64 X xs := ((rowKeep (((o1.row.same k2).same k4).same k5) t2 fun j hj hX => by
    obtain ⟨o, ho⟩ := row_lives o1.row hX
    have := k1.wf.lt ho
    have := hzn j hj
    have := k2.next
    omega).same k7).same k8
  have e11 := same_is hu8 hX8 (by omega)
  rw [decide_eq_true rfl] at e11
  obtain ⟨m10, e12⟩ := wakes_is m9 k9.wf
  have hne := eq_f (show ¬ ((bs.length : Nat) : Int) = 0 by omega)
  have blen : lenS (.s b) = some bs.length := hB7.len
  refine ⟨m10, ?_⟩
  rw [overdublaw08_FrameBehind_eq]
  by_cases h0 : a6 = 0
  · rw [decide_eq_true h0] at e8
    simp only [if_true, Option.isSome_some] at e8
    simp -implicitDefEqProofs only [e0, ew, e1, e2, ne_f (rfl : (0 : Int) = 0), blen, hne, e3, e4, ewk, e5, e6, e7, ewi, g1, l1, nat_toNat, hv0, hx6, t1, e8, ewl, g3, e9, BEq.rfl, e11, eq_t h0, e10, e12, Option.bind_some, decide_true, decide_false, cond_true, cond_false, seqJ_n, seqJ_r, seqJ_e, headK_c, asB_bool, asI_int, asS_s, asN_int, extrK_0, extrK_1, extrK_2, Bool.not_true, Bool.not_false, Nat.beq_refl]
  · rw [decide_eq_false h0] at e8
    simp only [Bool.false_eq_true, if_false, Option.isSome_none] at e8
    simp -implicitDefEqProofs only [e0, ew, e1, e2, ne_f (rfl : (0 : Int) = 0), blen, hne, e3, e4, ewk, e5, e6, e7, ewi, g1, l1, nat_toNat, hv0, hx6, t1, e8, ewl, g3, e9, BEq.rfl, e11, eq_f h0, eq_f (show ¬ (2 : Int) = 0 by omega), e10, e12, Option.bind_some, decide_true, decide_false, cond_true, cond_false, seqJ_n, seqJ_r, seqJ_e, headK_c, asB_bool, asI_int, asS_s, asN_int, extrK_0, extrK_1, extrK_2, Bool.not_true, Bool.not_false, Nat.beq_refl]
end Go.Proofs.Ytadhelkiinaenaa
