/- The plain answer of FrameUnlike. -/
import Derived.Test.YtadhelkiinaenaaZkc
/- The plain answer of FrameUnlike. -/
namespace Go.Proofs.Ytadhelkiinaenaa
open Go Go.Proofs.Ytadhelkiinaenaa.E
set_option linter.unusedVariables false
set_option linter.unusedSimpArgs false
theorem pureFrameUnlike (x0 : Arg) (z0 : List Int) (s0 : Arg.isRow .i64 z0 x0) (w0 : ∀ n ∈ z0, (Lit.int .i64 n).wf = true) (y0 : z0.length * 8 ≤ 140737488351232) (x1 : Arg) (z1 : List Int) (s1 : Arg.isRow .i64 z1 x1) (w1 : ∀ n ∈ z1, (Lit.int .i64 n).wf = true) (y1 : z1.length * 8 ≤ 140737488351232) (a2 : Int) (w2 : (Lit.int .i64 a2).wf = true) (a3 : Int) (w3 : (Lit.int .i64 a3).wf = true) (a4 : Int) (w4 : (Lit.int .i64 a4).wf = true) (a5 : Int) (w5 : (Lit.int .i64 a5).wf = true) :
    ∃ μ', overdublaw08_FrameUnlike (argVals 0 [x0, x1, .i .i64 a2, .i .i64 a3, .i .i64 a4, .i .i64 a5]) (argMem [x0, x1, .i .i64 a2, .i .i64 a3, .i .i64 a4, .i .i64 a5]) = some (.s (.bool true), μ') := by
  obtain ⟨a, ha, hx⟩ := IsRow.arg (l := [x0, x1, .i .i64 a2, .i .i64 a3, .i .i64 a4, .i .i64 a5]) (j := 0) s0 rfl
  obtain ⟨b, hb, hx1⟩ := IsRow.arg (l := [x0, x1, .i .i64 a2, .i .i64 a3, .i .i64 a4, .i .i64 a5]) (j := 1) s1 rfl
  have hw := WF.args [x0, x1, .i .i64 a2, .i .i64 a3, .i .i64 a4, .i .i64 a5]
  show ∃ μ', overdublaw08_FrameUnlike [x0.val 0, x1.val 1, .s (.int .i64 a2), .s (.int .i64 a3), .s (.int .i64 a4), .s (.int .i64 a5)] _ = _
  rw [ha, hb]
  generalize argMem [x0, x1, .i .i64 a2, .i .i64 a3, .i .i64 a4, .i .i64 a5] = μ at *
  have e0 := within_is a3 64 (wf64 w3) (by omega) (by omega) μ
  have ew : IntKind.wrap .i64 (1 + a3 % 64) = 1 + a3 % 64 := wr (by omega)
  obtain ⟨X, m1, xs, e1, k1, o1, hl, hnr⟩ := tone_is hw hx w0 (n := 1 + a3 % 64) (s2 := a2) (p3 := 0) (by omega) (wf64 w2) (by omega)
  have hl' : 1 ≤ xs.length ∧ xs.length ≤ 64 := by omega
  have ht := near_tame hnr
  obtain ⟨c, m2, e2, k2, o2⟩ := copy_is k1.wf o1.row (by omega)
  have hidx : 0 ≤ a4 % (xs.length : Int) ∧ a4 % (xs.length : Int) < (xs.length : Int) := ⟨Int.emod_nonneg _ (by omega), Int.emod_lt_of_pos _ (by omega)⟩
  obtain ⟨i, hi⟩ : ∃ i : Nat, a4 % (xs.length : Int) = i := ⟨(a4 % (xs.length : Int)).toNat, by omega⟩
  have hil : i < xs.length := by omega
  have e3 := within_is a4 (xs.length : Int) (wf64 w4) (by omega) (by omega) m2
  rw [hi] at e3
  have e4 := within_is a5 3 (wf64 w5) (by omega) (by omega) m2
  have g1 := fun {R : Type} (K : AV → Option R) => o2.row.ind (i := (i : Int)) (by omega) (by omega) K
  have l1 := fun {R : Type} (K : AV → Option R) => o2.row.load (i := (i : Int)) (by omega) (by omega) K
  have hv := hnr _ (getD_mem hil)
  have ew2 : IntKind.wrap .i64 (xs.getD i 0 + a5 % 3) = xs.getD i 0 + a5 % 3 := wr (by omega)
  obtain ⟨m3, t1, t2, t3, _⟩ := storeK k2.wf o2 hil (xs.getD i 0 + a5 % 3)
  have hX3 : IsRow m3 .i64 X xs := rowKeep (o1.row.same k2) t2 fun j hj hX => by
    have h1 := (own_lives o2 hj).1
    obtain ⟨o, ho⟩ := row_lives o1.row hX
    have := k1.wf.lt ho
    omega
  have hty : tame (xs.set i (xs.getD i 0 + a5 % 3)) := fun v hv' => by
    rcases List.mem_or_eq_of_mem_set hv' with h | rfl
    · exact ht v h
    · omega
  have hly : 1 ≤ (xs.set i (xs.getD i 0 + a5 % 3)).length ∧ (xs.set i (xs.getD i 0 + a5 % 3)).length ≤ 64 := by rw [List.length_set]; exact hl'
  generalize hYS : xs.set i (xs.getD i 0 + a5 % 3) = ys at *
  have enc : ∀ (m : AMem) (y : SV) (l : List Int), WF m → IsRow m .i64 y l → tame l → (1 ≤ l.length ∧ l.length ≤ 64) → ∃ ds bs z μ', encD l = some ds ∧ holds bs ds ∧ frame_Encode [.s y] m = some (.tuple [.s z, .s (.int .i64 0)], μ') ∧ Same m μ' ∧ Fresh m.next μ' .u8 5 z bs ∧ decO bs = some l ∧ bs.length ≤ 6000 := by
    intro m y l hm hy htl hll
    have hE : encE l = 0 := by unfold encE; rw [if_neg (by omega), checkZ_tame htl hll.2]
    obtain ⟨ds, bs, z, m', h1, h2, h3, h4, h5⟩ := (encode_is hm hy (by omega)).2 hE
    exact ⟨ds, bs, z, m', h1, h2, h3, h4, h5, enc_back htl hll h1 (Rd.of h2), by have := encD_small htl hll.2 h1; have := h2.1; omega⟩
  obtain ⟨ds, bs, z, m4, hds, hh, e5, k5, f5, hb1, hbl⟩ := enc m3 X xs t2.wf hX3 ht hl'
  obtain ⟨es, cs, w, m5, hes, hh2, e6, k6, f6, hb2, hbl2⟩ := enc m4 c ys k5.wf (t3.row.same k5) hty hly
  have e7 := sameB_is (f5.own.row.same k6) f6.own.row (by omega)
  have e8 := same_is ((hX3.same k5).same k6) ((t3.row.same k5).same k6) (by omega)
  have hd : decide (bs = cs) = decide (xs = ys) := by
    by_cases h : xs = ys
    · have h2 := hes
      rw [← h, hds] at h2
      obtain rfl := Option.some.inj h2
      rw [decide_eq_true h, decide_eq_true (holds_ext hh hh2)]
    · rw [decide_eq_false h, decide_eq_false (fun hbc => ?_)]
      rw [hbc, hb2] at hb1
      exact h (Option.some.inj hb1).symm
  rw [hd] at e7
  obtain ⟨m6, e9⟩ := wakes_is m5 k6.wf
  refine ⟨m6, ?_⟩
  rw [overdublaw08_FrameUnlike_eq]
  simp -implicitDefEqProofs only [e0, ew, e1, e2, o1.row.len, e3, g1, l1, nat_toNat, e4, chk_rfl, chk_true, ew2, t1, e5, e6, BEq.rfl, e7, e8, e9, Option.bind_some, decide_true, decide_false, cond_true, cond_false, seqJ_n, seqJ_r, seqJ_e, headK_c, asB_bool, asI_int, asS_s, asN_int, extrK_0, extrK_1, extrK_2, Bool.not_true, Bool.not_false, Nat.beq_refl]
end Go.Proofs.Ytadhelkiinaenaa
