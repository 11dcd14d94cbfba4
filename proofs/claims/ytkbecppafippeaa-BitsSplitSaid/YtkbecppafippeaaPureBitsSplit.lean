/- The plain answer of BitsSplit. -/
import Derived.Test.YtkbecppafippeaaQWakes
import Derived.Test.YtkbecppafippeaaKWithin
namespace Go.Proofs.Ytkbecppafippeaa
open Go Go.Proofs.Ytkbecppafippeaa.E
set_option linter.unusedVariables false
set_option linter.unusedSimpArgs false
theorem pureBitsSplit (a0 : Int) (w0 : (Lit.int .i64 a0).wf = true) (a1 : Int) (w1 : (Lit.int .i64 a1).wf = true) (a2 : Int) (w2 : (Lit.int .i64 a2).wf = true) :
    ∃ μ', overdublaw01_BitsSplit (argVals 0 [.i .i64 a0, .i .i64 a1, .i .i64 a2]) (argMem [.i .i64 a0, .i .i64 a1, .i .i64 a2]) = some (.s (.bool true), μ') := by
  have hw := WF.args [.i .i64 a0, .i .i64 a1, .i .i64 a2]
  show ∃ μ', overdublaw01_BitsSplit [.s (.int .i64 a0), .s (.int .i64 a1), .s (.int .i64 a2)] _ = _
  generalize argMem [.i .i64 a0, .i .i64 a1, .i .i64 a2] = μ at *
  have e1 := within_is a1 31 (wf64 w1) (by omega) (by omega) μ
  have e2 := within_is a2 31 (wf64 w2) (by omega) (by omega) μ
  obtain ⟨n, hn, hn1⟩ : ∃ n : Nat, a1 % 31 = (n : Int) ∧ n ≤ 30 := ⟨(a1 % 31).toNat, by omega, by omega⟩
  obtain ⟨m, hm, hm1⟩ : ∃ m : Nat, a2 % 31 = (m : Int) ∧ m ≤ 30 := ⟨(a2 % 31).toNat, by omega, by omega⟩
  have hK : IntKind.wrap .i64 ((n : Int) + (m : Int)) = ((n + m : Nat) : Int) := by rw [wr (by omega)]; rfl
  have hu := u64n (n := n + m) (by omega)
  have hum := u64n (n := m) (by omega)
  have hmin : min (Int.toNat ((n + m : Nat) : Int)) (IntKind.bits .i64) = n + m := by show min _ 64 = _; omega
  have hminm : min (Int.toNat (m : Int)) (IntKind.bits .i64) = m := by show min _ 64 = _; omega
  have hp := pow_le62 (n := n + m) (by omega)
  have hpm := pow_le62 (n := m) (by omega)
  have hp0 := pow_pos2 (n + m)
  have hp0m := pow_pos2 m
  have hw1 : IntKind.wrap .i64 (1 * 2 ^ (n + m)) = 2 ^ (n + m) := by rw [Int.one_mul, wr (by omega)]
  have hw1m : IntKind.wrap .i64 (1 * 2 ^ m) = 2 ^ m := by rw [Int.one_mul, wr (by omega)]
  have hw2m : IntKind.wrap .i64 (2 ^ m - 1) = 2 ^ m - 1 := wr (by omega)
  have e3 := within_is a0 (2 ^ (n + m)) (wf64 w0) (by omega) (by omega) μ
  have hv0 := Int.emod_nonneg a0 (show ¬ (2 : Int) ^ (n + m) = 0 by omega)
  have hv1 := Int.emod_lt_of_pos a0 hp0
  generalize a0 % 2 ^ (n + m) = v at *
  have hK0 : ¬ ((n + m : Nat) : Int) < 0 := by omega
  have hm0 : ¬ ((m : Nat) : Int) < 0 := by omega
  obtain ⟨A, FA, m1, f1, k1, wa1⟩ := newWriter_is hw
  obtain ⟨B, FB, m2, f2, k2, wb2⟩ := newWriter_is k1.wf
  have wa2 := wa1.same k2
  have dis : ∀ j, FA j → ¬ FB j := fun j ha hb => by
    obtain ⟨_, o, ho⟩ := wa1.ids ha
    have := k1.wf.lt ho
    have := (wb2.ids hb).1
    omega
  obtain ⟨FA3, m3, f3, k3, wa3, fa3⟩ := (Put_is k2.wf wa2 (by simp) v ((n + m : Nat) : Int)).2 (by omega)
  have wb3 := wb2.keep k3 dis
  have dis3 := disjAfter k2.wf wb2 dis fa3
  obtain ⟨FB4, m4, f4, k4, wb4, fb4⟩ := (Put_is k3.wf wb3 (by simp) (v / 2 ^ m) (n : Int)).2 (by omega)
  have wa4 := wa3.keep k4 fun j hb ha => dis3 j ha hb
  have dis4 := disjAfter k3.wf wa3 (fun j hb ha => dis3 j ha hb) fb4
  obtain ⟨FB5, m5, f5, k5, wb5, fb5⟩ := (Put_is k4.wf wb4 (by simp [putD_len]; omega) v (m : Int)).2 (by omega)
  have wa5 := wa4.keep k5 fun j hb ha => dis4 j hb ha
  rw [List.nil_append, nat_toNat] at wa5 wb5
  rw [nat_toNat, putD_split] at wb5
  have hld : (putD v (n + m)).length = n + m := putD_len _ _
  obtain ⟨y1, bs, m6, f6, k6, o6, h6⟩ := Bytes_is k5.wf wa5 (by omega)
  have hbl := h6.1
  rw [hld] at hbl
  have wa6 := wa5.same k6
  obtain ⟨r, rb, m7, f7, k7, s7⟩ := newReader_is k6.wf o6.row (by omega)
  have wa7 := wa6.same k7
  obtain ⟨y2, bs2, m8, f8, k8, o8, h8⟩ := Bytes_is k7.wf wa7 (by omega)
  obtain rfl : bs2 = bs := holds_ext h8 h6
  obtain ⟨t, tb, m9, f9, k9, s9⟩ := newReader_is k8.wf o8.row (by omega)
  have sr9 := (s7.same k8).same k9
  have hb := h6.2.1
  obtain ⟨m10, g1, k10, sr10⟩ := (Get_is k9.wf sr9 (by omega) (by omega) hb (n : Int)).2 (by omega)
  rw [nat_toNat] at g1 sr10
  obtain ⟨m11, g2, k11, sr11⟩ := (Get_is k10.wf sr10 (by omega) (by omega) hb (m : Int)).2 (by omega)
  rw [nat_toNat] at g2
  have rnt : ∀ j, j = r → ¬ foot t tb j := fun j hj hf => by
    subst hj
    obtain ⟨_, o, ho⟩ := s7.ids (.inl rfl)
    have := k7.wf.lt ho
    have := (s9.ids hf).1
    have := k8.next
    omega
  have st11 := (s9.keep k10 rnt).keep k11 rnt
  obtain ⟨m12, g3, k12, _⟩ := (Get_is k11.wf st11 (by omega) (by omega) hb ((n + m : Nat) : Int)).2 (by omega)
  rw [nat_toNat] at g3
  have fresh : ∀ {id : Nat} {b : SV} {N : Nat} {mm : AMem} {a : Int}, St N mm id b a bs2 → m5.next ≤ N → ∀ j, j = id → ¬ FA3 j ∧ ¬ FB5 j := by
    intro id b N mm a hs hN j hj
    subst hj
    have h1 := (hs.ids (.inl rfl)).1
    refine ⟨fun h => ?_, fun h => ?_⟩
    · obtain ⟨_, o, ho⟩ := wa5.ids h
      have := k5.wf.lt ho
      omega
    · obtain ⟨_, o, ho⟩ := wb5.ids h
      have := k5.wf.lt ho
      omega
  have kk := ((k6.trans k7).trans k8).trans k9
  have fr := fresh s7 k6.next
  have ft := fresh s9 (Nat.le_trans k6.next (Nat.le_trans k7.next k8.next))
  have wa12 := (((wa5.same kk).keep k10 fun j hj => (fr j hj).1).keep k11 fun j hj => (fr j hj).1).keep k12 fun j hj => (ft j hj).1
  have wb12 := (((wb5.same kk).keep k10 fun j hj => (fr j hj).2).keep k11 fun j hj => (fr j hj).2).keep k12 fun j hj => (ft j hj).2
  obtain ⟨y3, bs3, m13, g4, k13, o13, h13⟩ := Bytes_is k12.wf wa12 (by omega)
  obtain ⟨y4, bs4, m14, g5, k14, o14, h14⟩ := Bytes_is k13.wf (wb12.same k13) (by omega)
  obtain rfl : bs3 = bs2 := holds_ext h13 h6
  obtain rfl : bs4 = bs3 := holds_ext h14 h6
  have g6 := sameB_is (o13.row.same k14) o14.row (by omega)
  rw [decide_eq_true rfl] at g6
  have hd := h6.2.2
  have x1 : numB bs4 0 n = v / 2 ^ m := by
    have := numB_put (pre := []) (post := putD v m) (v := v / 2 ^ m) (n := n) hd (by rw [List.nil_append, putD_split]) n (Nat.le_refl _)
    rw [List.length_nil, Nat.sub_self, Int.pow_zero, Int.ediv_one] at this
    rw [this, Int.emod_eq_of_lt (Int.ediv_nonneg hv0 (by omega))]
    apply Int.ediv_lt_of_lt_mul hp0m
    rw [← Int.pow_add]; exact hv1
  have x2 : numB bs4 (0 + n) m = v % 2 ^ m := by
    have := numB_put (pre := putD (v / 2 ^ m) n) (post := []) (v := v) (n := m) hd (by rw [List.append_nil, putD_split]) m (Nat.le_refl _)
    rw [putD_len, Nat.sub_self, Int.pow_zero, Int.ediv_one] at this
    rw [Nat.zero_add]; exact this
  have x3 : numB bs4 0 (n + m) = v := by
    have := numB_put (pre := []) (post := []) (v := v) (n := n + m) hd (by rw [List.nil_append, List.append_nil]) (n + m) (Nat.le_refl _)
    rw [List.length_nil, Nat.sub_self, Int.pow_zero, Int.ediv_one] at this
    rw [this, Int.emod_eq_of_lt hv0 hv1]
  rw [x1] at g1
  rw [x2] at g2
  rw [x3] at g3
  obtain ⟨μ', g7⟩ := wakes_is m14 k14.wf
  have hmask := and_mask (v := v) (by omega) (m := m) (by omega)
  have hfd : Int.fdiv v (2 ^ m) = v / 2 ^ m := fdivp2 v m
  have b1 : (v / 2 ^ m == v / 2 ^ m) = true := by simp
  have b2 : (v % 2 ^ m == v % 2 ^ m) = true := by simp
  have b3 : (v == v) = true := by simp
  have nnp : ∀ i, isNil (.s (.ptr i 0 0)) = some false := fun i => rfl
  rw [overdublaw01_BitsSplit_eq]
  simp -implicitDefEqProofs only [e1, e2, hn, hm, hK, hu, if_neg hK0, hmin, hw1, e3, f1, f2, wa1.nn, wb2.nn, f3, hum, if_neg hm0, hminm, hfd, f4, f5, f6, f7, f8, f9, nnp, g1, g2, g3, g4, g5, g6, hw1m, hw2m, hmask, b1, b2, b3, g7, Option.bind_some, decide_true, decide_false, cond_true, cond_false, seqJ_n, seqJ_r, seqJ_e, headK_c, asB_bool, asI_int, asS_s, asN_int, extrK_0, extrK_1, extrK_2, Bool.not_true, Bool.not_false, Nat.beq_refl]
  exact ⟨_, rfl⟩
end Go.Proofs.Ytkbecppafippeaa
