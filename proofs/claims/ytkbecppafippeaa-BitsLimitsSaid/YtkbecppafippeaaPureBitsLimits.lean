/- The plain answer of BitsLimits. -/
import Derived.Test.YtkbecppafippeaaQWakes
import Derived.Test.YtkbecppafippeaaKCutB
namespace Go.Proofs.Ytkbecppafippeaa
open Go Go.Proofs.Ytkbecppafippeaa.E
set_option linter.unusedVariables false
set_option linter.unusedSimpArgs false
theorem wf8 {n : Int} (h : (Lit.int .u8 n).wf = true) : 0 ≤ n ∧ n < 256 := by
  have : 0 ≤ n ∧ n ≤ 255 := by simpa [Lit.wf, IntKind.min, IntKind.max, IntKind.signed, IntKind.bits] using h
  omega
theorem pureBitsLimits (a0 : Int) (w0 : (Lit.int .i64 a0).wf = true) (a1 : Int) (w1 : (Lit.int .i64 a1).wf = true) (x2 : Arg) (z2 : List Int) (s2 : Arg.isRow .u8 z2 x2) (w2 : ∀ n ∈ z2, (Lit.int .u8 n).wf = true) (y2 : z2.length * 1 ≤ 140737488351232) :
    ∃ μ', overdublaw01_BitsLimits (argVals 0 [.i .i64 a0, .i .i64 a1, x2]) (argMem [.i .i64 a0, .i .i64 a1, x2]) = some (.s (.bool true), μ') := by
  obtain ⟨a, ha, hx⟩ := IsRow.arg (l := [.i .i64 a0, .i .i64 a1, x2]) (j := 2) s2 rfl
  have hw := WF.args [.i .i64 a0, .i .i64 a1, x2]
  show ∃ μ', overdublaw01_BitsLimits [.s (.int .i64 a0), .s (.int .i64 a1), x2.val 2] _ = _
  rw [ha]
  generalize argMem [.i .i64 a0, .i .i64 a1, x2] = μ at *
  obtain ⟨d, e1, hd⟩ := cutB_is hx 20
  rw [show ((20 : Nat) : Int) = 20 from rfl] at e1
  have hb : ∀ v ∈ z2.take 20, 0 ≤ v ∧ v < 256 := fun v hv => wf8 (w2 v (List.mem_of_mem_take hv))
  have hl : (z2.take 20).length ≤ 20 := by simp; omega
  generalize z2.take 20 = bs at *
  obtain ⟨A, F1, m1, f1, k1, wa1⟩ := newWriter_is hw
  obtain ⟨r, rb, m2, f2, k2, s2'⟩ := newReader_is k1.wf (hd.same k1) (by omega)
  have wa2 := wa1.same k2
  obtain ⟨F3, m3, f3, k3, wa3, fa3⟩ := (Put_is k2.wf wa2 (by simp) a0 3).2 (by omega)
  rw [List.nil_append] at wa3
  have hl3 : (putD a0 (3 : Int).toNat).length = 3 := putD_len _ _
  have aR : ∀ j, F1 j → ¬ foot r rb j := fun j hj hf => by
    obtain ⟨_, o, ho⟩ := wa1.ids hj
    have := k1.wf.lt ho
    have := (s2'.ids hf).1
    omega
  have s3 := s2'.keep k3 aR
  have aR3 : ∀ j, F3 j → ¬ foot r rb j := fun j hj hf => by
    rcases fa3 j hj with h | h
    · exact aR j h hf
    · obtain ⟨_, o, ho⟩ := s2'.ids hf
      have := k2.wf.lt ho
      omega
  have hdl : ∀ {m : AMem} {S : Nat → Prop}, lenS (.s d) = some bs.length := fun {m S} => hd.len
  have hdlen := hd.len
  have nnp : ∀ i, isNil (.s (.ptr i 0 0)) = some false := fun i => rfl
  have hL3 := Len_is wa3
  rw [hl3] at hL3
  have h3 : ((3 : Nat) : Int) = 3 := rfl
  rw [h3] at hL3
  have hw8 : IntKind.wrap .i64 (8 * ((bs.length : Nat) : Int)) = ((8 * bs.length - 0 : Nat) : Int) := by rw [wr (by omega)]; omega
  have heqb : (((8 * bs.length - 0 : Nat) : Int) == ((8 * bs.length - 0 : Nat) : Int)) = true := by simp
  have hneb : (((8 * bs.length - 0 : Nat) : Int) != ((8 * bs.length - 0 : Nat) : Int)) = false := by simp
  have ff : (false == false) = true := rfl
  have tt : (true == true) = true := rfl
  have ft : (false == true) = false := rfl
  have tf : (true == false) = false := rfl
  have ne00 : ((0 : Int) != 0) = false := rfl
  have ne33 : ((3 : Int) != 3) = false := rfl
  have t33 : ((3 : Int) == 3) = true := rfl
  rw [overdublaw01_BitsLimits_eq]
  by_cases c : a1 < 0 ∨ a1 > 62
  · have f4 := (Put_is k3.wf wa3 (by omega) a0 a1).1 c
    have f5 := Left_is s3 (by omega) (by omega)
    have f6 := (Get_is k3.wf s3 (by omega) (by omega) hb a1).1 (by omega)
    have f7 := (Ones_is k3.wf wa3 (by omega) (-1)).1 (by omega)
    have f8 := (Ones_is k3.wf wa3 (by omega) 1025).1 (by omega)
    obtain ⟨μ', g⟩ := wakes_is m3 k3.wf
    by_cases c1 : a1 < 0
    · simp -implicitDefEqProofs only [e1, f1, f2, wa1.nn, nnp, f3, lt_t c1, f4, ff, ft, tf, hL3, ne33, f5, f6, ne00, hneb, f7, f8, t33, hdlen, hw8, heqb, g, Option.bind_some, decide_true, decide_false, cond_true, cond_false, seqJ_n, seqJ_r, seqJ_e, headK_c, asB_bool, asI_int, asS_s, asN_int, extrK_0, extrK_1, extrK_2, Bool.not_true, Bool.not_false, Nat.beq_refl]
      exact ⟨_, rfl⟩
    · simp -implicitDefEqProofs only [e1, f1, f2, wa1.nn, nnp, f3, lt_f (show (0 : Int) ≤ a1 by omega), gt_t (show (62 : Int) < a1 by omega), f4, ff, ft, tf, hL3, ne33, f5, f6, ne00, hneb, f7, f8, t33, hdlen, hw8, heqb, g, Option.bind_some, decide_true, decide_false, cond_true, cond_false, seqJ_n, seqJ_r, seqJ_e, headK_c, asB_bool, asI_int, asS_s, asN_int, extrK_0, extrK_1, extrK_2, Bool.not_true, Bool.not_false, Nat.beq_refl]
      exact ⟨_, rfl⟩
  · obtain ⟨n, hn⟩ : ∃ n : Nat, a1 = (n : Int) := ⟨a1.toNat, by omega⟩
    subst hn
    obtain ⟨F4, m4, f4, k4, wa4, fa4⟩ := (Put_is k3.wf wa3 (by omega) a0 (n : Int)).2 (by omega)
    rw [nat_toNat] at wa4
    have hl4 : (putD a0 (3 : Int).toNat ++ putD a0 n).length = 3 + n := by rw [List.length_append, putD_len, putD_len]; rfl
    have s4 := s3.keep k4 aR3
    have hL4 := Len_is wa4
    rw [hl4] at hL4
    have f5 := Left_is s4 (by omega) (by omega)
    have hw3 : IntKind.wrap .i64 (3 + (n : Int)) = ((3 + n : Nat) : Int) := by rw [wr (by omega)]; omega
    have q4 : (((3 + n : Nat) : Int) != ((3 + n : Nat) : Int)) = false := by simp
    have q5 : (((3 + n : Nat) : Int) == ((3 + n : Nat) : Int)) = true := by simp
    have c1 := lt_f (a := (n : Int)) (b := 0) (by omega)
    have c2 := gt_f (a := (n : Int)) (b := 62) (by omega)
    by_cases c3 : n ≤ 8 * bs.length
    · obtain ⟨m5, f6, k5, s5⟩ := (Get_is k4.wf s4 (by omega) (by omega) hb (n : Int)).2 (by omega)
      have aR4 : ∀ j, j = r → ¬ F4 j := fun j hj hf => by
        subst hj
        rcases fa4 j hf with h | h
        · exact aR3 j h (.inl rfl)
        · obtain ⟨_, o, ho⟩ := s3.ids (.inl rfl)
          have := k3.wf.lt ho
          omega
      have wa5 := wa4.keep k5 aR4
      have hL5 := Len_is wa5
      rw [hl4] at hL5
      have f7 := (Ones_is k5.wf wa5 (by omega) (-1)).1 (by omega)
      have f8 := (Ones_is k5.wf wa5 (by omega) 1025).1 (by omega)
      have q6 := le_t (a := (n : Int)) (b := ((8 * bs.length - 0 : Nat) : Int)) (by omega)
      obtain ⟨μ', g⟩ := wakes_is m5 k5.wf
      simp -implicitDefEqProofs only [e1, f1, f2, wa1.nn, nnp, f3, c1, c2, f4, ff, tt, ft, tf, hL4, hw3, q4, f5, f6, hdlen, hw8, q6, hL5, f7, f8, q5, heqb, g, Option.bind_some, decide_true, decide_false, cond_true, cond_false, seqJ_n, seqJ_r, seqJ_e, headK_c, asB_bool, asI_int, asS_s, asN_int, extrK_0, extrK_1, extrK_2, Bool.not_true, Bool.not_false, Nat.beq_refl]
      exact ⟨_, rfl⟩
    · have f6 := (Get_is k4.wf s4 (by omega) (by omega) hb (n : Int)).1 (by omega)
      have f7 := (Ones_is k4.wf wa4 (by omega) (-1)).1 (by omega)
      have f8 := (Ones_is k4.wf wa4 (by omega) 1025).1 (by omega)
      have q6 := le_f (a := (n : Int)) (b := ((8 * bs.length - 0 : Nat) : Int)) (by omega)
      obtain ⟨μ', g⟩ := wakes_is m4 k4.wf
      simp -implicitDefEqProofs only [e1, f1, f2, wa1.nn, nnp, f3, c1, c2, f4, ff, tt, ft, tf, hL4, hw3, q4, f5, f6, ne00, hneb, hdlen, hw8, q6, f7, f8, q5, heqb, g, Option.bind_some, decide_true, decide_false, cond_true, cond_false, seqJ_n, seqJ_r, seqJ_e, headK_c, asB_bool, asI_int, asS_s, asN_int, extrK_0, extrK_1, extrK_2, Bool.not_true, Bool.not_false, Nat.beq_refl]
      exact ⟨_, rfl⟩
end Go.Proofs.Ytkbecppafippeaa
