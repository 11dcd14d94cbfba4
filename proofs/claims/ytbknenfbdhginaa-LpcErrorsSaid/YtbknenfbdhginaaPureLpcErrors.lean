/- The plain answer of LpcErrors. -/
import Derived.Test.YtbknenfbdhginaaQRest
import Derived.Test.YtbknenfbdhginaaQZeros
import Derived.Test.YtbknenfbdhginaaQWakes
import Derived.Test.YtbknenfbdhginaaKWithin
namespace Go.Proofs.Ytbknenfbdhginaa
open Go Go.Proofs.Ytbknenfbdhginaa.E
set_option linter.unusedVariables false
set_option linter.unusedSimpArgs false
theorem guess_zeros (cs : List Int) (m : Nat) : guessZ (List.replicate m 0) cs = 0 := by
  unfold guessZ
  have : ∀ n, gsum (List.replicate m 0) cs n = 0 := by
    intro n
    induction n with
    | zero => rfl
    | succ n ih =>
      rw [gsum, ih]
      unfold gterm
      have : (List.replicate m (0 : Int)).getD ((List.replicate m (0 : Int)).length - 1 - n) 0 = 0 := by
        rw [List.getD_eq_getElem?_getD, List.getElem?_replicate]; split <;> rfl
      rw [this]
      have : cutZ 0 = 0 := by decide
      rw [this]; split <;> simp
  rw [this]; rfl
theorem pureLpcErrors (a0 : Int) (w0 : (Lit.int .i64 a0).wf = true) (a1 : Int) (w1 : (Lit.int .i64 a1).wf = true) :
    ∃ μ', overdublaw06_LpcErrors (argVals 0 [.i .i64 a0, .i .i64 a1]) (argMem [.i .i64 a0, .i .i64 a1]) = some (.s (.bool true), μ') := by
  have hw := WF.args [.i .i64 a0, .i .i64 a1]
  show ∃ μ', overdublaw06_LpcErrors [.s (.int .i64 a0), .s (.int .i64 a1)] _ = _
  generalize argMem [.i .i64 a0, .i .i64 a1] = μ at *
  have e1 := within_is a0 5 (wf64 w0) (by omega) (by omega) μ
  have e2 := within_is a1 9 (wf64 w1) (by omega) (by omega) (μ.bump 5)
  obtain ⟨v, hv, hv1⟩ : ∃ v, IntKind.wrap .i64 (8388608 + a1 % 9) = v ∧ 8388608 ≤ v := ⟨8388608 + a1 % 9, wr (by omega), by omega⟩
  obtain ⟨n, hn, hn1⟩ : ∃ n : Nat, IntKind.wrap .i64 (13 + a0 % 5) = (n : Int) ∧ 13 ≤ n ∧ n ≤ 20 := ⟨(13 + a0 % 5).toNat, by rw [wr (by omega)]; omega, by omega, by omega⟩
  obtain ⟨l, hl, hl1⟩ : ∃ l : Nat, IntKind.wrap .i64 (65 + a0 % 5) = (l : Int) ∧ 65 ≤ l ∧ l ≤ 70 := ⟨(65 + a0 % 5).toNat, by rw [wr (by omega)]; omega, by omega, by omega⟩
  obtain ⟨c, hc, hc1⟩ : ∃ c, IntKind.wrap .i64 (32768 + a0 % 5) = c ∧ 32768 ≤ c := ⟨32768 + a0 % 5, wr (by omega), by omega⟩
  have hifn : 0 ≤ (n : Int) ∧ (n : Int) ≤ (n : Int) ∧ (n : Int) ≤ 9223372036854775807 ∧ ((8 : Nat) : Int) * (n : Int) ≤ 140737488355328 := by omega
  have hifl : 0 ≤ (l : Int) ∧ (l : Int) ≤ (l : Int) ∧ (l : Int) ≤ 9223372036854775807 ∧ ((8 : Nat) : Int) * (l : Int) ≤ 140737488355328 := by omega
  rw [overdublaw06_LpcErrors_eq]
  simp only [e1, e2, hv, hn, hl, hc, nat_toNat, Option.bind_some, decide_true, decide_false, cond_true, cond_false, seqJ_n, seqJ_r, seqJ_e, headK_c, asB_bool, asI_int, asS_s, asN_int, extrK_0, extrK_1, extrK_2, Bool.not_true, Bool.not_false, Nat.beq_refl]
  rw [if_pos hifn, if_pos hifl]
  obtain ⟨M1, hM1⟩ : ∃ M, M = ((μ.bump 5).set (μ.next + 3) (rowObj [.int .i64 v, .int .i64 0, .int .i64 0] 1 3 (some 3))) := ⟨_, rfl⟩
  have k1 : Same μ M1 := hM1 ▸ Same.bumpSet hw (by omega) _
  have r1 : IsRow M1 .i64 (.slice (μ.next + 3) 0 0 3) [v, 0, 0] := by
    rw [hM1]; exact IsRow.made (o := rowObj [.int .i64 v, .int .i64 0, .int .i64 0] 1 3 (some 3)) (by simp) rfl rfl rfl
  rw [← hM1]
  clear hM1
  obtain ⟨M2, hM2⟩ : ∃ M, M = ((M1.bump 4).set (M1.next + 2) (rowObj (zerosA [.int .i64 0] n) 1 3 (some n))) := ⟨_, rfl⟩
  have k2 : Same M1 M2 := hM2 ▸ Same.bumpSet k1.wf (by omega) _
  have r2 : IsRow M2 .i64 (.slice (M1.next + 2) 0 0 n) (List.replicate n 0) := by
    rw [hM2]; exact zeros_row (e := 3) (q := some n) (by simp)
  rw [← hM2]
  clear hM2
  obtain ⟨M3, hM3⟩ : ∃ M, M = ((M2.bump 4).set (M2.next + 2) (rowObj (zerosA [.int .i64 0] l) 1 3 (some l))) := ⟨_, rfl⟩
  have k3 : Same M2 M3 := hM3 ▸ Same.bumpSet k2.wf (by omega) _
  have r3 : IsRow M3 .i64 (.slice (M2.next + 2) 0 0 l) (List.replicate l 0) := by
    rw [hM3]; exact zeros_row (e := 3) (q := some l) (by simp)
  rw [← hM3]
  clear hM3
  have b0 := (r1.same k2).same k3
  have m0 := r2.same k3
  have hbad : checkZ [v, 0, 0] = 8 := checkZ_bad (v := v) (by simp) (okS_high (by omega))
  -- a
  obtain ⟨y1, m1, a1, ka, _⟩ := lpcRes_is k3.wf b0 (c := .nilSlice) (cs := []) (.inl ⟨rfl, rfl⟩) (by simp) (by simp)
  have q1 : resE [v, 0, 0] [] = 1 := by unfold resE; rw [if_neg]; intro h; have := mayC_spec h.1; simp at this
  rw [q1] at a1
  -- b
  have kb := Same.bumpSet ka.wf (n := 10) (a := 3) (by omega) (rowObj [.int .i64 c] 1 3 (some 1))
  have rb : IsRow ((m1.bump 10).set (m1.next + 3) (rowObj [.int .i64 c] 1 3 (some 1))) .i64 (.slice (m1.next + 3) 0 0 1) [c] := IsRow.made (o := rowObj [.int .i64 c] 1 3 (some 1)) (by simp) rfl rfl rfl
  obtain ⟨y2, m2, a2, kb', _⟩ := lpcRes_is kb.wf ((b0.same ka).same kb) rb (by simp) (by simp)
  have q2 : resE [v, 0, 0] [c] = 1 := by
    unfold resE; rw [if_neg]; intro h
    have := h.1
    unfold mayC at this
    have hcb : coefB c = false := by unfold coefB; rw [decide_eq_false (p := c ≤ 32767) (by omega), Bool.and_false]
    simp [hcb] at this
  rw [q2] at a2
  have k02 := (ka.trans kb).trans kb'
  -- c
  obtain ⟨y3, m3, a3, kc, _⟩ := lpcRes_is k02.wf (b0.same k02) (m0.same k02) (by simp) (by simp; omega)
  have q3 : resE [v, 0, 0] (List.replicate n 0) = 1 := by unfold resE; rw [if_neg]; intro h; have := mayC_spec h.1; simp at this; omega
  rw [q3] at a3
  have k03 := k02.trans kc
  -- d
  have kd := Same.bumpSet kc.wf (n := 8) (a := 1) (by omega) (rowObj [.int .i64 1, .int .i64 2] 1 3 (some 2))
  have rd : IsRow ((m3.bump 8).set (m3.next + 1) (rowObj [.int .i64 1, .int .i64 2] 1 3 (some 2))) .i64 (.slice (m3.next + 1) 0 0 2) [1, 2] := IsRow.made (o := rowObj [.int .i64 1, .int .i64 2] 1 3 (some 2)) (by simp) rfl rfl rfl
  obtain ⟨y4, m4, a4, kd', _⟩ := lpcRes_is kd.wf ((b0.same k03).same kd) rd (by simp) (by simp)
  have q4 : resE [v, 0, 0] [1, 2] = 8 := by unfold resE; rw [if_pos ⟨by decide, by simp⟩, hbad]
  rw [q4] at a4
  have k04 := (k03.trans kd).trans kd'
  -- e
  have ke := Same.bumpSet kd'.wf (n := 8) (a := 1) (by omega) (rowObj [.int .i64 1, .int .i64 2, .int .i64 3, .int .i64 4] 1 3 (some 4))
  have re : IsRow ((m4.bump 8).set (m4.next + 1) (rowObj [.int .i64 1, .int .i64 2, .int .i64 3, .int .i64 4] 1 3 (some 4))) .i64 (.slice (m4.next + 1) 0 0 4) [1, 2, 3, 4] := IsRow.made (o := rowObj [.int .i64 1, .int .i64 2, .int .i64 3, .int .i64 4] 1 3 (some 4)) (by simp) rfl rfl rfl
  obtain ⟨y5, m5, a5, ke', _⟩ := lpcRes_is ke.wf ((b0.same k04).same ke) re (by simp) (by simp)
  have q5 : resE [v, 0, 0] [1, 2, 3, 4] = 1 := by unfold resE; rw [if_neg]; intro h; have := h.2; simp at this
  rw [q5] at a5
  have k05 := (k04.trans ke).trans ke'
  -- f
  have kf := Same.bumpSet ke'.wf (n := 8) (a := 1) (by omega) (rowObj [.int .i64 1] 1 3 (some 1))
  have rf : IsRow ((m5.bump 8).set (m5.next + 1) (rowObj [.int .i64 1] 1 3 (some 1))) .i64 (.slice (m5.next + 1) 0 0 1) [1] := IsRow.made (o := rowObj [.int .i64 1] 1 3 (some 1)) (by simp) rfl rfl rfl
  obtain ⟨y6, m6, a6, kf', _⟩ := lpcRes_is kf.wf ((r3.same k05).same kf) rf (by simp; omega) (by simp)
  have q6 : resE (List.replicate l 0) [1] = 4 := by unfold resE; rw [if_pos ⟨by decide, by simp; omega⟩, checkZ_long (by omega)]
  rw [q6] at a6
  have k06 := (k05.trans kf).trans kf'
  -- g
  have kg := Same.bumpSet kf'.wf (n := 8) (a := 1) (by omega) (rowObj [.int .i64 1, .int .i64 2] 1 3 (some 2))
  have rg : IsRow ((m6.bump 8).set (m6.next + 1) (rowObj [.int .i64 1, .int .i64 2] 1 3 (some 2))) .i64 (.slice (m6.next + 1) 0 0 2) [1, 2] := IsRow.made (o := rowObj [.int .i64 1, .int .i64 2] 1 3 (some 2)) (by simp) rfl rfl rfl
  obtain ⟨y7, m7, a7, kg', _⟩ := lpcRest_is kg.wf ((b0.same k06).same kg) (r := .nilSlice) (rs := []) (.inl ⟨rfl, rfl⟩) rg (by simp) (by simp) (by simp)
  have q7 : restE [v, 0, 0] [] [1, 2] = 1 := by unfold restE; rw [if_neg]; intro h; have := h.2; simp at this
  rw [q7] at a7
  have k07 := (k06.trans kg).trans kg'
  -- h
  have kh := Keep.setS kg'.wf (Keep.setS kg'.wf (Keep.setS kg'.wf (Keep.bump (S := fun _ => False) kg'.wf 9) (i := m7.next + 0) (o := rowObj [.int .i64 8388607] 1 3 (some 1)) (by omega) (by simp)) (i := m7.next + 1) (o := rowObj [.int .i64 5] 1 3 (some 1)) (by omega) (by simp)) (i := m7.next + 2) (o := rowObj [.int .i64 4096] 1 3 (some 1)) (by omega) (by simp)
  obtain ⟨H, hH⟩ : ∃ M, M = ((((m7.bump 9).set (m7.next + 0) (rowObj [.int .i64 8388607] 1 3 (some 1))).set (m7.next + 1) (rowObj [.int .i64 5] 1 3 (some 1))).set (m7.next + 2) (rowObj [.int .i64 4096] 1 3 (some 1))) := ⟨_, rfl⟩
  rw [← hH] at kh
  have rh1 : IsRow H .i64 (.slice (m7.next + 0) 0 0 1) [8388607] := IsRow.made (o := rowObj [.int .i64 8388607] 1 3 (some 1)) (by rw [hH]; simp) rfl rfl rfl
  have rh2 : IsRow H .i64 (.slice (m7.next + 1) 0 0 1) [5] := IsRow.made (o := rowObj [.int .i64 5] 1 3 (some 1)) (by rw [hH]; simp) rfl rfl rfl
  have rh3 : IsRow H .i64 (.slice (m7.next + 2) 0 0 1) [4096] := IsRow.made (o := rowObj [.int .i64 4096] 1 3 (some 1)) (by rw [hH]; simp) rfl rfl rfl
  obtain ⟨y8, m8, a8, kh', _⟩ := lpcRest_is kh.wf rh1 rh2 rh3 (by simp) (by simp) (by simp)
  have q8 : restE [8388607] [5] [4096] = 8 := by decide
  rw [q8, hH] at a8
  have k08 := (k07.trans kh).trans kh'
  -- i
  have ki := Keep.setS kh'.wf (Keep.setS kh'.wf (Keep.bump (S := fun _ => False) kh'.wf 9) (i := m8.next + 0) (o := rowObj [.int .i64 0] 1 3 (some 1)) (by omega) (by simp)) (i := m8.next + 2) (o := rowObj [.int .i64 4096] 1 3 (some 1)) (by omega) (by simp)
  obtain ⟨I, hI⟩ : ∃ M, M = (((m8.bump 9).set (m8.next + 0) (rowObj [.int .i64 0] 1 3 (some 1))).set (m8.next + 2) (rowObj [.int .i64 4096] 1 3 (some 1))) := ⟨_, rfl⟩
  rw [← hI] at ki
  have ri1 : IsRow I .i64 (.slice (m8.next + 0) 0 0 1) (List.replicate 1 0) := IsRow.made (o := rowObj [.int .i64 0] 1 3 (some 1)) (by rw [hI]; simp) rfl rfl rfl
  have ri3 : IsRow I .i64 (.slice (m8.next + 2) 0 0 1) [4096] := IsRow.made (o := rowObj [.int .i64 4096] 1 3 (some 1)) (by rw [hI]; simp) rfl rfl rfl
  obtain ⟨y9, m9, a9, ki', _⟩ := lpcRest_is ki.wf ri1 ((r3.same k08).same ki) ri3 (by simp) (by simp; omega) (by simp)
  have q9 : restE (List.replicate 1 0) (List.replicate l 0) [4096] = 4 := by
    unfold restE; rw [if_pos ⟨by decide, rfl⟩]; exact runE_zero (fun m => guess_zeros _ m) (by omega) (by omega)
  rw [q9, hI] at a9
  obtain ⟨μ', e12⟩ := wakes_is m9 ki'.wf
  have t1 : ((1 : Int) == 1) = true := rfl
  have t4 : ((4 : Int) == 4) = true := rfl
  have t8 : ((8 : Int) == 8) = true := rfl
  simp only [a1, a2, a3, a4, a5, a6, a7, a8, a9, e12, t1, t4, t8, Option.bind_some, decide_true, decide_false, cond_true, cond_false, seqJ_n, seqJ_r, seqJ_e, headK_c, asB_bool, asI_int, asS_s, asN_int, extrK_0, extrK_1, extrK_2, Bool.not_true, Bool.not_false, Nat.beq_refl]
  exact ⟨_, rfl⟩
end Go.Proofs.Ytbknenfbdhginaa
