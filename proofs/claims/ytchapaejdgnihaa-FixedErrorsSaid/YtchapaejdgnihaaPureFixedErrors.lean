/- The plain answer of FixedErrors. -/
import Derived.Test.YtchapaejdgnihaaQFixRest
import Derived.Test.YtchapaejdgnihaaQZeros
import Derived.Test.YtchapaejdgnihaaQWakes
import Derived.Test.YtchapaejdgnihaaKWithin
namespace Go.Proofs.Ytchapaejdgnihaa
open Go Go.Proofs.Ytchapaejdgnihaa.E
set_option linter.unusedVariables false
set_option linter.unusedSimpArgs false
theorem fresE_bad {xs : List Int} {p e : Int} (h : checkZ xs = e) (hp : 0 ≤ p ∧ p ≤ 4) (hl : 4 ≤ xs.length) : fresE xs p = e := by unfold fresE; rw [if_pos (by omega), h]
theorem fresE_no {xs : List Int} {p : Int} (hp : p < 0 ∨ 4 < p) : fresE xs p = 1 := by unfold fresE; rw [if_neg (by omega)]
theorem pureFixedErrors (a0 : Int) (w0 : (Lit.int .i64 a0).wf = true) (a1 : Int) (w1 : (Lit.int .i64 a1).wf = true) (a2 : Int) (w2 : (Lit.int .i64 a2).wf = true) :
    ∃ μ', overdublaw05_FixedErrors (argVals 0 [.i .i64 a0, .i .i64 a1, .i .i64 a2]) (argMem [.i .i64 a0, .i .i64 a1, .i .i64 a2]) = some (.s (.bool true), μ') := by
  have hw := WF.args [.i .i64 a0, .i .i64 a1, .i .i64 a2]
  show ∃ μ', overdublaw05_FixedErrors [.s (.int .i64 a0), .s (.int .i64 a1), .s (.int .i64 a2)] _ = _
  generalize argMem [.i .i64 a0, .i .i64 a1, .i .i64 a2] = μ at *
  have e1 := within_is a2 5 (wf64 w2) (by omega) (by omega) (μ.bump 5)
  have e2 := fun m => within_is a1 99 (wf64 w1) (by omega) (by omega) m
  have e3 := fun m => within_is a0 5 (wf64 w0) (by omega) (by omega) m
  have e4 := fun m => within_is a0 50 (wf64 w0) (by omega) (by omega) m
  obtain ⟨v, hv, hv1⟩ : ∃ v, IntKind.wrap .i64 (8388608 + a1 % 99) = v ∧ 8388608 ≤ v := ⟨8388608 + a1 % 99, wr (by omega), by omega⟩
  obtain ⟨l, hl, hl1⟩ : ∃ l : Nat, IntKind.wrap .i64 (65 + a2 % 5) = (l : Int) ∧ 65 ≤ l ∧ l ≤ 70 := ⟨(65 + a2 % 5).toNat, by rw [wr (by omega)]; omega, by omega, by omega⟩
  obtain ⟨c, hc, hc1⟩ : ∃ c, IntKind.wrap .i64 (5 + a0 % 50) = c ∧ 5 ≤ c := ⟨5 + a0 % 50, wr (by omega), by omega⟩
  obtain ⟨d, hd, hd1⟩ : ∃ d, IntKind.wrap .i64 ((-1) - a0 % 50) = d ∧ d < 0 := ⟨(-1) - a0 % 50, wr (by omega), by omega⟩
  have hp : 0 ≤ a0 % 5 ∧ a0 % 5 ≤ 4 := by omega
  have hifl : 0 ≤ (l : Int) ∧ (l : Int) ≤ (l : Int) ∧ (l : Int) ≤ 9223372036854775807 ∧ ((8 : Nat) : Int) * (l : Int) ≤ 140737488355328 := by omega
  rw [overdublaw05_FixedErrors_eq]
  simp -implicitDefEqProofs only [e1, e2, e3, e4, hv, hl, hc, hd, nat_toNat, Option.bind_some, decide_true, decide_false, cond_true, cond_false, seqJ_n, seqJ_r, seqJ_e, headK_c, asB_bool, asI_int, asS_s, asN_int, extrK_0, extrK_1, extrK_2, Bool.not_true, Bool.not_false, Nat.beq_refl]
  rw [if_pos hifl]
  obtain ⟨M1, hM1⟩ : ∃ M, M = ((μ.bump 5).set (μ.next + 3) (rowObj (zerosA [.int .i64 0] l) 1 3 (some l))) := ⟨_, rfl⟩
  have k1 : Same μ M1 := hM1 ▸ Same.bumpSet hw (by omega) _
  have r1 : IsRow M1 .i64 (.slice (μ.next + 3) 0 0 l) (List.replicate l 0) := by
    rw [hM1]; exact zeros_row (e := 3) (q := some l) (by simp)
  rw [← hM1]
  clear hM1
  obtain ⟨M2, hM2⟩ : ∃ M, M = ((M1.bump 5).set (M1.next + 3) (rowObj [.int .i64 1, .int .i64 2, .int .i64 3, .int .i64 4, .int .i64 v] 1 3 (some 5))) := ⟨_, rfl⟩
  have k2 : Same M1 M2 := hM2 ▸ Same.bumpSet k1.wf (by omega) _
  have r2 : IsRow M2 .i64 (.slice (M1.next + 3) 0 0 5) [1, 2, 3, 4, v] := by
    rw [hM2]; exact IsRow.made (o := rowObj [.int .i64 1, .int .i64 2, .int .i64 3, .int .i64 4, .int .i64 v] 1 3 (some 5)) (by simp) rfl rfl rfl
  rw [← hM2]
  clear hM2
  have k25 := bumpS (Keep.refl k2.wf) 5
  obtain ⟨D, m3, g1, g2, g3⟩ := copy_is k25.wf ((r1.same k2).same k25) (by simp; omega)
  obtain ⟨E', m4, g4, k4, o4⟩ := pushM (B := 8) (a := 2) (b := 3) (n := 5) (q := some 1) k2.wf (Keep.refl k2.wf) g2 (k := .i64) (e := 3) (x := .nilSlice) (zs := []) (OwnRow.nil _ _ _ _) (-8388609) (by omega) (by simp) (by omega) (by omega) (by omega)
  clear g4 k4 o4 E' m4
  have hn3 := g2.next
  simp only [bump_next] at hn3
  have ks : Same M2 (m3.set (M2.next + 2) (rowObj [.int .i64 (-8388609)] 1 3 (some 1))) := Keep.setS k2.wf (k25.trans g2) (by omega) (by omega)
  have g3' : OwnRow M2.next (m3.set (M2.next + 2) (rowObj [.int .i64 (-8388609)] 1 3 (some 1))) .i64 3 D (List.replicate l 0) := by
    refine (g3.old fun id o ho hi => ?_).less (by simp)
    have : ¬ id = M2.next + 2 := fun e => g3.notOld (id := id) (by simp; omega) hi
    rw [set_obj, if_neg this]; exact ho
  have hlit : IsRow (m3.set (M2.next + 2) (rowObj [.int .i64 (-8388609)] 1 3 (some 1))) .i64 (.slice (M2.next + 2) 0 0 1) [-8388609] := IsRow.made (o := rowObj [.int .i64 (-8388609)] 1 3 (some 1)) (by simp) rfl rfl rfl
  obtain ⟨L, m4, g4, k4, o4⟩ := appS (B := 8) (nid := M2.next + 3) k2.wf ks g3' hlit (by omega) (by simp; omega) (by omega) (by simp; omega) (by rw [set_obj, if_neg (by omega)]; exact freshS k2.wf (n := 5) (by omega) g2)
  have r1' := (r1.same k2).same k4
  have r2' := r2.same k4
  have hbad : checkZ [1, 2, 3, 4, v] = 8 := checkZ_bad (v := v) (by simp) (okS_high (by omega))
  have hbl : checkZ (List.replicate l 0 ++ [-8388609]) = 8 := checkZ_bad (v := -8388609) (by simp) (okS_low (by omega))
  have hlb : (List.replicate l (0 : Int) ++ [-8388609]).length ≤ 71 := by simp; omega
  have hlb4 : 4 ≤ (List.replicate l (0 : Int) ++ [-8388609]).length := by simp; omega
  -- a
  obtain ⟨y1, m5, b1, j1, _⟩ := fixRes_is k4.wf (a0 % 5) r1' (by simp; omega)
  rw [fresE_bad (e := 4) (checkZ_long (by omega)) hp (by simp; omega)] at b1
  -- b
  obtain ⟨y2, m6, b2, j2, _⟩ := fixRes_is j1.wf (a0 % 5) (r2'.same j1) (by simp)
  rw [fresE_bad hbad hp (by simp)] at b2
  have j02 := j1.trans j2
  -- c
  obtain ⟨y3, m7, b3, j3, _⟩ := fixRes_is j2.wf 2 (o4.row.same j02) (by omega)
  rw [fresE_bad hbl (by omega) hlb4] at b3
  have j03 := j02.trans j3
  -- d
  obtain ⟨y4, m8, b4, j4, _⟩ := fixRes_is j3.wf c (o4.row.same j03) (by omega)
  rw [fresE_no (by omega)] at b4
  have j04 := j03.trans j4
  -- e
  obtain ⟨y5, m9, b5, j5, _⟩ := fixRes_is j4.wf d (r2'.same j04) (by simp)
  rw [fresE_no (by omega)] at b5
  have j05 := j04.trans j5
  -- f
  have kf := Same.bumpSet j5.wf (n := 8) (a := 0) (by omega) (rowObj [.int .i64 0, .int .i64 0, .int .i64 0, .int .i64 0, .int .i64 0] 1 3 (some 5))
  have rf : IsRow ((m9.bump 8).set (m9.next + 0) (rowObj [.int .i64 0, .int .i64 0, .int .i64 0, .int .i64 0, .int .i64 0] 1 3 (some 5))) .i64 (.slice (m9.next + 0) 0 0 5) [0, 0, 0, 0, 0] := IsRow.made (o := rowObj [.int .i64 0, .int .i64 0, .int .i64 0, .int .i64 0, .int .i64 0] 1 3 (some 5)) (by simp) rfl rfl rfl
  obtain ⟨y6, m10, b6, j6, _⟩ := fixRest_is kf.wf rf ((r2'.same j05).same kf) (by simp) (by simp)
  have q6 : frestE [0, 0, 0, 0, 0] [1, 2, 3, 4, v] = 1 := by unfold frestE; rw [if_neg (by simp)]
  rw [q6] at b6
  have j06 := (j05.trans kf).trans j6
  -- g
  have kg := Keep.setS j6.wf (Keep.setS j6.wf (Keep.bump (S := fun _ => False) j6.wf 8) (i := m10.next + 0) (o := rowObj [.int .i64 8388607] 1 3 (some 1)) (by omega) (by simp)) (i := m10.next + 1) (o := rowObj [.int .i64 1] 1 3 (some 1)) (by omega) (by simp)
  obtain ⟨G, hG⟩ : ∃ M, M = (((m10.bump 8).set (m10.next + 0) (rowObj [.int .i64 8388607] 1 3 (some 1))).set (m10.next + 1) (rowObj [.int .i64 1] 1 3 (some 1))) := ⟨_, rfl⟩
  rw [← hG] at kg
  have rg1 : IsRow G .i64 (.slice (m10.next + 0) 0 0 1) [8388607] := IsRow.made (o := rowObj [.int .i64 8388607] 1 3 (some 1)) (by rw [hG]; simp) rfl rfl rfl
  have rg2 : IsRow G .i64 (.slice (m10.next + 1) 0 0 1) [1] := IsRow.made (o := rowObj [.int .i64 1] 1 3 (some 1)) (by rw [hG]; simp) rfl rfl rfl
  obtain ⟨y7, m11, b7, j7, _⟩ := fixRest_is kg.wf rg1 rg2 (by simp) (by simp)
  have q7 : frestE [8388607] [1] = 8 := by decide
  rw [q7, hG] at b7
  have j07 := (j06.trans kg).trans j7
  -- h
  obtain ⟨y8, m12, b8, j8, _⟩ := fixRest_is j7.wf (w := .nilSlice) (ws := List.replicate 0 0) (.inl ⟨rfl, rfl⟩) (r1'.same j07) (by simp) (by simp; omega)
  have q8 : frestE (List.replicate 0 0) (List.replicate l 0) = 4 := by
    unfold frestE; rw [if_pos (by simp)]; exact runE_zero (fun m => rfl) (by omega) (by omega)
  rw [q8] at b8
  obtain ⟨μ', e12⟩ := wakes_is m12 j8.wf
  have t1 : ((1 : Int) == 1) = true := rfl
  have t4 : ((4 : Int) == 4) = true := rfl
  have t8 : ((8 : Int) == 8) = true := rfl
  simp -implicitDefEqProofs only [g1, g4, b1, b2, b3, b4, b5, b6, b7, b8, e12, e3, e4, hc, hd, t1, t4, t8, Option.bind_some, decide_true, decide_false, cond_true, cond_false, seqJ_n, seqJ_r, seqJ_e, headK_c, asB_bool, asI_int, asS_s, asN_int, extrK_0, extrK_1, extrK_2, Bool.not_true, Bool.not_false, Nat.beq_refl]
  exact ⟨_, rfl⟩
end Go.Proofs.Ytchapaejdgnihaa
