/- The plain answer of LpcResiduals. -/
import Derived.Test.YtbknenfbdhginaaQRest
import Derived.Test.YtbknenfbdhginaaQCoefs
import Derived.Test.YtbknenfbdhginaaQWakes
import Derived.Test.YtbknenfbdhginaaKSamples
import Derived.Test.YtbknenfbdhginaaKSame
namespace Go.Proofs.Ytbknenfbdhginaa
open Go Go.Proofs.Ytbknenfbdhginaa.E
set_option linter.unusedVariables false
set_option linter.unusedSimpArgs false
theorem pureLpcResiduals (x0 : Arg) (z0 : List Int) (s0 : Arg.isRow .i64 z0 x0) (w0 : ∀ n ∈ z0, (Lit.int .i64 n).wf = true) (y0 : z0.length * 8 ≤ 140737488351232) (x1 : Arg) (z1 : List Int) (s1 : Arg.isRow .i64 z1 x1) (w1 : ∀ n ∈ z1, (Lit.int .i64 n).wf = true) (y1 : z1.length * 8 ≤ 140737488351232) (x2 : Arg) (z2 : List Int) (s2 : Arg.isRow .i64 z2 x2) (w2 : ∀ n ∈ z2, (Lit.int .i64 n).wf = true) (y2 : z2.length * 8 ≤ 140737488351232) (a3 : Bool) (a4 : Bool) (a5 : Int) (w5 : (Lit.int .i64 a5).wf = true) :
    ∃ μ', overdublaw06_LpcResiduals (argVals 0 [x0, x1, x2, .tf a3, .tf a4, .i .i64 a5]) (argMem [x0, x1, x2, .tf a3, .tf a4, .i .i64 a5]) = some (.s (.bool true), μ') := by
  obtain ⟨a, ha, hx⟩ := IsRow.arg (l := [x0, x1, x2, .tf a3, .tf a4, .i .i64 a5]) (j := 0) s0 rfl
  obtain ⟨b, hb, hy⟩ := IsRow.arg (l := [x0, x1, x2, .tf a3, .tf a4, .i .i64 a5]) (j := 1) s1 rfl
  obtain ⟨c, hc, hr⟩ := IsRow.arg (l := [x0, x1, x2, .tf a3, .tf a4, .i .i64 a5]) (j := 2) s2 rfl
  have hw := WF.args [x0, x1, x2, .tf a3, .tf a4, .i .i64 a5]
  show ∃ μ', overdublaw06_LpcResiduals [x0.val 0, x1.val 1, x2.val 2, .s (.bool a3), .s (.bool a4), .s (.int .i64 a5)] _ = _
  rw [ha, hb, hc]
  generalize argMem [x0, x1, x2, .tf a3, .tf a4, .i .i64 a5] = μ at *
  have c70 : (((70 : Nat) : Int)) = 70 := rfl
  obtain ⟨X, m1, e1, k1, o1⟩ := samples_is hw 70 a3 hx w0 (by omega)
  rw [c70] at e1
  obtain ⟨C, m2, e2, k2, o2⟩ := coefs_is k1.wf a4 (hy.same k1) w1
  have lx : ((z0.take 70).map (sampleZ a3)).length ≤ 70 := by simp; omega
  have lc : ((z1.take 14).map (coefZ a4)).length ≤ 14 := by simp; omega
  generalize ((z0.take 70).map (sampleZ a3)) = xs at *
  generalize ((z1.take 14).map (coefZ a4)) = cs at *
  obtain ⟨l, m3, e3, k3, o3⟩ := lpcRes_is k2.wf (o1.row.same k2) o2.row (by omega) (by omega)
  obtain ⟨r, m4, e4, k4, o4⟩ := refLpcRes_is k3.wf (o1.row.same (k2.trans k3)) (o2.row.same k3) (by omega) (by omega)
  have lz : (resZ xs cs).length ≤ 70 := by
    unfold resZ leftZ; split <;> simp; omega
  have e5 := same_is (o3.row.same k4) o4.row (by omega)
  rw [decide_eq_true rfl] at e5
  obtain ⟨d, e6, hd⟩ := cutN_is (hr.same (((k1.trans k2).trans k3).trans k4)) 70
  rw [c70] at e6
  have e7 := within_is a5 3 (wf64 w5) (by omega) (by omega) m4
  have ew : (if 0 > ((cs.length : Nat) : Int) + a5 % 3 - 1 then 0 else ((cs.length : Nat) : Int) + a5 % 3 - 1) = ((cs.length + (a5 % 3).toNat - 1 : Nat) : Int) := by
    split <;> omega
  obtain ⟨w, e8, hw8⟩ := cutN_is (o1.row.same ((k2.trans k3).trans k4)) (cs.length + (a5 % 3).toNat - 1)
  rw [← ew] at e8
  obtain ⟨p, m5, e9, k5, o5⟩ := lpcRest_is k4.wf hw8 hd (o2.row.same (k3.trans k4)) (by simp; omega) (by simp; omega) (by omega)
  obtain ⟨q, m6, e10, k6, o6⟩ := refRest_is k5.wf (hw8.same k5) (hd.same k5) (o2.row.same ((k3.trans k4).trans k5)) (by simp; omega) (by simp; omega) (by omega)
  have lr : (restZ (xs.take (cs.length + (a5 % 3).toNat - 1)) (z2.take 70) cs).length ≤ 1000 := by
    unfold restZ runZ
    split
    · split
      · split
        · simp
        · split
          · simp
          · omega
      · simp
    · simp
  have e11 := same_is (o5.row.same k6) o6.row (by omega)
  rw [decide_eq_true rfl] at e11
  obtain ⟨μ', e12⟩ := wakes_is m6 k6.wf
  rw [overdublaw06_LpcResiduals_eq]
  simp (disch := omega) only [lt_t, lt_f, gt_t, gt_f, le_t, le_f, ge_t, ge_f, ne_t, ne_f, eq_t, eq_f, w64, chk_true, Option.bind_some, decide_true, decide_false, cond_true, cond_false, seqJ_n, seqJ_r, seqJ_e, headK_c, asB_bool, asI_int, asS_s, asN_int, extrK_0, extrK_1, extrK_2, Bool.not_true, Bool.not_false, Nat.beq_refl, e1, e2, e3, e4, e5, e6, o2.row.len, e7, e8, e9, e10, e11, e12]
  exact ⟨_, rfl⟩
end Go.Proofs.Ytbknenfbdhginaa
