/- The plain answer of LpcBack. -/
import Derived.Test.YtbknenfbdhginaaQRest
import Derived.Test.YtbknenfbdhginaaQCoefs
import Derived.Test.YtbknenfbdhginaaQWakes
import Derived.Test.YtbknenfbdhginaaQBack
import Derived.Test.YtbknenfbdhginaaKSame
namespace Go.Proofs.Ytbknenfbdhginaa
open Go Go.Proofs.Ytbknenfbdhginaa.E
set_option linter.unusedVariables false
set_option linter.unusedSimpArgs false
theorem coefB_tame (v : Int) : coefB (coefZ false v) = true := by
  unfold coefB coefZ
  simp only [Bool.false_and, Bool.false_eq_true, if_false]
  rw [decide_eq_true (by omega), decide_eq_true (by omega)]; rfl
theorem mayC_tame {zs : List Int} {n : Nat} (h1 : 1 ≤ ((zs.map (coefZ false)).take n).length) (h2 : ((zs.map (coefZ false)).take n).length ≤ 12) : mayC ((zs.map (coefZ false)).take n) = true := by
  unfold mayC
  rw [decide_eq_true h1, decide_eq_true h2, List.all_eq_true.mpr]
  · rfl
  · intro v hv
    obtain ⟨u, _, rfl⟩ := List.mem_map.mp (List.mem_of_mem_take hv)
    exact coefB_tame u
theorem pureLpcBack (x0 : Arg) (z0 : List Int) (s0 : Arg.isRow .i64 z0 x0) (w0 : ∀ n ∈ z0, (Lit.int .i64 n).wf = true) (y0 : z0.length * 8 ≤ 140737488351232) (x1 : Arg) (z1 : List Int) (s1 : Arg.isRow .i64 z1 x1) (w1 : ∀ n ∈ z1, (Lit.int .i64 n).wf = true) (y1 : z1.length * 8 ≤ 140737488351232) :
    ∃ μ', overdublaw06_LpcBack (argVals 0 [x0, x1]) (argMem [x0, x1]) = some (.s (.bool true), μ') := by
  obtain ⟨a, ha, hx⟩ := IsRow.arg (l := [x0, x1]) (j := 0) s0 rfl
  obtain ⟨b, hb, hy⟩ := IsRow.arg (l := [x0, x1]) (j := 1) s1 rfl
  have hw := WF.args [x0, x1]
  show ∃ μ', overdublaw06_LpcBack [x0.val 0, x1.val 1] _ = _
  rw [ha, hb]
  generalize argMem [x0, x1] = μ at *
  have c64 : (((64 : Nat) : Int)) = 64 := rfl
  have c12 : (((12 : Nat) : Int)) = 12 := rfl
  obtain ⟨X, m1, e1, k1, o1⟩ := samples_is hw 64 false hx w0 (by omega)
  rw [c64] at e1
  obtain ⟨C0, m2, e2, k2, o2⟩ := coefs_is k1.wf false (hy.same k1) w1
  obtain ⟨C, e3, r3⟩ := cutN_is o2.row 12
  rw [c12] at e3
  have tx : ∀ v ∈ (z0.take 64).map (sampleZ false), -8388608 ≤ v ∧ v ≤ 8388607 := samples_tame
  have lx : ((z0.take 64).map (sampleZ false)).length ≤ 64 := by simp; omega
  have lc : (((z1.take 14).map (coefZ false)).take 12).length ≤ 12 := by simp; omega
  have mc := fun h => mayC_tame (zs := z1.take 14) (n := 12) h lc
  generalize ((z0.take 64).map (sampleZ false)) = xs at *
  generalize (((z1.take 14).map (coefZ false)).take 12) = cs at *
  obtain ⟨l, m3, e4, k3, o3⟩ := lpcRes_is k2.wf (o1.row.same k2) r3 (by omega) (by omega)
  have hlx := (o1.row.same k2).len
  rw [overdublaw06_LpcBack_eq]
  obtain ⟨μ', e5⟩ := wakes_is m3 k3.wf
  by_cases c0 : cs.length = 0
  · have hE : resE xs cs = 1 := by unfold resE; rw [if_neg (fun h => by have := mayC_spec h.1; omega)]
    rw [hE] at e4
    simp (disch := omega) only [lt_t, lt_f, gt_t, gt_f, le_t, le_f, ge_t, ge_f, ne_t, ne_f, eq_t, eq_f, w64, chk_true, Option.bind_some, decide_true, decide_false, cond_true, cond_false, seqJ_n, seqJ_r, seqJ_e, headK_c, asB_bool, asI_int, asS_s, asN_int, extrK_0, extrK_1, extrK_2, Bool.not_true, Bool.not_false, Nat.beq_refl, e1, e2, e3, r3.len, c0, n0, e4, e5]
    exact ⟨_, rfl⟩
  · by_cases c1 : xs.length < cs.length
    · have hE : resE xs cs = 1 := by unfold resE; rw [if_neg (by omega)]
      rw [hE] at e4
      simp (disch := omega) only [lt_t, lt_f, gt_t, gt_f, le_t, le_f, ge_t, ge_f, ne_t, ne_f, eq_t, eq_f, w64, chk_true, Option.bind_some, decide_true, decide_false, cond_true, cond_false, seqJ_n, seqJ_r, seqJ_e, headK_c, asB_bool, asI_int, asS_s, asN_int, extrK_0, extrK_1, extrK_2, Bool.not_true, Bool.not_false, Nat.beq_refl, e1, e2, e3, r3.len, hlx, e4, e5]
      exact ⟨_, rfl⟩
    · have hE : resE xs cs = 0 := by unfold resE; rw [if_pos ⟨mc (by omega), by omega⟩, checkZ_tame tx lx]
      have hZ : resZ xs cs = (List.range' cs.length (xs.length - cs.length)).map fun j => xs.getD j 0 - (fun l => guessZ l cs) (xs.take j) := by unfold resZ; rw [if_pos hE]; rfl
      have hrun := run_left (g := fun l => guessZ l cs) (fun i => by have := guessZ_le (xs.take i) cs; omega) tx lx (n := cs.length) (by omega)
      rw [← hZ] at hrun
      obtain ⟨z, f1, f2⟩ := (o1.row.same (k2.trans k3)).front (n := cs.length) (by omega)
      have lz : (resZ xs cs).length ≤ 64 := by rw [hZ]; simp; omega
      obtain ⟨p, m5, e9, k5, o5⟩ := lpcRest_is k3.wf f2 o3.row (r3.same k3) (by simp; omega) (by omega) (by omega)
      have hlt : (xs.take cs.length).length = cs.length := by simp; omega
      have hRE : restE (xs.take cs.length) (resZ xs cs) cs = 0 := by unfold restE; rw [if_pos ⟨mc (by omega), hlt⟩]; exact hrun.1
      have hRZ : restZ (xs.take cs.length) (resZ xs cs) cs = xs := by unfold restZ; rw [if_pos ⟨mc (by omega), hlt⟩]; exact hrun.2
      rw [hE] at e4
      rw [hRE] at e9
      rw [hRZ] at o5
      have e11 := same_is o5.row (o1.row.same ((k2.trans k3).trans k5)) (by omega)
      rw [decide_eq_true rfl] at e11
      obtain ⟨μ2, e12⟩ := wakes_is m5 k5.wf
      simp (disch := omega) only [lt_t, lt_f, gt_t, gt_f, le_t, le_f, ge_t, ge_f, ne_t, ne_f, eq_t, eq_f, w64, chk_true, Option.bind_some, decide_true, decide_false, cond_true, cond_false, seqJ_n, seqJ_r, seqJ_e, headK_c, asB_bool, asI_int, asS_s, asN_int, extrK_0, extrK_1, extrK_2, Bool.not_true, Bool.not_false, Nat.beq_refl, e1, e2, e3, r3.len, hlx, e4, f1, e9, e11, e12]
      exact ⟨_, rfl⟩
end Go.Proofs.Ytbknenfbdhginaa
