/- The plain answer of LpcNoughts. -/
import Derived.Test.YtbknenfbdhginaaQRest
import Derived.Test.YtbknenfbdhginaaQCoefs
import Derived.Test.YtbknenfbdhginaaQWakes
import Derived.Test.YtbknenfbdhginaaQBack
import Derived.Test.YtbknenfbdhginaaKSame
namespace Go.Proofs.Ytbknenfbdhginaa
open Go Go.Proofs.Ytbknenfbdhginaa.E
set_option linter.unusedVariables false
set_option linter.unusedSimpArgs false
theorem gterm_nought {zs cs : List Int} {i : Nat} (h : cs.getD i 0 = 0) : gterm zs cs i = 0 := by unfold gterm; rw [h]; simp
theorem gsum_nought {zs cs : List Int} : ∀ n : Nat, (∀ i, i < n → cs.getD i 0 = 0) → gsum zs cs n = 0
  | 0, _ => rfl
  | n + 1, h => by rw [gsum, gsum_nought n (fun i hi => h i (by omega)), gterm_nought (h n (by omega))]; rfl
theorem gsum_same {zs cs ds : List Int} : ∀ n : Nat, (∀ i, cs.getD i 0 = ds.getD i 0) → gsum zs cs n = gsum zs ds n
  | 0, _ => rfl
  | n + 1, h => by rw [gsum, gsum, gsum_same n h]; unfold gterm; rw [h n]
theorem gsum_more {zs cs : List Int} (m : Nat) (h : cs.length ≤ m) : ∀ n : Nat, gsum zs cs (m + n) = gsum zs cs m
  | 0 => rfl
  | n + 1 => by
    rw [← Nat.add_assoc, gsum, gsum_more m h n, gterm_nought]
    · omega
    · rw [List.getD_eq_getElem?_getD, List.getElem?_eq_none (by omega)]; rfl
theorem guess_noughts (zs cs : List Int) (h : cs.length ≤ 10) : guessZ zs (cs ++ [0, 0]) = guessZ zs cs := by
  unfold guessZ
  congr 1
  have hs : ∀ i, (cs ++ [0, 0]).getD i 0 = cs.getD i 0 := by
    intro i
    rcases Nat.lt_or_ge i cs.length with h1 | h1
    · simp only [List.getD_eq_getElem?_getD, List.getElem?_append_left h1]
    · have h2 : cs.getD i 0 = 0 := by rw [List.getD_eq_getElem?_getD, List.getElem?_eq_none h1]; rfl
      rw [h2, List.getD_eq_getElem?_getD, List.getElem?_append_right h1]
      match i - cs.length with
      | 0 => rfl
      | 1 => rfl
      | n + 2 => rfl
  rw [gsum_same _ hs]
  simp only [List.length_append, List.length_cons, List.length_nil]
  rcases Nat.lt_or_ge cs.length zs.length with h1 | h1
  · have e1 : min 12 (min zs.length cs.length) = cs.length := by omega
    obtain ⟨n, hn⟩ : ∃ n, min 12 (min zs.length (cs.length + (0 + 1 + 1))) = cs.length + n := ⟨min 12 (min zs.length (cs.length + (0 + 1 + 1))) - cs.length, by omega⟩
    rw [e1, hn, gsum_more _ (Nat.le_refl _)]
  · congr 1; omega
theorem guess_zero (zs : List Int) (n : Nat) : guessZ zs (List.replicate n 0) = 0 := by
  unfold guessZ
  rw [gsum_nought]
  · rfl
  · intro i hi
    rw [List.getD_eq_getElem?_getD, List.getElem?_replicate]
    split <;> rfl
theorem left_zero (xs : List Int) (n : Nat) (h : n ≤ xs.length) : leftZ (fun l => guessZ l (List.replicate n 0)) n xs = xs.drop n := by
  unfold leftZ
  apply List.ext_getElem
  · simp
  · intro i h1 h2
    simp only [List.length_drop] at h2
    rw [List.getElem_map, List.getElem_range', List.getElem_drop]
    show xs.getD (n + 1 * i) 0 - guessZ _ (List.replicate n 0) = _
    rw [guess_zero, getD_lt (by omega)]
    simp
theorem pureLpcNoughts (x0 : Arg) (z0 : List Int) (s0 : Arg.isRow .i64 z0 x0) (w0 : ∀ n ∈ z0, (Lit.int .i64 n).wf = true) (y0 : z0.length * 8 ≤ 140737488351232) (x1 : Arg) (z1 : List Int) (s1 : Arg.isRow .i64 z1 x1) (w1 : ∀ n ∈ z1, (Lit.int .i64 n).wf = true) (y1 : z1.length * 8 ≤ 140737488351232) (a2 : Int) (w2 : (Lit.int .i64 a2).wf = true) :
    ∃ μ', overdublaw06_LpcNoughts (argVals 0 [x0, x1, .i .i64 a2]) (argMem [x0, x1, .i .i64 a2]) = some (.s (.bool true), μ') := by
  obtain ⟨a, ha, hx⟩ := IsRow.arg (l := [x0, x1, .i .i64 a2]) (j := 0) s0 rfl
  obtain ⟨b, hb, hy⟩ := IsRow.arg (l := [x0, x1, .i .i64 a2]) (j := 1) s1 rfl
  have hw := WF.args [x0, x1, .i .i64 a2]
  show ∃ μ', overdublaw06_LpcNoughts [x0.val 0, x1.val 1, .s (.int .i64 a2)] _ = _
  rw [ha, hb]
  generalize argMem [x0, x1, .i .i64 a2] = μ at *
  have c64 : (((64 : Nat) : Int)) = 64 := rfl
  have c10 : (((10 : Nat) : Int)) = 10 := rfl
  obtain ⟨X, m1, e1, k1, o1⟩ := samples_is hw 64 false hx w0 (by omega)
  rw [c64] at e1
  have e2 := within_is a2 12 (wf64 w2) (by omega) (by omega) m1
  obtain ⟨n, hn, hn1, hn2⟩ : ∃ n : Nat, IntKind.wrap .i64 (1 + a2 % 12) = (n : Int) ∧ 1 ≤ n ∧ n ≤ 12 := ⟨(1 + a2 % 12).toNat, by rw [wr (by omega)]; omega, by omega, by omega⟩
  have kz : Same m1 ((m1.bump 3).set (m1.next + 1) (rowObj (zerosA [.int .i64 0] n) 1 3 (some n))) := Same.bumpSet k1.wf (by omega) _
  have hz : IsRow ((m1.bump 3).set (m1.next + 1) (rowObj (zerosA [.int .i64 0] n) 1 3 (some n))) .i64 (.slice (m1.next + 1) 0 0 n) (List.replicate n 0) := zeros_row (e := 3) (q := some n) (by simp)
  obtain ⟨C0, m2, e3, k2, o2⟩ := coefs_is kz.wf false ((hy.same k1).same kz) w1
  obtain ⟨C, e4, r4⟩ := cutN_is o2.row 10
  rw [c10] at e4
  have tx : ∀ v ∈ (z0.take 64).map (sampleZ false), -8388608 ≤ v ∧ v ≤ 8388607 := samples_tame
  have lx : ((z0.take 64).map (sampleZ false)).length ≤ 64 := by simp; omega
  have lc : (((z1.take 14).map (coefZ false)).take 10).length ≤ 10 := by simp; omega
  generalize ((z0.take 64).map (sampleZ false)) = xs at *
  generalize (((z1.take 14).map (coefZ false)).take 10) = cs at *
  have k20 := bumpS (Keep.refl k2.wf) 20
  have rx := ((o1.row.same kz).same k2).same k20
  have rc := r4.same k20
  have e5 := guess_is rx rc (by omega)
  obtain ⟨D, m3, e6, k3, o3⟩ := copy_is k20.wf rc (by omega)
  have hnx3 := k3.next
  simp only [bump_next] at hnx3
  have hf7 : m3.obj (m2.next + 7) = none := k3.low _ (by simp) (freshB k2.wf 20 7)
  have k4 : Same m2 (m3.set (m2.next + 6) (rowObj [.int .i64 0, .int .i64 0] 1 3 (some 2))) := Keep.setS k2.wf (k20.trans k3) (by omega) (by omega)
  have o3' : OwnRow m2.next (m3.set (m2.next + 6) (rowObj [.int .i64 0, .int .i64 0] 1 3 (some 2))) .i64 3 D cs := by
    refine (o3.old fun id o ho hi => ?_).less (by simp)
    have : ¬ id = m2.next + 6 := fun e => o3.notOld (id := id) (by simp; omega) hi
    rw [set_obj, if_neg this]; exact ho
  have h00 : IsRow (m3.set (m2.next + 6) (rowObj [.int .i64 0, .int .i64 0] 1 3 (some 2))) .i64 (.slice (m2.next + 6) 0 0 2) [0, 0] := IsRow.made (o := rowObj [.int .i64 0, .int .i64 0] 1 3 (some 2)) (by simp) rfl rfl rfl
  have hf7' : (m3.set (m2.next + 6) (rowObj [.int .i64 0, .int .i64 0] 1 3 (some 2))).obj (m2.next + 7) = none := by rw [set_obj, if_neg (by omega)]; exact hf7
  obtain ⟨E', m4, e7, k5, o5⟩ := appS (B := 8) (nid := m2.next + 7) k2.wf k4 o3' h00 (by omega) (by simp; omega) (by omega) (by simp; omega) hf7'
  have rx2 := (o1.row.same kz).same k2
  have e8 := guess_is (rx2.same k5) o5.row (by omega)
  rw [guess_noughts _ _ lc] at e8
  have e9 := guess_is (rx2.same k5) (cs := []) (y := .nilSlice) (.inl ⟨rfl, rfl⟩) (by omega)
  have e10 := guess_is (zs := []) (x := .nilSlice) (.inl ⟨rfl, rfl⟩) (r4.same k5) (by simp)
  have z9 : guessZ xs [] = 0 := by unfold guessZ; simp only [List.length_nil, Nat.min_zero]; rfl
  have z10 : guessZ [] cs = 0 := by unfold guessZ; simp only [List.length_nil, Nat.zero_min, Nat.min_zero]; rfl
  rw [z9] at e9
  rw [z10] at e10
  obtain ⟨l, m5, e11, k6, o6⟩ := lpcRes_is k5.wf (rx2.same k5) ((hz.same k2).same k5) (by omega) (by simp; omega)
  have hlx := ((rx2.same k5).same k6).len
  obtain ⟨μ', ewk⟩ := wakes_is m5 k6.wf
  have hmay : mayC (List.replicate n 0) = true := by
    unfold mayC
    rw [decide_eq_true (by simp; omega), decide_eq_true (by simp; omega), List.all_eq_true.mpr]
    · rfl
    · intro v hv
      rw [(List.mem_replicate.mp hv).2]; rfl
  rw [overdublaw06_LpcNoughts_eq]
  have hif : 0 ≤ (n : Int) ∧ (n : Int) ≤ (n : Int) ∧ (n : Int) ≤ 9223372036854775807 ∧ ((8 : Nat) : Int) * (n : Int) ≤ 140737488355328 := by omega
  have e12 : (guessZ xs cs != guessZ xs cs) = false := by simp
  by_cases c1 : xs.length < n
  · have hE : resE xs (List.replicate n 0) = 1 := by unfold resE; rw [if_neg (by simp; omega)]
    have hZ : resZ xs (List.replicate n 0) = [] := by unfold resZ; rw [if_neg (by omega)]
    rw [hE] at e11
    rw [hZ] at o6
    have hll := o6.row.len
    simp only [e1, e2, hn, Option.bind_some, decide_true, decide_false, cond_true, cond_false, seqJ_n, seqJ_r, seqJ_e, headK_c, asB_bool, asI_int, asS_s, asN_int, extrK_0, extrK_1, extrK_2, Bool.not_true, Bool.not_false, Nat.beq_refl]
    rw [if_pos hif]
    simp (disch := omega) only [lt_t, lt_f, gt_t, gt_f, le_t, le_f, ge_t, ge_f, ne_t, ne_f, eq_t, eq_f, w64, chk_true, Option.bind_some, decide_true, decide_false, cond_true, cond_false, seqJ_n, seqJ_r, seqJ_e, headK_c, asB_bool, asI_int, asS_s, asN_int, extrK_0, extrK_1, extrK_2, Bool.not_true, Bool.not_false, Nat.beq_refl, nat_toNat, e3, e4, e5, e6, e7, e8, e9, e10, e11, e12, hlx, hll, List.length_nil, n0, ewk]
    exact ⟨_, rfl⟩
  · have hE : resE xs (List.replicate n 0) = 0 := by unfold resE; rw [if_pos ⟨hmay, by simp; omega⟩, checkZ_tame tx lx]
    have hZ : resZ xs (List.replicate n 0) = xs.drop n := by
      unfold resZ; rw [if_pos hE, List.length_replicate]; exact left_zero xs n (by omega)
    rw [hE] at e11
    rw [hZ] at o6
    obtain ⟨q, f1, f2⟩ := ((rx2.same k5).same k6).back (n := n) (by omega)
    have e13 := same_is o6.row f2 (by simp; omega)
    rw [decide_eq_true rfl] at e13
    simp only [e1, e2, hn, Option.bind_some, decide_true, decide_false, cond_true, cond_false, seqJ_n, seqJ_r, seqJ_e, headK_c, asB_bool, asI_int, asS_s, asN_int, extrK_0, extrK_1, extrK_2, Bool.not_true, Bool.not_false, Nat.beq_refl]
    rw [if_pos hif]
    simp (disch := omega) only [lt_t, lt_f, gt_t, gt_f, le_t, le_f, ge_t, ge_f, ne_t, ne_f, eq_t, eq_f, w64, chk_true, Option.bind_some, decide_true, decide_false, cond_true, cond_false, seqJ_n, seqJ_r, seqJ_e, headK_c, asB_bool, asI_int, asS_s, asN_int, extrK_0, extrK_1, extrK_2, Bool.not_true, Bool.not_false, Nat.beq_refl, nat_toNat, e3, e4, e5, e6, e7, e8, e9, e10, e11, e12, hlx, f1, e13, ewk]
    exact ⟨_, rfl⟩
end Go.Proofs.Ytbknenfbdhginaa
