/- The plain answer of RicePuts. -/
import Derived.Test.YtpdleoehllhbkaaQRefPut
import Derived.Test.YtpdleoehllhbkaaQWakes
import Derived.Test.YtpdleoehllhbkaaKSameB
namespace Go.Proofs.Ytpdleoehllhbkaa
open Go Go.Proofs.Ytpdleoehllhbkaa.E
set_option linter.unusedVariables false
set_option linter.unusedSimpArgs false
theorem putD_01 (v : Int) : ∀ n, ∀ d ∈ putD v n, d = 0 ∨ d = 1
  | 0, d, h => by cases h
  | n + 1, d, h => by
    rcases List.mem_cons.mp h with h | h
    · rw [h]; omega
    · exact putD_01 v n d h
theorem riceD_01 (z k : Int) : ∀ d ∈ riceD z k, d = 0 ∨ d = 1 := by
  intro d h
  unfold riceD at h
  split at h
  · rcases List.mem_append.mp h with h | h
    · rcases List.mem_append.mp h with h | h
      · exact .inr (List.mem_replicate.mp h).2
      · exact .inl (List.mem_singleton.mp h)
    · exact putD_01 _ _ _ h
  · rcases List.mem_append.mp h with h | h
    · exact putD_01 _ _ _ h
    · exact putD_01 _ _ _ h
theorem puts_loop {μ0 : AMem} (h0 : WF μ0) {x y w : SV} {zs ks : List Int} (hx : IsRow μ0 .i64 x zs) (hy : IsRow μ0 .i64 y ks) :
    ∀ (n i : Nat) (μ : AMem) (r : SV) (F : Nat → Prop) (ds : List Int), i + n = min 20 (min zs.length ks.length) → ds.length ≤ 60 * i → (∀ v ∈ ds, v = 0 ∨ v = 1) → Same μ0 μ → IsRow μ .u8 r ds → Wr μ0.next μ w F ds → (∀ j, F j → ¬ isId r j) →
      ∃ r' F' ds' μ', overdublaw02_RicePuts_L1 [.s x, .s y, .s w] [.s r, .s (.int .i64 i)] μ = some (.exit 0, [.s w, .s r'], μ') ∧ Same μ0 μ' ∧ IsRow μ' .u8 r' ds' ∧ Wr μ0.next μ' w F' ds' ∧ ds'.length ≤ 1200 ∧ (∀ v ∈ ds', v = 0 ∨ v = 1)
  | 0, i, μ, r, F, ds, h, hl, h01, hs, hr, hw, hd => by
    rw [overdublaw02_RicePuts_L1_eq, overdublaw02_RicePuts_L1_B_eq, (hx.same hs).len, (hy.same hs).len]
    by_cases h1 : (i : Int) < (zs.length : Int)
    · by_cases h2 : (i : Int) < (ks.length : Int)
      · simp -implicitDefEqProofs (disch := omega) only [lt_t, lt_f, gt_t, gt_f, le_t, le_f, ge_t, ge_f, ne_t, ne_f, eq_t, eq_f, w64, chk_true, Option.bind_some, decide_true, decide_false, cond_true, cond_false, seqJ_n, seqJ_r, seqJ_e, headK_c, asB_bool, asI_int, asS_s, asN_int, extrK_0, extrK_1, extrK_2, Bool.not_true, Bool.not_false, Nat.beq_refl]
        exact ⟨r, F, ds, μ, rfl, hs, hr, hw, by omega, h01⟩
      · simp -implicitDefEqProofs (disch := omega) only [lt_t, lt_f, gt_t, gt_f, le_t, le_f, ge_t, ge_f, ne_t, ne_f, eq_t, eq_f, w64, chk_true, Option.bind_some, decide_true, decide_false, cond_true, cond_false, seqJ_n, seqJ_r, seqJ_e, headK_c, asB_bool, asI_int, asS_s, asN_int, extrK_0, extrK_1, extrK_2, Bool.not_true, Bool.not_false, Nat.beq_refl]
        exact ⟨r, F, ds, μ, rfl, hs, hr, hw, by omega, h01⟩
    · simp -implicitDefEqProofs (disch := omega) only [lt_t, lt_f, gt_t, gt_f, le_t, le_f, ge_t, ge_f, ne_t, ne_f, eq_t, eq_f, w64, chk_true, Option.bind_some, decide_true, decide_false, cond_true, cond_false, seqJ_n, seqJ_r, seqJ_e, headK_c, asB_bool, asI_int, asS_s, asN_int, extrK_0, extrK_1, extrK_2, Bool.not_true, Bool.not_false, Nat.beq_refl]
      exact ⟨r, F, ds, μ, rfl, hs, hr, hw, by omega, h01⟩
  | n + 1, i, μ, r, F, ds, h, hl, h01, hs, hr, hw, hd => by
    have hi1 : i < zs.length := by omega
    have hi2 : i < ks.length := by omega
    have hx1 := hx.same hs
    have hy1 := hy.same hs
    have a1 := fun {R : Type} (K : AV → Option R) => hx1.ind (i := (i : Int)) (by omega) (by omega) K
    have a2 := fun {R : Type} (K : AV → Option R) => hx1.load (i := (i : Int)) (by omega) (by omega) K
    have a3 := fun {R : Type} (K : AV → Option R) => hy1.ind (i := (i : Int)) (by omega) (by omega) K
    have a4 := fun {R : Type} (K : AV → Option R) => hy1.load (i := (i : Int)) (by omega) (by omega) K
    rw [nat_toNat] at a2 a4
    have c1 := lt_t (a := (i : Int)) (b := (zs.length : Int)) (by omega)
    have c2 := lt_t (a := (i : Int)) (b := (ks.length : Int)) (by omega)
    have c3 := lt_t (a := (i : Int)) (b := 20) (by omega)
    have ei : IntKind.wrap .i64 ((i : Int) + 1) = (i : Int) + 1 := wr (by omega)
    have ff : (false == false) = true := rfl
    have tt : (true == true) = true := rfl
    rw [overdublaw02_RicePuts_L1_eq, overdublaw02_RicePuts_L1_B_eq, hx1.len, hy1.len]
    cases hm : mayB (zs.getD i 0) (ks.getD i 0)
    · have f1 := (refRice_is hs.wf hr (by omega) (zs.getD i 0) (ks.getD i 0)).1 hm
      have f2 := (ricePut_is hs.wf hw (by omega) (zs.getD i 0) (ks.getD i 0)).1 hm
      have f3 := Len_is hw
      have hne : (((ds.length : Nat) : Int) != ((ds.length : Nat) : Int)) = false := by simp
      obtain ⟨r2, F2, ds2, m2, t1, t2⟩ := puts_loop h0 hx hy n (i + 1) μ r F ds (by omega) (by omega) h01 hs hr hw hd
      rw [nsu] at t1
      refine ⟨r2, F2, ds2, m2, ?_, t2⟩
      simp -implicitDefEqProofs only [c1, c2, c3, a1, a2, a3, a4, f1, f2, ff, f3, hr.len, hne, ei, Option.bind_some, decide_true, decide_false, cond_true, cond_false, seqJ_n, seqJ_r, seqJ_e, headK_c, asB_bool, asI_int, asS_s, asN_int, extrK_0, extrK_1, extrK_2, Bool.not_true, Bool.not_false, Nat.beq_refl]
      exact t1
    · obtain ⟨r1, m1, f1, k1, o1⟩ := (refRice_is hs.wf hr (by omega) (zs.getD i 0) (ks.getD i 0)).2 hm
      have hw1 := hw.same k1
      obtain ⟨F2, m2, f2, k2, w2, g2⟩ := (ricePut_is k1.wf hw1 (by omega) (zs.getD i 0) (ks.getD i 0)).2 hm
      have hd1 : ∀ j, F j → ¬ isId r1 j := fun j hf hj => by
        obtain ⟨_, o, ho⟩ := hw.ids hf
        have := hs.wf.lt ho
        have := (own_lives o1 hj).1
        omega
      have hr2 := rowKeep o1.row k2 hd1
      have hd2 : ∀ j, F2 j → ¬ isId r1 j := fun j hf hj => by
        rcases g2 j hf with h2 | h2
        · exact hd1 j h2 hj
        · obtain ⟨_, o, ho⟩ := own_lives o1 hj
          have := k1.wf.lt ho
          omega
      have hs1 := hs.trans k1
      have hs2 := wrS h0 hs1 hw1 k2
      have hlr := riceD_len hm
      have hsz := sizeZ_le (zs.getD i 0) (ks.getD i 0)
      have f3 := Len_is w2
      have hne : (((ds ++ riceD (zs.getD i 0) (ks.getD i 0)).length : Int) != ((ds ++ riceD (zs.getD i 0) (ks.getD i 0)).length : Int)) = false := by simp
      obtain ⟨r3, F3, ds3, m3, t1, t2⟩ := puts_loop h0 hx hy n (i + 1) m2 r1 F2 _ (by omega) (by rw [List.length_append]; omega) (fun v hv => by
        rcases List.mem_append.mp hv with h | h
        · exact h01 v h
        · exact riceD_01 _ _ v h) hs2 hr2 w2 hd2
      rw [nsu] at t1
      have b1 := fun {R : Type} (K : AV → Option R) => (hx1.same k1).load (i := (i : Int)) (by omega) (by omega) K
      have b2 := fun {R : Type} (K : AV → Option R) => (hy1.same k1).load (i := (i : Int)) (by omega) (by omega) K
      rw [nat_toNat] at b1 b2
      refine ⟨r3, F3, ds3, m3, ?_, t2⟩
      simp -implicitDefEqProofs only [c1, c2, c3, a1, a2, a3, a4, f1, b1, b2, f2, tt, f3, hr2.len, hne, ei, Option.bind_some, decide_true, decide_false, cond_true, cond_false, seqJ_n, seqJ_r, seqJ_e, headK_c, asB_bool, asI_int, asS_s, asN_int, extrK_0, extrK_1, extrK_2, Bool.not_true, Bool.not_false, Nat.beq_refl]
      exact t1
theorem pureRicePuts (x0 : Arg) (z0 : List Int) (s0 : Arg.isRow .i64 z0 x0) (w0 : ∀ n ∈ z0, (Lit.int .i64 n).wf = true) (y0 : z0.length * 8 ≤ 140737488351232) (x1 : Arg) (z1 : List Int) (s1 : Arg.isRow .i64 z1 x1) (w1 : ∀ n ∈ z1, (Lit.int .i64 n).wf = true) (y1 : z1.length * 8 ≤ 140737488351232) :
    ∃ μ', overdublaw02_RicePuts (argVals 0 [x0, x1]) (argMem [x0, x1]) = some (.s (.bool true), μ') := by
  obtain ⟨a, ha, hx⟩ := IsRow.arg (l := [x0, x1]) (j := 0) s0 rfl
  obtain ⟨b, hb, hy⟩ := IsRow.arg (l := [x0, x1]) (j := 1) s1 rfl
  have hw := WF.args [x0, x1]
  show ∃ μ', overdublaw02_RicePuts [x0.val 0, x1.val 1] _ = _
  rw [ha, hb]
  generalize argMem [x0, x1] = μ at *
  obtain ⟨w, F1, m1, f1, k1, wa1⟩ := newWriter_is hw
  obtain ⟨r, F2, ds, m2, f2, k2, hr, wa2, hl, h01⟩ := puts_loop hw hx hy _ 0 m1 .nilSlice F1 [] (Nat.zero_add _) (by simp) (fun v h => (List.not_mem_nil h).elim) k1 (.inl ⟨rfl, rfl⟩) wa1 (fun j _ h => h)
  rw [n0] at f2
  obtain ⟨y1, bs, m3, f3, k3, o3, h3⟩ := Bytes_is k2.wf wa2 (by omega)
  obtain ⟨y2, cs, m4, f4, k4, o4, h4⟩ := refBytes_is k3.wf (hr.same k3) (by omega) h01
  obtain rfl : cs = bs := holds_ext h4 h3
  have hbl := h3.1
  have f5 := sameB_is (o3.row.same k4) o4.row (by omega)
  rw [decide_eq_true rfl] at f5
  rw [overdublaw02_RicePuts_eq]
  simp -implicitDefEqProofs only [f1, wa1.nn, f2, f3, f4, f5, wakes_is, Option.bind_some, decide_true, decide_false, cond_true, cond_false, seqJ_n, seqJ_r, seqJ_e, headK_c, asB_bool, asI_int, asS_s, asN_int, extrK_0, extrK_1, extrK_2, Bool.not_true, Bool.not_false, Nat.beq_refl]
  exact ⟨_, rfl⟩
end Go.Proofs.Ytpdleoehllhbkaa
