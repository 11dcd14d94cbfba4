/- The plain answer of BitsWrites. -/
import Derived.Test.YtkbecppafippeaaQWakes
import Derived.Test.YtkbecppafippeaaQRefNo
import Derived.Test.YtkbecppafippeaaKSpoil
import Derived.Test.YtkbecppafippeaaKBox
import Derived.Test.YtkbecppafippeaaKWithin
namespace Go.Proofs.Ytkbecppafippeaa
open Go Go.Proofs.Ytkbecppafippeaa.E
set_option linter.unusedVariables false
set_option linter.unusedSimpArgs false
/-- How many digits an act asks for. -/
def effZ (n : Int) : Int := if n > 70 ∧ n ≤ 1024 then n % 70 else n
theorem effN (n : Int) (hn : -9223372036854775808 ≤ n ∧ n ≤ 9223372036854775807) (m : AMem) :
    seqJ (bif decide (n > 70) then (some (.normal, [.s (.bool (decide (n ≤ 1024)))], m)) else (some (.normal, [.s (.bool false)], m)))
      (fun vs44 m45 => headK vs44 fun a46 r47 => asB a46 fun b48 => bif b48 then ((overdubkeep_Within [.s (.int .i64 n), .s (.int .i64 70)] m45).bind fun r49 => asI .i64 r49.1 fun n50 => some (.normal, [.s (.int .i64 n50)], r49.2)) else (some (.normal, [.s (.int .i64 n)], m45)))
      (fun vs51 m52 => headK vs51 fun a56 r57 => asB a56 fun b58 => some (.ret, [.s (.bool b58)], m52))
      (fun d55 vs53 m54 => none) = (some (.normal, [.s (.int .i64 (effZ n))], m) : Option Res) := by
  unfold effZ
  by_cases h1 : n > 70
  · by_cases h2 : n ≤ 1024
    · have w := within_is n 70 hn (by omega) (by omega) m
      rw [if_pos ⟨h1, h2⟩]
      simp -implicitDefEqProofs only [gt_t h1, le_t h2, w, Option.bind_some, decide_true, decide_false, cond_true, cond_false, seqJ_n, seqJ_r, seqJ_e, headK_c, asB_bool, asI_int, asS_s, asN_int, extrK_0, extrK_1, extrK_2, Bool.not_true, Bool.not_false, Nat.beq_refl]
    · rw [if_neg fun h => h2 h.2]
      simp -implicitDefEqProofs only [gt_t h1, le_f (show 1024 < n by omega), Option.bind_some, decide_true, decide_false, cond_true, cond_false, seqJ_n, seqJ_r, seqJ_e, headK_c, asB_bool, asI_int, asS_s, asN_int, extrK_0, extrK_1, extrK_2, Bool.not_true, Bool.not_false, Nat.beq_refl]
  · rw [if_neg fun h => h1 h.1]
    simp -implicitDefEqProofs only [gt_f (show n ≤ 70 by omega), Option.bind_some, decide_true, decide_false, cond_true, cond_false, seqJ_n, seqJ_r, seqJ_e, headK_c, asB_bool, asI_int, asS_s, asN_int, extrK_0, extrK_1, extrK_2, Bool.not_true, Bool.not_false, Nat.beq_refl]
theorem writes_loop {μ0 : AMem} (h0 : WF μ0) {t x : SV} {zs : List Int} {len : Nat} (hx : IsRecs μ0 .i64 3 t zs len) (hz : ∀ v ∈ zs, (Lit.int .i64 v).wf = true) :
    ∀ (k i : Nat) (μ : AMem) (F : Nat → Prop) (r : SV) (ds : List Int), i + k = min 30 len → Same μ0 μ → Wr μ0.next μ x F ds → OwnRow μ0.next μ .u8 5 r ds → (∀ j, F j → ¬ isId r j) → (∀ v ∈ ds, v = 0 ∨ v = 1) → ds.length ≤ 100 * i →
      ∃ μ' F' r' ds', overdublaw01_BitsWrites_L1 [.s t, .s x] [.s r, .s (.int .i64 (i : Int))] μ = some (.exit 0, [.s x, .s r'], μ') ∧ Same μ0 μ' ∧ Wr μ0.next μ' x F' ds' ∧ OwnRow μ0.next μ' .u8 5 r' ds' ∧ (∀ j, F' j → ¬ isId r' j) ∧ (∀ v ∈ ds', v = 0 ∨ v = 1) ∧ ds'.length ≤ 3000
  | 0, i, μ, F, r, ds, h, hs, hw, hr, hd, h01, hl => by
    obtain rfl : i = min 30 len := by omega
    refine ⟨μ, F, r, ds, ?_, hs, hw, hr, hd, h01, by omega⟩
    rw [overdublaw01_BitsWrites_L1_eq, overdublaw01_BitsWrites_L1_B_eq, (hx.same hs).lenS]
    by_cases h1 : ((min 30 len : Nat) : Int) < (len : Int)
    · simp -implicitDefEqProofs only [lt_t h1, lt_f (show (30 : Int) ≤ ((min 30 len : Nat) : Int) by omega), Option.bind_some, decide_true, decide_false, cond_true, cond_false, seqJ_n, seqJ_r, seqJ_e, headK_c, asB_bool, asI_int, asS_s, asN_int, extrK_0, extrK_1, extrK_2, Bool.not_true, Bool.not_false, Nat.beq_refl]
    · simp -implicitDefEqProofs only [lt_f (show (len : Int) ≤ ((min 30 len : Nat) : Int) by omega), Option.bind_some, decide_true, decide_false, cond_true, cond_false, seqJ_n, seqJ_r, seqJ_e, headK_c, asB_bool, asI_int, asS_s, asN_int, extrK_0, extrK_1, extrK_2, Bool.not_true, Bool.not_false, Nat.beq_refl]
  | k + 1, i, μ, F, r, ds, h, hs, hw, hr, hd, h01, hl => by
    have hi : i < len := by omega
    have c1 := lt_t (show (i : Int) < (len : Int) by omega)
    have c2 := lt_t (show (i : Int) < 30 by omega)
    have hx1 := hx.same hs
    have hxb := hx1.same (Keep.bump hs.wf 6)
    have r1 := fun {R : Type} (K : AV → Option R) => hx1.ind (i := (i : Int)) (by omega) (by omega) K
    have r3 := fun {R : Type} (K : AV → Option R) => rec3 hxb hi K
    have hs1 : Same μ0 ((μ.bump 6).set (μ.next + 4) (rowObj [.int .i64 (zs.getD (i * 3 + 0) 0), .int .i64 (zs.getD (i * 3 + 1) 0), .int .i64 (zs.getD (i * 3 + 2) 0)] 3 28 (some 1))) := newS hs (by omega) _
    have hk1 : Same μ ((μ.bump 6).set (μ.next + 4) (rowObj [.int .i64 (zs.getD (i * 3 + 0) 0), .int .i64 (zs.getD (i * 3 + 1) 0), .int .i64 (zs.getD (i * 3 + 2) 0)] 3 28 (some 1))) := Same.bumpSet hs.wf (by omega) _
    have b0 := box3_0 (μ.bump 6) (μ.next + 4) 28 (some 1) (.int .i64 (zs.getD (i * 3 + 0) 0)) (.int .i64 (zs.getD (i * 3 + 1) 0)) (.int .i64 (zs.getD (i * 3 + 2) 0))
    have b1 := box3_1 (μ.bump 6) (μ.next + 4) 28 (some 1) (.int .i64 (zs.getD (i * 3 + 0) 0)) (.int .i64 (zs.getD (i * 3 + 1) 0)) (.int .i64 (zs.getD (i * 3 + 2) 0))
    have b2 := box3_2 (μ.bump 6) (μ.next + 4) 28 (some 1) (.int .i64 (zs.getD (i * 3 + 0) 0)) (.int .i64 (zs.getD (i * 3 + 1) 0)) (.int .i64 (zs.getD (i * 3 + 2) 0))
    have hbox : ((μ.bump 6).set (μ.next + 4) (rowObj [.int .i64 (zs.getD (i * 3 + 0) 0), .int .i64 (zs.getD (i * 3 + 1) 0), .int .i64 (zs.getD (i * 3 + 2) 0)] 3 28 (some 1))).obj (μ.next + 4) = some (rowObj [.int .i64 (zs.getD (i * 3 + 0) 0), .int .i64 (zs.getD (i * 3 + 1) 0), .int .i64 (zs.getD (i * 3 + 2) 0)] 3 28 (some 1)) := set_self _ _ _
    have hbx := fun {R : Type} (K : AMem → Option R) => box3 (μ.bump 6) (μ.next + 4) 28 (some 1) (.int .i64 0) (.int .i64 0) (.int .i64 0) (.int .i64 (zs.getD (i * 3 + 0) 0)) (.int .i64 (zs.getD (i * 3 + 1) 0)) (.int .i64 (zs.getD (i * 3 + 2) 0)) K
    generalize ((μ.bump 6).set (μ.next + 4) (rowObj [.int .i64 (zs.getD (i * 3 + 0) 0), .int .i64 (zs.getD (i * 3 + 1) 0), .int .i64 (zs.getD (i * 3 + 2) 0)] 3 28 (some 1))) = M at *
    have hwM := hw.same hk1
    have hrM : OwnRow μ0.next M .u8 5 r ds := ownKeep hr hk1 fun _ h => h.elim
    have w2 := within_is (zs.getD (i * 3 + 0) 0) 3 (wf64 (hx.wf hz hi (f := 0) (by omega))) (by omega) (by omega) M
    have hn := effN (zs.getD (i * 3 + 2) 0) (wf64 (hx.wf hz hi (f := 2) (by omega))) M
    have hnd : effZ (zs.getD (i * 3 + 2) 0) ≤ 70 ∨ effZ (zs.getD (i * 3 + 2) 0) > 1024 := by unfold effZ; split <;> omega
    generalize effZ (zs.getD (i * 3 + 2) 0) = n at *
    have ei : IntKind.wrap .i64 ((i : Int) + 1) = ((i + 1 : Nat) : Int) := by rw [wr (by omega)]; rfl
    have hfin : ∀ (m : AMem) (F' : Nat → Prop) (r' : SV) (ds' : List Int), Same μ0 m → Wr μ0.next m x F' ds' → OwnRow μ0.next m .u8 5 r' ds' → (∀ j, F' j → ¬ isId r' j) → (∀ v ∈ ds', v = 0 ∨ v = 1) → ds'.length ≤ ds.length + 100 →
        ∃ μ' F' r'' ds'', overdublaw01_BitsWrites_L1 [.s t, .s x] [.s r', .s (.int .i64 ((i + 1 : Nat) : Int))] m = some (.exit 0, [.s x, .s r''], μ') ∧ Same μ0 μ' ∧ Wr μ0.next μ' x F' ds'' ∧ OwnRow μ0.next μ' .u8 5 r'' ds'' ∧ (∀ j, F' j → ¬ isId r'' j) ∧ (∀ v ∈ ds'', v = 0 ∨ v = 1) ∧ ds''.length ≤ 3000 :=
      fun m F' r' ds' a1 a2 a3 a4 a5 a6 => writes_loop h0 hx hz k (i + 1) m F' r' ds' (by omega) a1 a2 a3 a4 a5 (by omega)
    by_cases ho : zs.getD (i * 3 + 0) 0 % 3 = 2
    · by_cases hv : n < 0 ∨ n > 1024
      · have e1 := refOnes_no (μ := M) (x := r) hv
        have e2 := (Ones_is hs1.wf hwM (by omega) n).1 hv
        have e3 := Len_is hwM
        obtain ⟨μ', F', r', ds', q1, q2⟩ := hfin M F r ds hs1 hwM hrM hd h01 (by omega)
        refine ⟨μ', F', r', ds', ?_, q2⟩
        rw [overdublaw01_BitsWrites_L1_eq, overdublaw01_BitsWrites_L1_B_eq, hx1.lenS]
        simp -implicitDefEqProofs only [c1, c2, r1, r3, hbx, b0, b1, b2, hn, w2, eq_t ho, e1, e2, BEq.rfl, e3, hrM.row.len, ne_f (rfl : (ds.length : Int) = _), ei, Option.bind_some, decide_true, decide_false, cond_true, cond_false, seqJ_n, seqJ_r, seqJ_e, headK_c, asB_bool, asI_int, asS_s, asN_int, extrK_0, extrK_1, extrK_2, Bool.not_true, Bool.not_false, Nat.beq_refl]
        exact q1
      · obtain ⟨y, m1, e1, k1, o1⟩ := refOnes_is hs1.wf hrM.row (by omega) n (by omega)
        obtain ⟨F2, m2, e2, k2, w3, f2⟩ := (Ones_is k1.wf (hwM.same k1) (by omega) n).2 (by omega)
        have e3 := Len_is w3
        have hyF : ∀ j, F j → ¬ isId y j := fun j hj hy => by
          obtain ⟨_, o, ho'⟩ := hwM.ids hj
          have := hs1.wf.lt ho'
          have := (own_lives o1 hy).1
          omega
        have o2 := ownKeep o1 k2 hyF
        have hd2 : ∀ j, F2 j → ¬ isId y j := fun j hj hy => by
          rcases f2 j hj with h1 | h1
          · exact hyF j h1 hy
          · obtain ⟨_, o, ho'⟩ := own_lives o1 hy
            have := k1.wf.lt ho'
            omega
        obtain ⟨μ', F', r', ds', q1, q2⟩ := hfin m2 F2 y _ (wrS h0 (hs1.trans k1) (hwM.same k1) k2) w3 (o2.less (Nat.le_trans hs.next hk1.next)) hd2 (fun v hv' => by
          simp only [List.mem_append, List.mem_replicate, List.mem_singleton] at hv'
          rcases hv' with (h1 | ⟨_, h1⟩) | h1
          · exact h01 v h1
          · exact .inr h1
          · exact .inl h1) (by simp; omega)
        refine ⟨μ', F', r', ds', ?_, q2⟩
        rw [overdublaw01_BitsWrites_L1_eq, overdublaw01_BitsWrites_L1_B_eq, hx1.lenS]
        simp only [c1, c2, r1, r3, hbx, b0, b1, b2, hn, w2, eq_t ho, e1, e2, BEq.rfl, e3, o2.row.len, ne_f (rfl : ((ds ++ List.replicate n.toNat 1 ++ [0]).length : Int) = _), ei, Option.bind_some, decide_true, decide_false, cond_true, cond_false, seqJ_n, seqJ_r, seqJ_e, headK_c, asB_bool, asI_int, asS_s, asN_int, extrK_0, extrK_1, extrK_2, Bool.not_true, Bool.not_false, Nat.beq_refl]
        exact q1
    · by_cases hv : n < 0 ∨ n > 62
      · have e1 := (refPut_is hs1.wf hrM.row (by omega) (zs.getD (i * 3 + 1) 0) n).1 hv
        have e2 := (Put_is hs1.wf hwM (by omega) (zs.getD (i * 3 + 1) 0) n).1 hv
        have e3 := Len_is hwM
        obtain ⟨μ', F', r', ds', q1, q2⟩ := hfin M F r ds hs1 hwM hrM hd h01 (by omega)
        refine ⟨μ', F', r', ds', ?_, q2⟩
        rw [overdublaw01_BitsWrites_L1_eq, overdublaw01_BitsWrites_L1_B_eq, hx1.lenS]
        simp -implicitDefEqProofs only [c1, c2, r1, r3, hbx, b0, b1, b2, hn, w2, eq_f ho, e1, e2, BEq.rfl, e3, hrM.row.len, ne_f (rfl : (ds.length : Int) = _), ei, Option.bind_some, decide_true, decide_false, cond_true, cond_false, seqJ_n, seqJ_r, seqJ_e, headK_c, asB_bool, asI_int, asS_s, asN_int, extrK_0, extrK_1, extrK_2, Bool.not_true, Bool.not_false, Nat.beq_refl]
        exact q1
      · obtain ⟨y, m1, e1, k1, o1⟩ := (refPut_is hs1.wf hrM.row (by omega) (zs.getD (i * 3 + 1) 0) n).2 (by omega)
        obtain ⟨F2, m2, e2, k2, w3, f2⟩ := (Put_is k1.wf (hwM.same k1) (by omega) (zs.getD (i * 3 + 1) 0) n).2 (by omega)
        have e3 := Len_is w3
        have hyF : ∀ j, F j → ¬ isId y j := fun j hj hy => by
          obtain ⟨_, o, ho'⟩ := hwM.ids hj
          have := hs1.wf.lt ho'
          have := (own_lives o1 hy).1
          omega
        have o2 := ownKeep o1 k2 hyF
        have hd2 : ∀ j, F2 j → ¬ isId y j := fun j hj hy => by
          rcases f2 j hj with h1 | h1
          · exact hyF j h1 hy
          · obtain ⟨_, o, ho'⟩ := own_lives o1 hy
            have := k1.wf.lt ho'
            omega
        have hbm : m1.cell (μ.next + 4) 0 (0 + 1) = some (.int .i64 (zs.getD (i * 3 + 1) 0)) := by
          have := k1.old _ _ hbox fun h => h
          simp [AMem.cell, this, rowObj]
        obtain ⟨μ', F', r', ds', q1, q2⟩ := hfin m2 F2 y _ (wrS h0 (hs1.trans k1) (hwM.same k1) k2) w3 (o2.less (Nat.le_trans hs.next hk1.next)) hd2 (fun v hv' => by
          rcases List.mem_append.mp hv' with h1 | h1
          · exact h01 v h1
          · exact putD_01 _ _ v h1) (by simp [putD_len]; omega)
        refine ⟨μ', F', r', ds', ?_, q2⟩
        rw [overdublaw01_BitsWrites_L1_eq, overdublaw01_BitsWrites_L1_B_eq, hx1.lenS]
        simp -implicitDefEqProofs only [c1, c2, r1, r3, hbx, b0, b1, b2, hbm, hn, w2, eq_f ho, e1, e2, BEq.rfl, e3, o2.row.len, ne_f (rfl : ((ds ++ putD (zs.getD (i * 3 + 1) 0) n.toNat).length : Int) = _), ei, Option.bind_some, decide_true, decide_false, cond_true, cond_false, seqJ_n, seqJ_r, seqJ_e, headK_c, asB_bool, asI_int, asS_s, asN_int, extrK_0, extrK_1, extrK_2, Bool.not_true, Bool.not_false, Nat.beq_refl]
        exact q1
theorem pureBitsWrites (x0 : Arg) (z0 : List Int) (u0 : Nat) (s0 : Arg.isRecs .i64 z0 u0 x0) (q0 : z0.length = u0 * 3) (w0 : ∀ n ∈ z0, (Lit.int .i64 n).wf = true) :
    ∃ μ', overdublaw01_BitsWrites (argVals 0 [x0]) (argMem [x0]) = some (.s (.bool true), μ') := by
  obtain ⟨a, ha, hx⟩ := IsRecs.arg (l := [x0]) (j := 0) s0 q0 rfl
  have hw := WF.args [x0]
  show ∃ μ', overdublaw01_BitsWrites [x0.val 0] _ = _
  rw [ha]
  generalize argMem [x0] = μ at *
  obtain ⟨x, F, m1, e1, k1, w1⟩ := newWriter_is hw
  obtain ⟨m2, F2, r, ds, e2, k2, w2, o2, d2, h01, hl⟩ := writes_loop (x := x) hw hx w0 _ 0 m1 F .nilSlice [] (Nat.zero_add _) k1 w1 (OwnRow.nil _ _ _ _) (fun _ _ h => h.elim) (fun _ h => by cases h) (by simp)
  rw [n0] at e2
  obtain ⟨y, bs, m3, e3, k3, f3, h3⟩ := BytesF_is k2.wf w2 (by omega)
  obtain ⟨z, cs, m4, e4, k4, o4, h4⟩ := refBytes_is k3.wf (o2.row.same k3) (by omega) h01
  obtain rfl := holds_ext h3 h4
  have hbl := h3.1
  have f4 := f3.same k4
  have e5 := sameB_is f4.own.row o4.row (by omega)
  rw [decide_eq_true rfl] at e5
  obtain ⟨m5, e6, k6⟩ := spoil_is k4.wf f4
  have hyn : ∀ j, isId y j → m2.next ≤ j := fun j hj => (own_lives f4.own hj).1
  have w5 : Wr μ.next m5 x F2 ds := ((w2.same k3).same k4).keep k6 fun j hj hF => by
    obtain ⟨_, o, ho⟩ := w2.ids hF
    have := k2.wf.lt ho
    have := hyn j hj
    omega
  have r5 : IsRow m5 .u8 r ds := rowKeep ((o2.row.same k3).same k4) k6 fun j hj hr => by
    obtain ⟨_, o, ho⟩ := own_lives o2 hr
    have := k2.wf.lt ho
    have := hyn j hj
    omega
  obtain ⟨y2, bs2, m6, e7, k7, f7, h7⟩ := BytesF_is k6.wf w5 (by omega)
  obtain ⟨z2, cs2, m7, e8, k8, o8, h8⟩ := refBytes_is k7.wf (r5.same k7) (by omega) h01
  obtain rfl := holds_ext h7 h8
  have hbl2 := h7.1
  have e9 := sameB_is (f7.same k8).own.row o8.row (by omega)
  rw [decide_eq_true rfl] at e9
  obtain ⟨mw, w⟩ := wakes_is m7 k8.wf
  refine ⟨mw, ?_⟩
  rw [overdublaw01_BitsWrites_eq]
  simp -implicitDefEqProofs only [e1, w1.nn, e2, e3, e4, e5, e6, e7, e8, e9, w, Option.bind_some, decide_true, decide_false, cond_true, cond_false, seqJ_n, seqJ_r, seqJ_e, headK_c, asB_bool, asI_int, asS_s, asN_int, extrK_0, extrK_1, extrK_2, Bool.not_true, Bool.not_false, Nat.beq_refl]
end Go.Proofs.Ytkbecppafippeaa
