/- The plain answer of RiceBack. -/
import Derived.Test.YtpdleoehllhbkaaQRicePut
import Derived.Test.YtpdleoehllhbkaaQWakes
import Derived.Test.YtpdleoehllhbkaaKWithin
namespace Go.Proofs.Ytpdleoehllhbkaa
open Go Go.Proofs.Ytpdleoehllhbkaa.E
set_option linter.unusedVariables false
set_option linter.unusedSimpArgs false
def rD (zs : List Int) (k : Int) : List Int := zs.flatMap fun z => riceD z k
theorem rD_snoc (zs : List Int) (v k : Int) : rD (zs ++ [v]) k = rD zs k ++ riceD v k := by simp [rD]
theorem ones24 : putD 16777215 24 = List.replicate 24 1 := by decide
theorem getD_rep1 {n j : Nat} (h : j < n) : (List.replicate n (1 : Int)).getD j 0 = 1 := by rw [List.getD_eq_getElem?_getD, List.getElem?_replicate, if_pos h]; rfl
theorem getR_rice {bs D pre post : List Int} {z k : Int} (hd : ∀ j, digB bs j = D.getD j 0) (hD : D = pre ++ (riceD z k ++ post)) (hl : D.length ≤ 8 * bs.length) (hm : mayB z k = true) : getR bs pre.length k = (z, true, pre.length + (riceD z k).length) := by
  obtain ⟨h1, h2, h3, h4⟩ := mayB_spec hm
  have hq := quo_le h1 k.toNat
  have hlen : D.length = pre.length + ((riceD z k).length + post.length) := by rw [hD]; simp
  unfold getR
  rw [if_neg (by omega)]
  by_cases c : z / 2 ^ k.toNat < 24
  · obtain ⟨q, hqq⟩ : ∃ q : Nat, z / 2 ^ k.toNat = (q : Int) := ⟨(z / 2 ^ k.toNat).toNat, by omega⟩
    have hr : riceD z k = List.replicate q 1 ++ [0] ++ putD z k.toNat := by unfold riceD; rw [if_pos c, hqq, nat_toNat]
    have hrl : (riceD z k).length = q + 1 + k.toNat := by rw [hr]; simp [putD_len]; omega
    have d1 : ∀ j, 0 ≤ j → j < q → digB bs (pre.length + j) ≠ 0 := fun j _ hj => by
      rw [hd, hD, hr, getD_app, if_neg (by omega), show pre.length + j - pre.length = j by omega, getD_app, if_pos (by simp [putD_len]; omega), getD_app, if_pos (by simp; omega), getD_app, if_pos (by simpa using hj), getD_rep1 hj]
      decide
    have d2 : digB bs (pre.length + q) = 0 := by
      rw [hd, hD, hr, getD_app, if_neg (by omega), show pre.length + q - pre.length = q by omega, getD_app, if_pos (by simp [putD_len] <;> omega), getD_app, if_pos (by simp), getD_app, if_neg (by simp)]; simp
    have ho := ones_stop (bs := bs) (a := pre.length) (left := 8 * bs.length - pre.length) (n := q) d2 (by omega) 24 0 (by omega) (by omega) d1
    have hn := numB_put (bs := bs) (ds := D) (pre := pre ++ (List.replicate q 1 ++ [0])) (post := post) (v := z) (n := k.toNat) hd (by rw [hD, hr]; simp [List.append_assoc]) k.toNat (Nat.le_refl _)
    have hpl : (pre ++ (List.replicate q (1 : Int) ++ [0])).length = pre.length + q + 1 := by simp; omega
    rw [hpl, Nat.sub_self, Int.pow_zero, Int.ediv_one] at hn
    rw [ho]
    dsimp only
    rw [if_neg (by simp), if_neg (show ¬ (q : Int) = 24 by omega), if_neg (by omega), if_pos (by omega), hn, hrl]
    have he := Int.mul_ediv_add_emod z (2 ^ k.toNat)
    rw [hqq, Int.mul_comm] at he
    rw [he]
    congr 2; omega
  · have hr : riceD z k = List.replicate 24 1 ++ putD z 32 := by unfold riceD; rw [if_neg c, ones24]
    have hrl : (riceD z k).length = 56 := by rw [hr]; simp [putD_len]
    have d1 : ∀ j, 0 ≤ j → j < 0 + 24 → digB bs (pre.length + j) ≠ 0 ∧ j < 8 * bs.length - pre.length := fun j _ hj => by
      refine ⟨?_, by omega⟩
      rw [hd, hD, hr, getD_app, if_neg (by omega), show pre.length + j - pre.length = j by omega, getD_app, if_pos (by simp [putD_len]; omega), getD_app, if_pos (by simp; omega), getD_rep1 (by omega)]
      decide
    have ho := ones_all (bs := bs) (a := pre.length) (left := 8 * bs.length - pre.length) 24 0 d1
    have hn := numB_put (bs := bs) (ds := D) (pre := pre ++ List.replicate 24 1) (post := post) (v := z) (n := 32) hd (by rw [hD, hr]; simp [List.append_assoc]) 32 (Nat.le_refl _)
    have hpl : (pre ++ List.replicate 24 (1 : Int)).length = pre.length + (0 + 24) := by simp
    rw [hpl, Nat.sub_self, Int.pow_zero, Int.ediv_one, Int.emod_eq_of_lt h1 (show z < 2 ^ 32 by exact h2)] at hn
    rw [ho]
    dsimp only
    rw [if_neg (by simp), if_pos (show ((0 + 24 : Nat) : Int) = 24 from rfl), if_neg (by omega), if_neg (by omega), hn, if_neg c, hrl]
theorem write_loop {μ0 : AMem} (h0 : WF μ0) {x w : SV} {zs : List Int} {k : Int} (hk : 0 ≤ k ∧ k ≤ 24) (hx : IsRow μ0 .i64 x zs) (hz : ∀ v ∈ zs, (Lit.int .i64 v).wf = true) :
    ∀ (n i : Nat) (μ : AMem) (y : SV) (F : Nat → Prop), i + n = min 30 zs.length → Same μ0 μ → OwnRow μ0.next μ .i64 3 y ((zs.take i).map fun v => v % 4294967296) → Wr μ0.next μ w F (rD ((zs.take i).map fun v => v % 4294967296) k) → (rD ((zs.take i).map fun v => v % 4294967296) k).length ≤ 60 * i → (∀ j, F j → ¬ isId y j) →
      ∃ y' F' μ', overdublaw02_RiceBack_L1 [.s x, .s (.int .i64 k), .s w] [.s y, .s (.int .i64 (rD ((zs.take i).map fun v => v % 4294967296) k).length), .s (.int .i64 i)] μ = some (.exit 0, [.s (.int .i64 k), .s w, .s y', .s (.int .i64 (rD ((zs.take 30).map fun v => v % 4294967296) k).length)], μ') ∧ Same μ0 μ' ∧
        OwnRow μ0.next μ' .i64 3 y' ((zs.take 30).map fun v => v % 4294967296) ∧ Wr μ0.next μ' w F' (rD ((zs.take 30).map fun v => v % 4294967296) k) ∧ (rD ((zs.take 30).map fun v => v % 4294967296) k).length ≤ 1800 ∧ (∀ j, F' j → ¬ isId y' j)
  | 0, i, μ, y, F, h, hs, hy, hw, hle, hd => by
    rw [overdublaw02_RiceBack_L1_eq, overdublaw02_RiceBack_L1_B_eq, (hx.same hs).len]
    rw [take_min (n := 30) (zs := zs) (i := i) (by omega)] at hy hw hle ⊢
    by_cases h1 : (i : Int) < (zs.length : Int)
    · simp -implicitDefEqProofs (disch := omega) only [lt_t, lt_f, gt_t, gt_f, le_t, le_f, ge_t, ge_f, ne_t, ne_f, eq_t, eq_f, w64, chk_true, Option.bind_some, decide_true, decide_false, cond_true, cond_false, seqJ_n, seqJ_r, seqJ_e, headK_c, asB_bool, asI_int, asS_s, asN_int, extrK_0, extrK_1, extrK_2, Bool.not_true, Bool.not_false, Nat.beq_refl]
      exact ⟨y, F, μ, rfl, hs, hy, hw, by omega, hd⟩
    · simp -implicitDefEqProofs (disch := omega) only [lt_t, lt_f, gt_t, gt_f, le_t, le_f, ge_t, ge_f, ne_t, ne_f, eq_t, eq_f, w64, chk_true, Option.bind_some, decide_true, decide_false, cond_true, cond_false, seqJ_n, seqJ_r, seqJ_e, headK_c, asB_bool, asI_int, asS_s, asN_int, extrK_0, extrK_1, extrK_2, Bool.not_true, Bool.not_false, Nat.beq_refl]
      exact ⟨y, F, μ, rfl, hs, hy, hw, by omega, hd⟩
  | n + 1, i, μ, y, F, h, hs, hy, hw, hle, hd => by
    have hi : i < zs.length := by omega
    have hx1 := hx.same hs
    have hv := wf64 (hz _ (getD_mem hi))
    have hwi := within_is (zs.getD i 0) 4294967296 hv (by omega) (by omega) μ
    have hlen : ((zs.take i).map fun v => v % 4294967296).length = i := by simp; omega
    have hm : mayB (zs.getD i 0 % 4294967296) k = true := by unfold mayB; simp; omega
    obtain ⟨y', m1, p1, p2, p3, p4⟩ := pushK (B := 8) (a := 2) (b := 3) (n := 5) (q := some 1) hs.wf hy (zs.getD i 0 % 4294967296) (by omega) (by omega) hs.next (by omega) (by omega) (by omega)
    rw [← take_map_snoc (fun v => v % 4294967296) hi] at p3
    have hs1 := keepSame h0 hs p2 fun j hj => (own_lives hy hj).1
    have hw1 := hw.keep p2 fun j hj hf => hd j hf hj
    have hd1 : ∀ j, F j → ¬ isId y' j := fun j hf hj => by
      rcases p4 j hj with h2 | h2
      · exact hd j hf h2
      · obtain ⟨_, o, ho⟩ := hw.ids hf
        have := hs.wf.lt ho
        omega
    obtain ⟨F2, m2, q1, q2, q3, q4⟩ := (ricePut_is p2.wf hw1 (by omega) (zs.getD i 0 % 4294967296) k).2 hm
    rw [← rD_snoc, ← take_map_snoc (fun v => v % 4294967296) hi] at q3
    have hs2 := wrS h0 hs1 hw1 q2
    have p3' := ownKeep p3 q2 hd1
    have hd2 : ∀ j, F2 j → ¬ isId y' j := fun j hf hj => by
      rcases q4 j hf with h2 | h2
      · exact hd1 j h2 hj
      · obtain ⟨_, o, ho⟩ := own_lives p3 hj
        have := p2.wf.lt ho
        omega
    have hrl := riceD_len hm
    have hsz := sizeZ_le (zs.getD i 0 % 4294967296) k
    have hlen2 : ((rD ((zs.take (i + 1)).map fun v => v % 4294967296) k).length : Int) = (rD ((zs.take i).map fun v => v % 4294967296) k).length + sizeZ (zs.getD i 0 % 4294967296) k := by
      rw [take_map_snoc (fun v => v % 4294967296) hi, rD_snoc, List.length_append]; omega
    obtain ⟨y3, F3, m3, t1, t2, t3, t4, t5, t6⟩ := write_loop h0 hk hx hz n (i + 1) m2 y' F2 (by omega) hs2 p3' q3 (by omega) hd2
    rw [nsu] at t1
    refine ⟨y3, F3, m3, ?_, t2, t3, t4, t5, t6⟩
    have hwr : IntKind.wrap .i64 (((rD ((zs.take i).map fun v => v % 4294967296) k).length : Int) + sizeZ (zs.getD i 0 % 4294967296) k) = ((rD ((zs.take (i + 1)).map fun v => v % 4294967296) k).length : Int) := by rw [hlen2, wr (by omega)]
    rw [overdublaw02_RiceBack_L1_eq, overdublaw02_RiceBack_L1_B_eq, hx1.len]
    have c1 := lt_t (a := (i : Int)) (b := (zs.length : Int)) (by omega)
    have c2 := lt_t (a := (i : Int)) (b := 30) (by omega)
    have ei : IntKind.wrap .i64 ((i : Int) + 1) = (i : Int) + 1 := wr (by omega)
    have hi1 := fun {R : Type} (K : AV → Option R) => hx1.ind (i := (i : Int)) (by omega) (by omega) K
    have hl1 := fun {R : Type} (K : AV → Option R) => hx1.load (i := (i : Int)) (by omega) (by omega) K
    rw [nat_toNat] at hl1
    simp -implicitDefEqProofs only [c1, c2, hi1, hl1, hwi, p1, q1, size_is, hwr, ei, Option.bind_some, decide_true, decide_false, cond_true, cond_false, seqJ_n, seqJ_r, seqJ_e, headK_c, asB_bool, asI_int, asS_s, asN_int, extrK_0, extrK_1, extrK_2, Bool.not_true, Bool.not_false, Nat.beq_refl]
    exact t1
theorem read_loop {N : Nat} {zs bs : List Int} {k : Int} {y : SV} {id : Nat} {b : SV} {s7 : Int} (hk : 0 ≤ k ∧ k ≤ 24) (hz : ∀ v ∈ zs, mayB v k = true) (hl : zs.length ≤ 30) (hh : holds bs (rD zs k)) (hlb : bs.length ≤ 1000) (hyb : ∀ j, j = id → ¬ isId y j) :
    ∀ (n i : Nat) (μ : AMem), i + n = zs.length → WF μ → IsRow μ .i64 y zs → St N μ id b ((rD (zs.take i) k).length : Int) bs →
      ∃ μ', overdublaw02_RiceBack_L2 [.s (.int .i64 k), .s y, .s (.int .i64 s7), .s (.ptr id 0 0), .s (.int .i64 zs.length)] [.s (.int .i64 i)] μ = some (.exit 2, [.s y, .s (.int .i64 s7)], μ') ∧ WF μ' ∧ IsRow μ' .i64 y zs
  | 0, i, μ, h, hw, hy, hst => by
    rw [overdublaw02_RiceBack_L2_eq, overdublaw02_RiceBack_L2_B_eq]
    simp -implicitDefEqProofs (disch := omega) only [lt_t, lt_f, gt_t, gt_f, le_t, le_f, ge_t, ge_f, ne_t, ne_f, eq_t, eq_f, w64, chk_true, Option.bind_some, decide_true, decide_false, cond_true, cond_false, seqJ_n, seqJ_r, seqJ_e, headK_c, asB_bool, asI_int, asS_s, asN_int, extrK_0, extrK_1, extrK_2, Bool.not_true, Bool.not_false, Nat.beq_refl]
    exact ⟨μ, rfl, hw, hy⟩
  | n + 1, i, μ, h, hw, hy, hst => by
    have hi : i < zs.length := by omega
    have hm := hz _ (getD_mem hi)
    have hsplit : rD zs k = rD (zs.take i) k ++ (riceD (zs.getD i 0) k ++ rD (zs.drop (i + 1)) k) := by
      have e : zs = zs.take i ++ zs.getD i 0 :: zs.drop (i + 1) := by rw [← drop_cons hi, List.take_append_drop]
      conv => lhs; rw [e]
      simp [rD]
    have hDl : (rD zs k).length ≤ 8 * bs.length := by have := hh.1; omega
    have ha : (rD (zs.take i) k).length ≤ 8 * bs.length := by rw [hsplit, List.length_append] at hDl; omega
    have hg := getR_rice hh.2.2 hsplit hDl hm
    obtain ⟨m1, e1, k1, st1⟩ := riceGet_is hw hst ha (by omega) hh.2.1 k
    rw [hg] at e1 st1
    dsimp only at e1 st1
    have hlen2 : (rD (zs.take i) k).length + (riceD (zs.getD i 0) k).length = (rD (zs.take (i + 1)) k).length := by rw [take_snoc hi, rD_snoc, List.length_append]
    rw [hlen2] at st1
    have hy1 := rowKeep hy k1 hyb
    obtain ⟨m2, t1, t2, t3⟩ := read_loop (s7 := s7) hk hz hl hh hlb hyb n (i + 1) m1 (by omega) k1.wf hy1 st1
    rw [nsu] at t1
    refine ⟨m2, ?_, t2, t3⟩
    have hne : (zs.getD i 0 != zs.getD i 0) = false := by simp
    have c1 := lt_t (a := (i : Int)) (b := (zs.length : Int)) (by omega)
    have ei : IntKind.wrap .i64 ((i : Int) + 1) = (i : Int) + 1 := wr (by omega)
    have hi1 := fun {R : Type} (K : AV → Option R) => hy1.ind (i := (i : Int)) (by omega) (by omega) K
    have hl1 := fun {R : Type} (K : AV → Option R) => hy1.load (i := (i : Int)) (by omega) (by omega) K
    rw [nat_toNat] at hl1
    rw [overdublaw02_RiceBack_L2_eq, overdublaw02_RiceBack_L2_B_eq]
    simp -implicitDefEqProofs only [c1, e1, hi1, hl1, hne, ei, Option.bind_some, decide_true, decide_false, cond_true, cond_false, seqJ_n, seqJ_r, seqJ_e, headK_c, asB_bool, asI_int, asS_s, asN_int, extrK_0, extrK_1, extrK_2, Bool.not_true, Bool.not_false, Nat.beq_refl]
    exact t1
theorem backSum_loop {μ : AMem} {x : SV} {l : List Int} {k s i : Int} (hx : IsRow μ .i64 x l) (hb : l.length ≤ 1000000) :
    ∀ n j : Nat, j + n = l.length → overdublaw02_RiceBack_L3 [.s x, .s (.int .i64 k), .s (.int .i64 i), .s (.int .i64 s), .s (.int .i64 l.length)] [.s (.int .i64 (sumS l i j)), .s (.int .i64 j)] μ = some (.exit 4, [.s (.int .i64 k), .s (.int .i64 i), .s (.int .i64 s), .s (.int .i64 (sumS l i l.length))], μ)
  | 0, j, h => by
    obtain rfl : j = l.length := by omega
    rw [overdublaw02_RiceBack_L3_eq, overdublaw02_RiceBack_L3_B_eq]
    simp -implicitDefEqProofs (disch := omega) only [lt_t, lt_f, gt_t, gt_f, le_t, le_f, ge_t, ge_f, ne_t, ne_f, eq_t, eq_f, w64, chk_true, Option.bind_some, decide_true, decide_false, cond_true, cond_false, seqJ_n, seqJ_r, seqJ_e, headK_c, asB_bool, asI_int, asS_s, asN_int, extrK_0, extrK_1, extrK_2, Bool.not_true, Bool.not_false, Nat.beq_refl]
  | n + 1, j, h => by
    have ih := backSum_loop (k := k) (s := s) (i := i) hx hb n (j + 1) (by omega)
    rw [nsu] at ih
    have h1 := sumS_le l i j
    have h2 := sizeZ_le (l.getD j 0) i
    rw [overdublaw02_RiceBack_L3_eq, overdublaw02_RiceBack_L3_B_eq]
    simp -implicitDefEqProofs (disch := omega) only [lt_t, lt_f, gt_t, gt_f, le_t, le_f, ge_t, ge_f, ne_t, ne_f, eq_t, eq_f, w64, chk_true, Option.bind_some, decide_true, decide_false, cond_true, cond_false, seqJ_n, seqJ_r, seqJ_e, headK_c, asB_bool, asI_int, asS_s, asN_int, extrK_0, extrK_1, extrK_2, Bool.not_true, Bool.not_false, Nat.beq_refl, hx.ind, hx.load, nat_toNat, size_is]
    exact ih
theorem sumS_rD {zs : List Int} {k : Int} (hz : ∀ v ∈ zs, mayB v k = true) : ∀ i : Nat, i ≤ zs.length → sumS zs k i = (rD (zs.take i) k).length
  | 0, _ => by simp [sumS, rD]
  | i + 1, h => by
    have hi : i < zs.length := by omega
    rw [sumS, sumS_rD hz i (by omega), take_snoc hi, rD_snoc, List.length_append, ← riceD_len (hz _ (getD_mem hi))]; rfl
theorem pureRiceBack (x0 : Arg) (z0 : List Int) (s0 : Arg.isRow .i64 z0 x0) (w0 : ∀ n ∈ z0, (Lit.int .i64 n).wf = true) (y0 : z0.length * 8 ≤ 140737488351232) (a1 : Int) (w1 : (Lit.int .i64 a1).wf = true) :
    ∃ μ', overdublaw02_RiceBack (argVals 0 [x0, .i .i64 a1]) (argMem [x0, .i .i64 a1]) = some (.s (.bool true), μ') := by
  obtain ⟨a, ha, hx⟩ := IsRow.arg (l := [x0, .i .i64 a1]) (j := 0) s0 rfl
  have hw := WF.args [x0, .i .i64 a1]
  show ∃ μ', overdublaw02_RiceBack [x0.val 0, .s (.int .i64 a1)] _ = _
  rw [ha]
  generalize argMem [x0, .i .i64 a1] = μ at *
  have e1 := within_is a1 25 (wf64 w1) (by omega) (by omega) μ
  obtain ⟨k, hk, hk1⟩ : ∃ k, a1 % 25 = k ∧ (0 ≤ k ∧ k ≤ 24) := ⟨_, rfl, by omega⟩
  obtain ⟨w, F1, m1, f1, k1, wa1⟩ := newWriter_is hw
  obtain ⟨Z, F2, m2, f2, k2, o2, wa2, hlD, hd2⟩ := write_loop hw hk1 hx w0 _ 0 m1 .nilSlice F1 (Nat.zero_add _) k1 (OwnRow.nil _ _ _ _) wa1 (by simp [rD]) (fun j _ h => h)
  have hr0 : ((rD ((z0.take 0).map fun v => v % 4294967296) k).length : Int) = 0 := by simp [rD]
  rw [n0, hr0] at f2
  have lz : ((z0.take 30).map fun v => v % 4294967296).length ≤ 30 := by simp; omega
  have hm : ∀ v ∈ (z0.take 30).map (fun v : Int => v % 4294967296), mayB v k = true := by
    intro v hv
    obtain ⟨u, _, rfl⟩ := List.mem_map.mp hv
    show mayB (u % 4294967296) k = true
    unfold mayB; simp; omega
  have hm0 : ((z0.take 30).map (fun v : Int => v % 4294967296)).all (fun z => mayB z 0) = true := by
    rw [List.all_eq_true]
    intro v hv
    obtain ⟨u, _, rfl⟩ := List.mem_map.mp hv
    show mayB (u % 4294967296) 0 = true
    unfold mayB; simp; omega
  generalize ((z0.take 30).map (fun v : Int => v % 4294967296)) = zs at *
  have e2 := Len_is wa2
  obtain ⟨y, bs, m3, f3, k3, o3, hh⟩ := Bytes_is k2.wf wa2 (by omega)
  have hbl := hh.1
  obtain ⟨r, rb, m4, f4, k4, s4⟩ := newReader_is k3.wf o3.row (by omega)
  have hZ4 := (o2.row.same k3).same k4
  have hst : St m3.next m4 r rb ((rD (zs.take 0) k).length : Int) bs := by
    have : ((rD (zs.take 0) k).length : Int) = ((0 : Nat) : Int) := by simp [rD]
    rw [this]; exact s4
  obtain ⟨m5, f5, wf5, hZ5⟩ := read_loop (s7 := ((rD zs k).length : Int)) hk1 hm lz hh (by omega) (fun j hj hi => by
    subst hj
    obtain ⟨_, o, ho⟩ := own_lives o2 hi
    have := k2.wf.lt ho
    have := (s4.ids (.inl rfl)).1
    have := k3.next
    omega) zs.length 0 m4 (by omega) k4.wf hZ4 hst
  rw [n0] at f5
  have e3 := best_is hZ5 (by omega)
  obtain ⟨b1, b2, b3, b4⟩ := bestZ_spec hm0
  have e4 := backSum_loop (k := ((rD zs k).length : Int)) (s := (bestZ zs).2) (i := (bestZ zs).1) hZ5 (by omega) _ 0 (Nat.zero_add _)
  rw [n0, show sumS zs (bestZ zs).1 0 = 0 from rfl] at e4
  have hle : (bestZ zs).2 ≤ (rD zs k).length := by
    have h1 := (b4 k.toNat (by omega)).1
    rw [show ((k.toNat : Nat) : Int) = k by omega, sumS_rD hm zs.length (Nat.le_refl _), List.take_length] at h1
    exact h1
  have nnp : ∀ i, isNil (.s (.ptr i 0 0)) = some false := fun i => rfl
  have hne : (((rD zs k).length : Int) != ((rD zs k).length : Int)) = false := by simp
  have q1 := eq_t (a := (bestZ zs).2) (b := sumS zs (bestZ zs).1 zs.length) b3
  have q2 := le_t (a := (bestZ zs).2) (b := ((rD zs k).length : Int)) hle
  have q3 := ge_t (a := (bestZ zs).1) (b := 0) b1
  have q4 := le_t (a := (bestZ zs).1) (b := 24) (by omega)
  rw [overdublaw02_RiceBack_eq]
  simp -implicitDefEqProofs only [e1, hk, f1, wa1.nn, f2, e2, hne, f3, f4, nnp, hZ4.len, f5, e3, hZ5.len, e4, q1, q2, q3, q4, wakes_is, Option.bind_some, decide_true, decide_false, cond_true, cond_false, seqJ_n, seqJ_r, seqJ_e, headK_c, asB_bool, asI_int, asS_s, asN_int, extrK_0, extrK_1, extrK_2, Bool.not_true, Bool.not_false, Nat.beq_refl]
  exact ⟨_, rfl⟩
end Go.Proofs.Ytpdleoehllhbkaa
