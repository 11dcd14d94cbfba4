/- The plain answer of FixedSums. -/
import Derived.Test.YtchapaejdgnihaaQFix
import Derived.Test.YtchapaejdgnihaaKPush
import Derived.Test.YtchapaejdgnihaaQWakes
import Derived.Test.YtchapaejdgnihaaQGuesses
import Derived.Test.YtchapaejdgnihaaQBack
import Derived.Test.YtchapaejdgnihaaKWithin
namespace Go.Proofs.Ytchapaejdgnihaa
open Go Go.Proofs.Ytchapaejdgnihaa.E
set_option linter.unusedVariables false
set_option linter.unusedSimpArgs false
def U (v : Int) : Int := v % 1048576 - 524288
theorem sums_loop {μ0 : AMem} (h0 : WF μ0) {x y : SV} {xs ys : List Int} {p : Int} {n : Nat} (hx : IsRow μ0 .i64 x xs) (hy : IsRow μ0 .i64 y ys) (hn1 : n ≤ xs.length) (hn2 : n ≤ ys.length) (hn : n ≤ 64)
    (wx : ∀ v ∈ xs, (Lit.int .i64 v).wf = true) (wy : ∀ v ∈ ys, (Lit.int .i64 v).wf = true) :
    ∀ (k i : Nat) (μ : AMem) (a b c : SV) (as' bs cs : List Int), i + k = n → as'.length = i → bs.length = i → cs.length = i → Same μ0 μ → OwnRow μ0.next μ .i64 3 a as' → OwnRow μ0.next μ .i64 3 b bs → OwnRow μ0.next μ .i64 3 c cs → Apart a b → Apart a c → Apart b c →
      ∃ a' b' c' μ', overdublaw05_FixedSums_L1 [.s x, .s y, .s (.int .i64 p), .s (.int .i64 n)] [.s a, .s b, .s c, .s (.int .i64 i)] μ = some (.exit 0, [.s (.int .i64 p), .s (.int .i64 n), .s a', .s b', .s c'], μ') ∧ Same μ0 μ' ∧
        OwnRow μ0.next μ' .i64 3 a' (as' ++ (List.range' i k).map fun j => U (xs.getD j 0)) ∧ OwnRow μ0.next μ' .i64 3 b' (bs ++ (List.range' i k).map fun j => U (ys.getD j 0)) ∧
        OwnRow μ0.next μ' .i64 3 c' (cs ++ (List.range' i k).map fun j => U (xs.getD j 0) + U (ys.getD j 0))
  | 0, i, μ, a, b, c, as', bs, cs, h, la, lb, lc, hs, ha, hb, hc, ab, ac, bc => by
    rw [overdublaw05_FixedSums_L1_eq, overdublaw05_FixedSums_L1_B_eq]
    have e0 : ∀ f : Nat → Int, (List.range' i 0).map f = [] := fun f => rfl
    rw [e0, e0, e0, List.append_nil, List.append_nil, List.append_nil]
    simp -implicitDefEqProofs (disch := omega) only [lt_t, lt_f, gt_t, gt_f, le_t, le_f, ge_t, ge_f, ne_t, ne_f, eq_t, eq_f, w64, chk_true, Option.bind_some, decide_true, decide_false, cond_true, cond_false, seqJ_n, seqJ_r, seqJ_e, headK_c, asB_bool, asI_int, asS_s, asN_int, extrK_0, extrK_1, extrK_2, Bool.not_true, Bool.not_false, Nat.beq_refl]
    exact ⟨a, b, c, μ, rfl, hs, ha, hb, hc⟩
  | k + 1, i, μ, a, b, c, as', bs, cs, h, la, lb, lc, hs, ha, hb, hc, ab, ac, bc => by
    have hi1 : i < xs.length := by omega
    have hi2 : i < ys.length := by omega
    have hx1 := hx.same hs
    have hy1 := hy.same hs
    have w1 := within_is (xs.getD i 0) 1048576 (wf64 (wx _ (getD_mem hi1))) (by omega) (by omega) μ
    have w2 := within_is (ys.getD i 0) 1048576 (wf64 (wy _ (getD_mem hi2))) (by omega) (by omega) μ
    have hnx := hs.next
    have k17 := bumpS hs 17
    have fr := fun a => freshB hs.wf 17 a
    have up : ∀ {z : SV} {zs : List Int}, OwnRow μ0.next μ .i64 3 z zs → OwnRow μ0.next (μ.bump 17) .i64 3 z zs := fun h => h.old fun id o ho _ => ho
    obtain ⟨a', m1, p1, p2, p3, p4, p5, p6, p7⟩ := pushX (B := 8) (ra := μ.next + 2) (rb := μ.next + 3) (q := some 1) h0 k17 (up ha) (U (xs.getD i 0)) (by omega) (by omega) (by omega) (by omega) (by simp) (by simp) (by omega) (fr 2) (fr 3)
    simp only [bump_next] at p4
    obtain ⟨hb', ab'⟩ := other (up hb) ab (fr 3) p5 p7
    obtain ⟨hc', ac'⟩ := other (up hc) ac (fr 3) p5 p7
    obtain ⟨b', m2, q1, q2, q3, q4, q5, q6, q7⟩ := pushX (B := 8) (ra := μ.next + 6) (rb := μ.next + 7) (q := some 1) h0 p2 hb' (U (ys.getD i 0)) (by omega) (by omega) (by omega) (by omega) (by omega) (by omega) (by omega) (p6 _ (by omega) (by omega) (fr 6)) (p6 _ (by omega) (by omega) (fr 7))
    obtain ⟨ha2, ba2⟩ := other p3 ab'.symm (p6 _ (by omega) (by omega) (fr 7)) q5 q7
    obtain ⟨hc2, bc2⟩ := other hc' bc (p6 _ (by omega) (by omega) (fr 7)) q5 q7
    have fr2 : ∀ j, j ≠ 2 → j ≠ 3 → j ≠ 6 → j ≠ 7 → m2.obj (μ.next + j) = none := fun j h1 h2 h3 h4 => q6 _ (by omega) (by omega) (p6 _ (by omega) (by omega) (fr j))
    obtain ⟨c', m3, r1, r2, r3, r4, r5, r6, r7⟩ := pushX (B := 8) (ra := μ.next + 12) (rb := μ.next + 13) (q := some 1) h0 q2 hc2 (U (xs.getD i 0) + U (ys.getD i 0)) (by omega) (by omega) (by omega) (by omega) (by omega) (by omega) (by omega) (fr2 12 (by omega) (by omega) (by omega) (by omega)) (fr2 13 (by omega) (by omega) (by omega) (by omega))
    obtain ⟨ha3, ca3⟩ := other ha2 ac'.symm (fr2 13 (by omega) (by omega) (by omega) (by omega)) r5 r7
    obtain ⟨hb3, cb3⟩ := other q3 bc2.symm (fr2 13 (by omega) (by omega) (by omega) (by omega)) r5 r7
    obtain ⟨a4, b4, c4, m4, t1, t2, t3, t4, t5⟩ := sums_loop (p := p) h0 hx hy hn1 hn2 hn wx wy k (i + 1) m3 a' b' c' _ _ _ (by omega) (by simp; omega) (by simp; omega) (by simp; omega) r2 ha3 hb3 r3 ba2.symm ca3.symm cb3.symm
    rw [nsu] at t1
    rw [List.append_assoc] at t3 t4 t5
    refine ⟨a4, b4, c4, m4, ?_, t2, t3, t4, t5⟩
    rw [overdublaw05_FixedSums_L1_eq, overdublaw05_FixedSums_L1_B_eq]
    have u1 : U (xs.getD i 0) = xs.getD i 0 % 1048576 - 524288 := rfl
    have u2 : U (ys.getD i 0) = ys.getD i 0 % 1048576 - 524288 := rfl
    rw [u1] at p1
    rw [u2] at q1
    rw [u1, u2] at r1
    simp -implicitDefEqProofs (disch := omega) only [lt_t, lt_f, gt_t, gt_f, le_t, le_f, ge_t, ge_f, ne_t, ne_f, eq_t, eq_f, w64, chk_true, Option.bind_some, decide_true, decide_false, cond_true, cond_false, seqJ_n, seqJ_r, seqJ_e, headK_c, asB_bool, asI_int, asS_s, asN_int, extrK_0, extrK_1, extrK_2, Bool.not_true, Bool.not_false, Nat.beq_refl, hx1.ind, hx1.load, hy1.ind, hy1.load, nat_toNat, w1, w2, p1, q1, r1]
    exact t1
theorem sumsCheck_loop {μ : AMem} {x y z : SV} {ls ms ss : List Int} (hx : IsRow μ .i64 x ls) (hy : IsRow μ .i64 y ms) (hz : IsRow μ .i64 z ss) (hl : ls.length = ss.length) (hm : ms.length = ss.length) (hb : ss.length ≤ 1000)
    (hls : ∀ i, -9000000000 ≤ ls.getD i 0 ∧ ls.getD i 0 ≤ 9000000000) (hms : ∀ i, -9000000000 ≤ ms.getD i 0 ∧ ms.getD i 0 ≤ 9000000000) (hd : ∀ i, i < ss.length → ss.getD i 0 = ls.getD i 0 + ms.getD i 0) :
    ∀ k i : Nat, i + k = ss.length → overdublaw05_FixedSums_L2 [.s x, .s y, .s z, .s (.int .i64 ss.length)] [.s (.int .i64 i)] μ = some (.exit 2, [], μ)
  | 0, i, h => by
    rw [overdublaw05_FixedSums_L2_eq, overdublaw05_FixedSums_L2_B_eq]
    simp -implicitDefEqProofs (disch := omega) only [lt_t, lt_f, gt_t, gt_f, le_t, le_f, ge_t, ge_f, ne_t, ne_f, eq_t, eq_f, w64, chk_true, Option.bind_some, decide_true, decide_false, cond_true, cond_false, seqJ_n, seqJ_r, seqJ_e, headK_c, asB_bool, asI_int, asS_s, asN_int, extrK_0, extrK_1, extrK_2, Bool.not_true, Bool.not_false, Nat.beq_refl]
  | k + 1, i, h => by
    have ih := sumsCheck_loop hx hy hz hl hm hb hls hms hd k (i + 1) (by omega)
    rw [nsu] at ih
    have h1 := hls i
    have h2 := hms i
    have h3 := hd i (by omega)
    rw [overdublaw05_FixedSums_L2_eq, overdublaw05_FixedSums_L2_B_eq]
    simp -implicitDefEqProofs (disch := omega) only [lt_t, lt_f, gt_t, gt_f, le_t, le_f, ge_t, ge_f, ne_t, ne_f, eq_t, eq_f, w64, chk_true, Option.bind_some, decide_true, decide_false, cond_true, cond_false, seqJ_n, seqJ_r, seqJ_e, headK_c, asB_bool, asI_int, asS_s, asN_int, extrK_0, extrK_1, extrK_2, Bool.not_true, Bool.not_false, Nat.beq_refl, hx.ind, hx.load, hy.ind, hy.load, hz.ind, hz.load, nat_toNat]
    exact ih
theorem getD_range (f : Nat → Int) {n i : Nat} (h : i < n) : ((List.range' 0 n).map f).getD i 0 = f i := by
  rw [List.getD_eq_getElem?_getD, List.getElem?_map, List.getElem?_range' h]
  simp
theorem leftZ_le {xs : List Int} (tx : tame xs) (p : Int) (n i : Nat) : -9000000000 ≤ (leftZ (fguess p) n xs).getD i 0 ∧ (leftZ (fguess p) n xs).getD i 0 ≤ 9000000000 := by
  have hll := leftZ_len (fguess p) n xs
  rcases Nat.lt_or_ge (n + i) xs.length with h | h
  · rw [leftZ_getD _ _ _ h]
    have := getD_tame tx (n + i)
    have := fguess_le (p := p) (tame_take tx (n + i))
    omega
  · rw [List.getD_eq_getElem?_getD, List.getElem?_eq_none (by omega)]; exact ⟨by decide, by decide⟩
theorem fguess_sum {A B C : List Int} {n : Nat} (la : A.length = n) (lb : B.length = n) (lc : C.length = n) (hc : ∀ i, i < n → C.getD i 0 = A.getD i 0 + B.getD i 0) {p : Int} (hp : 0 ≤ p ∧ p ≤ 4) {j : Nat} (h1 : p ≤ j) (h2 : j ≤ n) :
    fguess p (C.take j) = fguess p (A.take j) + fguess p (B.take j) := by
  have : p = 0 ∨ p = 1 ∨ p = 2 ∨ p = 3 ∨ p = 4 := by omega
  rcases this with rfl | rfl | rfl | rfl | rfl
  · rw [fg0, fg0, fg0]; rfl
  · rw [fg1 (by omega) (by omega), fg1 (by omega) (by omega), fg1 (by omega) (by omega), hc _ (by omega)]
  · rw [fg2 (by omega) (by omega), fg2 (by omega) (by omega), fg2 (by omega) (by omega), hc _ (by omega), hc _ (by omega)]; omega
  · rw [fg3 (by omega) (by omega), fg3 (by omega) (by omega), fg3 (by omega) (by omega), hc _ (by omega), hc _ (by omega), hc _ (by omega)]; omega
  · rw [fg4 (by omega) (by omega), fg4 (by omega) (by omega), fg4 (by omega) (by omega), hc _ (by omega), hc _ (by omega), hc _ (by omega), hc _ (by omega)]; omega
theorem sums_rest {m1 : AMem} (hw1 : WF m1) {A B C : SV} {as' bs cs : List Int} {n : Nat} {p : Int} (oa : IsRow m1 .i64 A as') (ob : IsRow m1 .i64 B bs) (oc : IsRow m1 .i64 C cs) (la : as'.length = n) (lb : bs.length = n) (lc : cs.length = n) (hn64 : n ≤ 64) (hp : 0 ≤ p ∧ p ≤ 4) (c1 : p ≤ n)
    (ta : tame as') (tb : tame bs) (tc : tame cs) (hc : ∀ i, i < n → cs.getD i 0 = as'.getD i 0 + bs.getD i 0) :
    ∃ l m s m2 m3 m4, ∃ q : Nat, fixed_Residual [.s A, .s (.int .i64 p)] m1 = some (.tuple [.s l, .s (.int .i64 0)], m2) ∧ fixed_Residual [.s B, .s (.int .i64 p)] m2 = some (.tuple [.s m, .s (.int .i64 0)], m3) ∧ fixed_Residual [.s C, .s (.int .i64 p)] m3 = some (.tuple [.s s, .s (.int .i64 0)], m4) ∧
      lenS (.s l) = some q ∧ lenS (.s m) = some q ∧ lenS (.s s) = some q ∧ overdublaw05_FixedSums_L2 [.s l, .s m, .s s, .s (.int .i64 q)] [.s (.int .i64 0)] m4 = some (.exit 2, [], m4) ∧ WF m4 := by
  have E : ∀ {xs : List Int}, tame xs → xs.length = n → fresE xs p = 0 ∧ fresZ xs p = leftZ (fguess p) p.toNat xs := by
    intro xs tx lx
    have hE : fresE xs p = 0 := by unfold fresE; rw [if_pos (by omega), checkZ_tame tx (by omega)]
    exact ⟨hE, by unfold fresZ; rw [if_pos hE]⟩
  obtain ⟨l, m2, f1, k2, o2⟩ := fixRes_is hw1 p oa (by omega)
  obtain ⟨m, m3, f2, k3, o3⟩ := fixRes_is k2.wf p (ob.same k2) (by omega)
  obtain ⟨s, m4, f3, k4, o4⟩ := fixRes_is k3.wf p (oc.same (k2.trans k3)) (by omega)
  rw [(E ta la).1] at f1
  rw [(E tb lb).1] at f2
  rw [(E tc lc).1] at f3
  rw [(E ta la).2] at o2
  rw [(E tb lb).2] at o3
  rw [(E tc lc).2] at o4
  have l2 := leftZ_len (fguess p) p.toNat as'
  have l3 := leftZ_len (fguess p) p.toNat bs
  have l4 := leftZ_len (fguess p) p.toNat cs
  have hd : ∀ i, i < (leftZ (fguess p) p.toNat cs).length → (leftZ (fguess p) p.toNat cs).getD i 0 = (leftZ (fguess p) p.toNat as').getD i 0 + (leftZ (fguess p) p.toNat bs).getD i 0 := by
    intro i hi
    rw [leftZ_getD _ _ _ (by omega), leftZ_getD _ _ _ (by omega), leftZ_getD _ _ _ (by omega), hc _ (by omega), fguess_sum la lb lc hc hp (by omega) (by omega)]
    omega
  have e4 := sumsCheck_loop (o2.row.same (k3.trans k4)) (o3.row.same k4) o4.row (by omega) (by omega) (by omega) (leftZ_le ta p _) (leftZ_le tb p _) hd _ 0 (Nat.zero_add _)
  rw [n0] at e4
  have hl2 := (o2.row.same (k3.trans k4)).len
  have hl3 := (o3.row.same k4).len
  have hl4 := o4.row.len
  rw [show (leftZ (fguess p) p.toNat as').length = (leftZ (fguess p) p.toNat cs).length by omega] at hl2
  rw [show (leftZ (fguess p) p.toNat bs).length = (leftZ (fguess p) p.toNat cs).length by omega] at hl3
  exact ⟨l, m, s, m2, m3, m4, _, f1, f2, f3, hl2, hl3, hl4, e4, k4.wf⟩
theorem pureFixedSums (x0 : Arg) (z0 : List Int) (s0 : Arg.isRow .i64 z0 x0) (w0 : ∀ n ∈ z0, (Lit.int .i64 n).wf = true) (y0 : z0.length * 8 ≤ 140737488351232) (x1 : Arg) (z1 : List Int) (s1 : Arg.isRow .i64 z1 x1) (w1 : ∀ n ∈ z1, (Lit.int .i64 n).wf = true) (y1 : z1.length * 8 ≤ 140737488351232) (a2 : Int) (w2 : (Lit.int .i64 a2).wf = true) :
    ∃ μ', overdublaw05_FixedSums (argVals 0 [x0, x1, .i .i64 a2]) (argMem [x0, x1, .i .i64 a2]) = some (.s (.bool true), μ') := by
  obtain ⟨a, ha, hx⟩ := IsRow.arg (l := [x0, x1, .i .i64 a2]) (j := 0) s0 rfl
  obtain ⟨b, hb, hy⟩ := IsRow.arg (l := [x0, x1, .i .i64 a2]) (j := 1) s1 rfl
  have hw := WF.args [x0, x1, .i .i64 a2]
  show ∃ μ', overdublaw05_FixedSums [x0.val 0, x1.val 1, .s (.int .i64 a2)] _ = _
  rw [ha, hb]
  generalize argMem [x0, x1, .i .i64 a2] = μ at *
  have e1 := within_is a2 5 (wf64 w2) (by omega) (by omega) μ
  have hp : 0 ≤ a2 % 5 ∧ a2 % 5 ≤ 4 := by omega
  generalize a2 % 5 = p at *
  have en : (if (64 : Int) < (if ((z1.length : Nat) : Int) < ((z0.length : Nat) : Int) then ((z1.length : Nat) : Int) else ((z0.length : Nat) : Int)) then (64 : Int) else (if ((z1.length : Nat) : Int) < ((z0.length : Nat) : Int) then ((z1.length : Nat) : Int) else ((z0.length : Nat) : Int))) = ((min 64 (min z0.length z1.length) : Nat) : Int) := by
    split <;> split at * <;> omega
  obtain ⟨n, hn⟩ : ∃ n, n = min 64 (min z0.length z1.length) := ⟨_, rfl⟩
  rw [← hn] at en
  obtain ⟨A, B, C, m1, e2, k1, oa, ob, oc⟩ := sums_loop (p := p) (n := n) hw hx hy (by omega) (by omega) (by omega) w0 w1 n 0 μ .nilSlice .nilSlice .nilSlice [] [] [] (by omega) rfl rfl rfl (Keep.refl hw) (OwnRow.nil _ _ _ _) (OwnRow.nil _ _ _ _) (OwnRow.nil _ _ _ _) (apart_nil _) (apart_nil _) (apart_nil _)
  rw [n0] at e2
  rw [List.nil_append] at oa ob oc
  rw [overdublaw05_FixedSums_eq, hx.len, Option.bind_some, hy.len, Option.bind_some, e1, Option.bind_some, asI_int, en, e2]
  simp -implicitDefEqProofs only [Option.bind_some, decide_true, decide_false, cond_true, cond_false, seqJ_n, seqJ_r, seqJ_e, headK_c, asB_bool, asI_int, asS_s, asN_int, extrK_0, extrK_1, extrK_2, Bool.not_true, Bool.not_false, Nat.beq_refl]
  by_cases c1 : (n : Int) < p
  · obtain ⟨μ', e3⟩ := wakes_is m1 k1.wf
    simp -implicitDefEqProofs (disch := omega) only [lt_t, lt_f, gt_t, gt_f, le_t, le_f, ge_t, ge_f, ne_t, ne_f, eq_t, eq_f, w64, chk_true, Option.bind_some, decide_true, decide_false, cond_true, cond_false, seqJ_n, seqJ_r, seqJ_e, headK_c, asB_bool, asI_int, asS_s, asN_int, extrK_0, extrK_1, extrK_2, Bool.not_true, Bool.not_false, Nat.beq_refl, e3]
    exact ⟨_, rfl⟩
  · have ta : tame ((List.range' 0 n).map fun j => U (z0.getD j 0)) := by
      intro v hv; obtain ⟨j, _, rfl⟩ := List.mem_map.mp hv; unfold U; omega
    have tb : tame ((List.range' 0 n).map fun j => U (z1.getD j 0)) := by
      intro v hv; obtain ⟨j, _, rfl⟩ := List.mem_map.mp hv; unfold U; omega
    have tc : tame ((List.range' 0 n).map fun j => U (z0.getD j 0) + U (z1.getD j 0)) := by
      intro v hv; obtain ⟨j, _, rfl⟩ := List.mem_map.mp hv; unfold U; omega
    have la : ((List.range' 0 n).map fun j => U (z0.getD j 0)).length = n := by simp
    have lb : ((List.range' 0 n).map fun j => U (z1.getD j 0)).length = n := by simp
    have lc : ((List.range' 0 n).map fun j => U (z0.getD j 0) + U (z1.getD j 0)).length = n := by simp
    have hc : ∀ i, i < n → ((List.range' 0 n).map fun j => U (z0.getD j 0) + U (z1.getD j 0)).getD i 0 = ((List.range' 0 n).map fun j => U (z0.getD j 0)).getD i 0 + ((List.range' 0 n).map fun j => U (z1.getD j 0)).getD i 0 := by
      intro i hi; rw [getD_range _ hi, getD_range _ hi, getD_range _ hi]
    obtain ⟨l, m, s, m2, m3, m4, q, f1, f2, f3, hl2, hl3, hl4, e4, wf4⟩ := sums_rest k1.wf oa.row ob.row oc.row la lb lc (by omega) hp (by omega) ta tb tc hc
    obtain ⟨μ', e5⟩ := wakes_is m4 wf4
    have q1 := lt_f (a := (n : Int)) (b := p) (by omega)
    have q2 := ne_f (a := (q : Int)) (b := (q : Int)) rfl
    have ne00 : ((0 : Int) != 0) = false := rfl
    simp -implicitDefEqProofs only [q1, f1, f2, f3, ne00, hl2, hl3, hl4, q2, e4, e5, Option.bind_some, decide_true, decide_false, cond_true, cond_false, seqJ_n, seqJ_r, seqJ_e, headK_c, asB_bool, asI_int, asS_s, asN_int, extrK_0, extrK_1, extrK_2, Bool.not_true, Bool.not_false, Nat.beq_refl]
    exact ⟨_, rfl⟩
end Go.Proofs.Ytchapaejdgnihaa
