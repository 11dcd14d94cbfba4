/- The plain answer of FramePlain. -/
import Derived.Test.YtadhelkiinaenaaZkc
/- The plain answer of FramePlain. -/
namespace Go.Proofs.Ytadhelkiinaenaa
open Go Go.Proofs.Ytadhelkiinaenaa.E
set_option linter.unusedVariables false
set_option linter.unusedSimpArgs false
def lineL (s d : Int) (n : Nat) : List Int := (List.range n).map fun i : Nat => s + d * (i : Int)
theorem line_len (s d : Int) (n : Nat) : (lineL s d n).length = n := by simp [lineL]
theorem line_snoc (s d : Int) (n : Nat) : lineL s d (n + 1) = lineL s d n ++ [s + d * (n : Int)] := by simp [lineL, List.range_succ]
theorem line_get {s d : Int} {n i : Nat} (h : i < n) : (lineL s d n).getD i 0 = s + d * (i : Int) := by
  unfold lineL
  rw [List.getD_eq_getElem?_getD, List.getElem?_map, List.getElem?_range h]
  rfl
theorem size_pos {v k : Int} (h : -2000000000 ≤ v ∧ v ≤ 2000000000) (hk : 0 ≤ k ∧ k ≤ 24) : 1 ≤ sizeZ (zigZ v) k := by
  have hz := zig_may h
  have := Int.ediv_nonneg hz.1 (show (0 : Int) ≤ 2 ^ k.toNat from Int.le_of_lt (Int.pow_pos (by omega)))
  unfold sizeZ
  rw [if_pos (mayB_of hz hk)]
  split <;> omega
theorem size_far {v k : Int} (h : -2000000000 ≤ v ∧ v ≤ 2000000000) (hk : 0 ≤ k ∧ k ≤ 24) (hv : v < -2 ∨ v > 1) : 4 ≤ sizeZ (zigZ v) k := by
  have hz := zig_may h
  have hn := Int.ediv_nonneg hz.1 (show (0 : Int) ≤ 2 ^ k.toNat from Int.le_of_lt (Int.pow_pos (by omega)))
  have h4 : 4 ≤ zigZ v := by
    unfold zigZ
    rw [if_neg (by omega)]
    split <;> omega
  unfold sizeZ
  rw [if_pos (mayB_of hz hk)]
  split
  · by_cases k3 : 3 ≤ k
    · omega
    · have : k = 0 ∨ k = 1 ∨ k = 2 := by omega
      rcases this with rfl | rfl | rfl
      · have e : (2 : Int) ^ (0 : Int).toNat = 1 := by decide
        rw [e]; omega
      · have e : (2 : Int) ^ (1 : Int).toNat = 2 := by decide
        rw [e]; omega
      · have e : (2 : Int) ^ (2 : Int).toNat = 4 := by decide
        rw [e]; omega
  · omega
theorem frame_least {xs ds : List Int} (ht : tame xs) {k : Int} (hk : k ≠ 0) (hn : 20 ≤ xs.length) (h : frameD k xs = some ds) : 41 ≤ ds.length := by
  unfold frameD at h
  rw [if_neg hk] at h
  split at h
  · cases h
    rw [List.length_append, head_len, smpD_len]; omega
  · split at h
    · split at h
      · rename_i hk6 he
        cases h
        have hr := resD_least (l := fresZ xs (k - 2)) (fres_small ht) (c := 1) fun v hv k hk => size_pos (fres_small ht v hv) hk
        rw [fresZ_len he] at hr
        rw [List.length_append, List.length_append, head_len, smpD_len, List.length_take]
        omega
      · cases h
    · split at h
      · split at h
        · cases h
        · rename_i c hc
          cases h
          obtain ⟨d1, d2, d3, d4, d5, d6, d7⟩ := cf_spec hc
          have hr := resD_least (l := resZ xs c) (res_small ht) (c := 1) fun v hv k hk => size_pos (res_small ht v hv) hk
          rw [resZ_len d6] at hr
          rw [List.length_append, List.length_append, List.length_append, head_len, smpD_len, cofD_len, List.length_take]
          omega
      · cases h
theorem line_sum {s d : Int} {N : Nat} (hd : 1 ≤ d) (hs : smallL (lineL s d N)) {k : Int} (hk : 0 ≤ k ∧ k ≤ 24) : ∀ n, n ≤ N → 4 * (n : Int) - 3 * (if s + d * (n : Int) + 2 ≤ 0 then 0 else if s + d * (n : Int) + 2 ≥ 4 then 4 else s + d * (n : Int) + 2) ≤ sumS ((lineL s d N).map zigZ) k n
  | 0, _ => by
    rw [sumS]
    split
    · omega
    · split <;> omega
  | n + 1, hn => by
    have ih := line_sum hd hs hk n (by omega)
    have hg := line_get (s := s) (d := d) (show n < N by omega)
    have hv := hs _ (getD_mem (zs := lineL s d N) (i := n) (by rw [line_len]; omega))
    rw [hg] at hv
    have hz : ((lineL s d N).map zigZ).getD n 0 = zigZ (s + d * (n : Int)) := by
      rw [List.getD_eq_getElem?_getD, List.getElem?_map, ← hg, List.getD_eq_getElem?_getD, List.getElem?_eq_getElem (by rw [line_len]; omega)]
      rfl
    have hnext : s + d * ((n + 1 : Nat) : Int) = s + d * (n : Int) + d := by
      rw [show ((n + 1 : Nat) : Int) = (n : Int) + 1 from rfl, Int.mul_add, Int.mul_one]; omega
    have h1 := size_pos hv hk
    rw [sumS, hz, hnext]
    by_cases hf : s + d * (n : Int) < -2 ∨ s + d * (n : Int) > 1
    · have h4 := size_far hv hk hf
      generalize s + d * (n : Int) = t at *
      repeat' split at ih
      all_goals (repeat' split)
      all_goals omega
    · generalize s + d * (n : Int) = t at *
      repeat' split at ih
      all_goals (repeat' split)
      all_goals omega
theorem guess2 {s d : Int} {n i : Nat} (h2 : 2 ≤ i) (hi : i < n) : fguess 2 ((lineL s d n).take i) = s + d * (i : Int) := by
  have hl : ((lineL s d n).take i).length = i := by rw [List.length_take, line_len]; omega
  have e1 : ((lineL s d n).take i).getD (i - 1 - 0) 0 = s + d * ((i - 1 : Nat) : Int) := by
    rw [List.getD_eq_getElem?_getD, List.getElem?_take, if_pos (by omega), ← List.getD_eq_getElem?_getD, Nat.sub_zero]
    exact line_get (by omega)
  have e2 : ((lineL s d n).take i).getD (i - 1 - 1) 0 = s + d * ((i - 1 - 1 : Nat) : Int) := by
    rw [List.getD_eq_getElem?_getD, List.getElem?_take, if_pos (by omega), ← List.getD_eq_getElem?_getD]
    exact line_get (by omega)
  have : fguess 2 ((lineL s d n).take i) = 0 + 2 * ((lineL s d n).take i).getD (((lineL s d n).take i).length - 1 - 0) 0 + (-1) * ((lineL s d n).take i).getD (((lineL s d n).take i).length - 1 - 1) 0 := rfl
  rw [this, hl, e1, e2]
  obtain ⟨j, rfl⟩ : ∃ j, i = j + 2 := ⟨i - 2, by omega⟩
  rw [show j + 2 - 1 = j + 1 by omega, show j + 1 - 1 = j by omega, show ((j + 1 : Nat) : Int) = (j : Int) + 1 from rfl, show ((j + 2 : Nat) : Int) = (j : Int) + 2 from rfl]
  have f1 : d * ((j : Int) + 1) = d * (j : Int) + d := by rw [Int.mul_add, Int.mul_one]
  have f2 : d * ((j : Int) + 2) = d * (j : Int) + d * 2 := Int.mul_add ..
  rw [f1, f2]
  omega
theorem left2 {s d : Int} {n : Nat} : ∀ v ∈ leftZ (fguess 2) 2 (lineL s d n), v = 0 := fun v hv => by
  unfold leftZ at hv
  obtain ⟨i, hi, rfl⟩ := List.mem_map.mp hv
  rw [line_len] at hi
  have := List.mem_range'_1.mp hi
  rw [line_get (by omega), guess2 (by omega) (by omega)]
  omega
theorem line_kind {s d : Int} {n : Nat} {ds : List Int} (hd : 1 ≤ d) (hn : 20 ≤ n ∧ n ≤ 64) (ht : tame (lineL s d n)) (h : encD (lineL s d n) = some ds) : ∃ fs, frameD 4 (lineL s d n) = some fs ∧ ds.length ≤ fs.length ∧ fs.length ≤ 67 + n ∧ ∃ k : Nat, 3 ≤ k ∧ frameD (k : Int) (lineL s d n) = some ds := by
  have hl := line_len s d n
  have hE : fresE (lineL s d n) (4 - 2) = 0 := by
    unfold fresE
    rw [if_pos (by omega), checkZ_tame ht (by omega)]
  have hZ : fresZ (lineL s d n) (4 - 2) = leftZ (fguess 2) 2 (lineL s d n) := by
    unfold fresZ
    rw [if_pos hE]; rfl
  have hf : frameD 4 (lineL s d n) = some (headD 4 (lineL s d n).length ++ smpD ((lineL s d n).take (4 - 2 : Int).toNat) ++ resD (fresZ (lineL s d n) (4 - 2))) := by
    unfold frameD
    rw [if_neg (by omega), if_neg (by omega), if_pos (by omega), if_pos hE]
  have hr := resD_at (l := fresZ (lineL s d n) (4 - 2)) (fres_small ht) (p := 0) (by omega) (c := 1) fun v hv => by
    rw [hZ] at hv
    rw [left2 v hv]
    decide
  rw [fresZ_len hE] at hr
  have h2 : ((4 - 2 : Int)).toNat = 2 := by decide
  rw [h2] at hr
  have hfl : (headD 4 (lineL s d n).length ++ smpD ((lineL s d n).take (4 - 2 : Int).toNat) ++ resD (fresZ (lineL s d n) (4 - 2))).length ≤ 67 + n := by
    rw [List.length_append, List.length_append, head_len, smpD_len, List.length_take, h2]
    omega
  have hle := enc_le h (j := 4) (by omega) hf
  refine ⟨_, hf, hle, hfl, ?_⟩
  obtain ⟨k, hk⟩ := enc_kind h
  refine ⟨k, ?_, hk⟩
  by_cases h3 : 3 ≤ k
  · exact h3
  · exfalso
    have : k = 0 ∨ k = 1 ∨ k = 2 := by omega
    rcases this with rfl | rfl | rfl
    · rw [n0] at hk
      unfold frameD at hk
      rw [if_pos rfl] at hk
      split at hk
      · rename_i hall
        have h1 := List.all_eq_true.mp hall _ (getD_mem (zs := lineL s d n) (i := 1) (by omega))
        have h1 := eq_of_beq h1
        rw [line_get (by omega), line_get (by omega)] at h1
        have e1 : d * ((1 : Nat) : Int) = d := Int.mul_one d
        have e0 : d * ((0 : Nat) : Int) = 0 := Int.mul_zero d
        omega
      · cases hk
    · rw [show ((1 : Nat) : Int) = 1 from rfl, frame1] at hk
      cases hk
      rw [List.length_append, head_len, smpD_len] at hle
      omega
    · rw [show ((2 : Nat) : Int) = 2 from rfl, frame2 ht (by omega)] at hk
      cases hk
      have hsm : smallL (lineL s d n) := fun v hv => by have := ht v hv; omega
      have hs := resD_sum hsm
      have hb := best_le ((lineL s d n).map zigZ)
      have hls := line_sum hd hsm hb n (Nat.le_refl n)
      rw [List.length_map, hl] at hs
      rw [List.length_append, head_len] at hle
      split at hls
      · omega
      · split at hls <;> omega
theorem plain_loop {μ0 : AMem} (h0 : WF μ0) {s d : Int} {n : Nat} (hs0 : -524288 ≤ s ∧ s ≤ 524288) (hd : 1 ≤ d ∧ d ≤ 1000) (hn : n ≤ 64) :
    ∀ (k i : Nat) (μ : AMem) (y w : SV), i + k = n → Same μ0 μ → OwnRow μ0.next μ .i64 3 y (List.replicate i s) → OwnRow μ0.next μ .i64 3 w (lineL s d i) → Apart y w →
      ∃ y' w' μ', overdublaw08_FramePlain_L1 [.s (.int .i64 s), .s (.int .i64 d), .s (.int .i64 (n : Int))] [.s y, .s w, .s (.int .i64 (i : Int))] μ = some (.exit 0, [.s y', .s w'], μ') ∧ Same μ0 μ' ∧ OwnRow μ0.next μ' .i64 3 y' (List.replicate n s) ∧ OwnRow μ0.next μ' .i64 3 w' (lineL s d n)
  | 0, i, μ, y, w, h, hs, hy, hw, hap => by
    obtain rfl : i = n := by omega
    refine ⟨y, w, μ, ?_, hs, hy, hw⟩
    rw [overdublaw08_FramePlain_L1_eq, overdublaw08_FramePlain_L1_B_eq]
    simp -implicitDefEqProofs only [lt_f (Int.le_refl (i : Int)), Option.bind_some, decide_true, decide_false, cond_true, cond_false, seqJ_n, seqJ_r, seqJ_e, headK_c, asB_bool, asI_int, asS_s, asN_int, extrK_0, extrK_1, extrK_2, Bool.not_true, Bool.not_false, Nat.beq_refl]
  | k + 1, i, μ, y, w, h, hs, hy, hw, hap => by
    have c1 := lt_t (show (i : Int) < (n : Int) by omega)
    have ei : IntKind.wrap .i64 ((i : Int) + 1) = ((i + 1 : Nat) : Int) := by rw [wr (by omega)]; rfl
    have hm := prod_le (a := d) (b := (i : Int)) (A := 1000) (B := 64) (by omega) (by omega) (by omega) (by omega)
    have ew : IntKind.wrap .i64 (s + IntKind.wrap .i64 (d * (i : Int))) = s + d * (i : Int) := by rw [wr (n := d * (i : Int)) (by omega), wr (by omega)]
    obtain ⟨y1, w1, m1, m2, p1, p2, p3, p4, p5, p6⟩ := push2 (a := 2) (b := 3) (c := 10) (d := 11) (n := 14) h0 hs hy hw hap s (s + d * (i : Int)) (by simp; omega) (by rw [line_len]; omega) (by omega) (by omega) (by omega) (by omega) (by omega) (by omega) (by omega) (by omega) (by omega) (by omega)
    rw [← List.replicate_succ'] at p4
    rw [← line_snoc] at p5
    obtain ⟨y2, w2, m3, q1, q2⟩ := plain_loop h0 hs0 hd hn k (i + 1) m2 y1 w1 (by omega) p3 p4 p5 p6
    refine ⟨y2, w2, m3, ?_, q2⟩
    rw [overdublaw08_FramePlain_L1_eq, overdublaw08_FramePlain_L1_B_eq]
    simp -implicitDefEqProofs only [c1, p1, ew, p2, ei, Option.bind_some, decide_true, decide_false, cond_true, cond_false, seqJ_n, seqJ_r, seqJ_e, headK_c, asB_bool, asI_int, asS_s, asN_int, extrK_0, extrK_1, extrK_2, Bool.not_true, Bool.not_false, Nat.beq_refl]
    exact q1
theorem pureFramePlain (a0 : Int) (w0 : (Lit.int .i64 a0).wf = true) (a1 : Int) (w1 : (Lit.int .i64 a1).wf = true) (a2 : Int) (w2 : (Lit.int .i64 a2).wf = true) :
    ∃ μ', overdublaw08_FramePlain (argVals 0 [.i .i64 a0, .i .i64 a1, .i .i64 a2]) (argMem [.i .i64 a0, .i .i64 a1, .i .i64 a2]) = some (.s (.bool true), μ') := by
  have hw := WF.args [.i .i64 a0, .i .i64 a1, .i .i64 a2]
  show ∃ μ', overdublaw08_FramePlain [.s (.int .i64 a0), .s (.int .i64 a1), .s (.int .i64 a2)] _ = _
  generalize argMem [.i .i64 a0, .i .i64 a1, .i .i64 a2] = μ at *
  have e0 := within_is a0 1048576 (wf64 w0) (by omega) (by omega) μ
  have e1 := within_is a1 1000 (wf64 w1) (by omega) (by omega) μ
  have e2 := within_is a2 45 (wf64 w2) (by omega) (by omega) μ
  obtain ⟨n, hn⟩ : ∃ n : Nat, 20 + a2 % 45 = n := ⟨(20 + a2 % 45).toNat, by omega⟩
  have ew2 : IntKind.wrap .i64 (20 + a2 % 45) = (n : Int) := by rw [wr (by omega), hn]
  obtain ⟨s, hs⟩ : ∃ s, a0 % 1048576 - 524288 = s := ⟨_, rfl⟩
  have ew0 : IntKind.wrap .i64 (a0 % 1048576 - 524288) = s := by rw [wr (by omega), hs]
  obtain ⟨d, hd⟩ : ∃ d, 1 + a1 % 1000 = d := ⟨_, rfl⟩
  have ew1 : IntKind.wrap .i64 (1 + a1 % 1000) = d := by rw [wr (by omega), hd]
  obtain ⟨y, w, m1, e3, k1, o1, o2⟩ := plain_loop hw (s := s) (d := d) (n := n) (by omega) (by omega) (by omega) n 0 μ .nilSlice .nilSlice (Nat.zero_add _) (Keep.refl hw) (OwnRow.nil _ _ _ _) (OwnRow.nil _ _ _ _) (apart_nil _)
  rw [n0] at e3
  have htr : tame (List.replicate n s) := fun u hu => by rw [List.eq_of_mem_replicate hu]; omega
  have hlr : (List.replicate n s).length = n := List.length_replicate
  have hll := line_len s d n
  have htl : tame (lineL s d n) := fun u hu => by
    obtain ⟨i, hi, rfl⟩ := List.mem_map.mp hu
    have := List.mem_range.mp hi
    have hm := prod_le (a := d) (b := (i : Int)) (A := 1000) (B := 64) (by omega) (by omega) (by omega) (by omega)
    omega
  have hE1 : encE (List.replicate n s) = 0 := by unfold encE; rw [if_neg (by omega), checkZ_tame htr (by omega)]
  have hE2 : encE (lineL s d n) = 0 := by unfold encE; rw [if_neg (by omega), checkZ_tame htl (by omega)]
  obtain ⟨ds, bs, z, m2, hds, hh, e4, k2, f2⟩ := (encode_is k1.wf o1.row (by omega)).2 hE1
  have hf0 : frameD 0 (List.replicate n s) = some (headD 0 n ++ smpD ((List.replicate n s).take 1)) := by
    have hall : (List.replicate n s).all (fun u => u == (List.replicate n s).getD 0 0) = true := List.all_eq_true.mpr fun u hu => by
      rw [List.eq_of_mem_replicate hu, List.getD_eq_getElem?_getD, List.getElem?_replicate, if_pos (by omega)]
      simp
    unfold frameD
    rw [if_pos rfl, if_pos hall, hlr]
  have hl40 : (headD 0 n ++ smpD ((List.replicate n s).take 1)).length = 40 := by
    have h2 : ((List.replicate n s).take 1).length = 1 := by simp; omega
    rw [List.length_append, head_len, smpD_len, h2]
  have hk0 : frameD 0 (List.replicate n s) = some ds := by
    obtain ⟨k, hk⟩ := enc_kind hds
    by_cases h : (k : Int) = 0
    · rw [h] at hk; exact hk
    · have h1 := frame_least htr h (by omega) hk
      have h2 := enc_le hds (j := 0) (by omega) hf0
      omega
  have hbl : bs.length = 5 := by
    have h1 := hh.1
    rw [hf0] at hk0
    have h2 := Option.some.inj hk0
    rw [← h2, hl40] at h1
    omega
  have hl5 : ((bs.length : Nat) : Int) = 5 := by omega
  obtain ⟨es, cs, z2, m3, hes, hh2, e5, k3, f3⟩ := (encode_is k2.wf (o2.row.same k2) (by omega)).2 hE2
  obtain ⟨fs, hfs, hle, hfl, kk, hk3, hkk⟩ := line_kind (by omega) (by omega) htl hes
  obtain ⟨gs, z3, m4, hh3, e6, k4, o4⟩ := (refAs_is k3.wf ((o2.row.same k2).same k3) (by omega) 4).2 fs ((asD_of htl (by omega)).trans hfs)
  have hcl : cs.length ≤ gs.length ∧ cs.length ≤ 30 := by have := hh2.1; have := hh3.1; omega
  obtain ⟨x5, l5, m5, e7, k5, r5, hA5, _⟩ := Of_is k4.wf ((f3.own.row).same k4) hh2.2.1 (by omega)
  obtain ⟨m6, e8, k6⟩ := kind_is k5.wf (((f2.own.row.same k3).same k4).same k5) hh.2.1 (by omega)
  have hz1 : kindZ bs = 0 := kind_back htr (by omega) hk0 (Rd.of hh) hh.2.1
  rw [hz1] at e8
  obtain ⟨m7, e9, k7⟩ := kind_is k6.wf (((f3.own.row.same k4).same k5).same k6) hh2.2.1 (by omega)
  have hz2 : kindZ cs = (kk : Int) := kind_back htl (by omega) hkk (Rd.of hh2) hh2.2.1
  rw [hz2] at e9
  obtain ⟨m8, e10⟩ := wakes_is m7 k7.wf
  have hA := hA5.1
  have ew8 : IntKind.wrap .i64 (8 * ((cs.length : Nat) : Int)) = ((l5.length : Nat) : Int) := by rw [wr (by omega)]; omega
  refine ⟨m8, ?_⟩
  rw [overdublaw08_FramePlain_eq]
  simp -implicitDefEqProofs only [e0, e1, e2, ew0, ew1, ew2, e3, e4, e5, e6, e7, e8, e9, f2.own.row.len, f3.own.row.len, o4.row.len, r5.len, hl5, ew8, BEq.rfl, le_t (show ((cs.length : Nat) : Int) ≤ ((gs.length : Nat) : Int) by omega), ge_t (show (3 : Int) ≤ (kk : Int) by omega), e10, Option.bind_some, decide_true, decide_false, cond_true, cond_false, seqJ_n, seqJ_r, seqJ_e, headK_c, asB_bool, asI_int, asS_s, asN_int, extrK_0, extrK_1, extrK_2, Bool.not_true, Bool.not_false, Nat.beq_refl]
end Go.Proofs.Ytadhelkiinaenaa
