/- The plain answer of FrameSizes. -/
import Derived.Test.YtadhelkiinaenaaZkc
/- The plain answer of FrameSizes. -/
namespace Go.Proofs.Ytadhelkiinaenaa
open Go Go.Proofs.Ytadhelkiinaenaa.E
set_option linter.unusedVariables false
set_option linter.unusedSimpArgs false
theorem sizes_loop {μ0 : AMem} (h0 : WF μ0) {x : SV} {zs : List Int} (hx : IsRow μ0 .i64 x zs) (hz : ∀ v ∈ zs, (Lit.int .i64 v).wf = true) {v : Int} {n : Nat} (hn : n ≤ 64) :
    ∀ (k i : Nat) (μ : AMem) (y w : SV) (ws : List Int), i + k = n → ws.length = i → (∀ u ∈ ws, 0 ≤ u ∧ u < 16) → Same μ0 μ → OwnRow μ0.next μ .i64 3 y (List.replicate i v) → OwnRow μ0.next μ .i64 3 w ws → Apart y w →
      ∃ y' w' ws' μ', overdublaw08_FrameSizes_L1 [.s x, .s (.int .i64 v), .s (.int .i64 (n : Int))] [.s y, .s w, .s (.int .i64 (i : Int))] μ = some (.exit 0, [.s (.int .i64 (n : Int)), .s y', .s w'], μ') ∧ Same μ0 μ' ∧ OwnRow μ0.next μ' .i64 3 y' (List.replicate n v) ∧ OwnRow μ0.next μ' .i64 3 w' ws' ∧ ws'.length = n ∧ ∀ u ∈ ws', 0 ≤ u ∧ u < 16
  | 0, i, μ, y, w, ws, h, hl, hu, hs, hy, hw, hd => by
    obtain rfl : i = n := by omega
    refine ⟨y, w, ws, μ, ?_, hs, hy, hw, hl, hu⟩
    rw [overdublaw08_FrameSizes_L1_eq, overdublaw08_FrameSizes_L1_B_eq]
    simp -implicitDefEqProofs only [lt_f (Int.le_refl (i : Int)), Option.bind_some, decide_true, decide_false, cond_true, cond_false, seqJ_n, seqJ_r, seqJ_e, headK_c, asB_bool, asI_int, asS_s, asN_int, extrK_0, extrK_1, extrK_2, Bool.not_true, Bool.not_false, Nat.beq_refl]
  | k + 1, i, μ, y, w, ws, h, hl, hu, hs, hy, hw, hd => by
    have hx1 := hx.same hs
    have c1 := lt_t (show (i : Int) < (n : Int) by omega)
    have ei : IntKind.wrap .i64 ((i : Int) + 1) = ((i + 1 : Nat) : Int) := by rw [wr (by omega)]; rfl
    have go : ∀ u : Int, 0 ≤ u ∧ u < 16 → ∃ y1 w1 m1 m2, (∀ {R : Type} (K : AV → AMem → Option R), appendA 3 1 8 (μ.next + 3) ((μ.bump 10).set (μ.next + 2) (rowObj [.int .i64 v] 1 3 (some 1))) (.s y) (.s (.slice (μ.next + 2) 0 0 1)) K = K (.s y1) m1) ∧
        (∀ {R : Type} (K : AV → AMem → Option R), appendA 3 1 8 (μ.next + 7) (m1.set (μ.next + 6) (rowObj [.int .i64 u] 1 3 (some 1))) (.s w) (.s (.slice (μ.next + 6) 0 0 1)) K = K (.s w1) m2) ∧
        ∃ y' w' ws' μ', overdublaw08_FrameSizes_L1 [.s x, .s (.int .i64 v), .s (.int .i64 (n : Int))] [.s y1, .s w1, .s (.int .i64 ((i + 1 : Nat) : Int))] m2 = some (.exit 0, [.s (.int .i64 (n : Int)), .s y', .s w'], μ') ∧ Same μ0 μ' ∧ OwnRow μ0.next μ' .i64 3 y' (List.replicate n v) ∧ OwnRow μ0.next μ' .i64 3 w' ws' ∧ ws'.length = n ∧ ∀ u ∈ ws', 0 ≤ u ∧ u < 16 := by
      intro u hu1
      obtain ⟨y1, w1, m1, m2, p1, p2, p3, p4, p5, p6⟩ := push2 (a := 2) (b := 3) (c := 6) (d := 7) (n := 10) h0 hs hy hw hd v u (by simp; omega) (by omega) (by omega) (by omega) (by omega) (by omega) (by omega) (by omega) (by omega) (by omega) (by omega) (by omega)
      rw [← List.replicate_succ'] at p4
      exact ⟨y1, w1, m1, m2, p1, p2, sizes_loop h0 hx hz hn k (i + 1) m2 y1 w1 _ (by omega) (by simp [hl]) (fun t ht => by
        rcases List.mem_append.mp ht with h | h
        · exact hu t h
        · simp only [List.mem_cons, List.not_mem_nil, or_false] at h; omega) p3 p4 p5 p6⟩
    by_cases c2 : i < zs.length
    · have hzi := hz _ (getD_mem c2)
      have wi := within_is (zs.getD i 0) 16 (wf64 hzi) (by omega) (by omega) μ
      obtain ⟨y1, w1, m1, m2, p1, p2, y', w', ws', μ', q1, q2⟩ := go (zs.getD i 0 % 16) (by omega)
      have g1 := fun {R : Type} (K : AV → Option R) => hx1.ind (i := (i : Int)) (by omega) (by omega) K
      have l1 := fun {R : Type} (K : AV → Option R) => hx1.load (i := (i : Int)) (by omega) (by omega) K
      refine ⟨y', w', ws', μ', ?_, q2⟩
      rw [overdublaw08_FrameSizes_L1_eq, overdublaw08_FrameSizes_L1_B_eq]
      simp -implicitDefEqProofs only [c1, hx1.len, lt_t (show (i : Int) < (zs.length : Int) by omega), g1, l1, nat_toNat, wi, p1, p2, ei, Option.bind_some, decide_true, decide_false, cond_true, cond_false, seqJ_n, seqJ_r, seqJ_e, headK_c, asB_bool, asI_int, asS_s, asN_int, extrK_0, extrK_1, extrK_2, Bool.not_true, Bool.not_false, Nat.beq_refl]
      exact q1
    · obtain ⟨y1, w1, m1, m2, p1, p2, y', w', ws', μ', q1, q2⟩ := go 0 (by omega)
      refine ⟨y', w', ws', μ', ?_, q2⟩
      rw [overdublaw08_FrameSizes_L1_eq, overdublaw08_FrameSizes_L1_B_eq]
      simp -implicitDefEqProofs only [c1, hx1.len, lt_f (show (zs.length : Int) ≤ (i : Int) by omega), p1, p2, ei, Option.bind_some, decide_true, decide_false, cond_true, cond_false, seqJ_n, seqJ_r, seqJ_e, headK_c, asB_bool, asI_int, asS_s, asN_int, extrK_0, extrK_1, extrK_2, Bool.not_true, Bool.not_false, Nat.beq_refl]
      exact q1
theorem noise_size {v : Int} (h : 0 ≤ v ∧ v < 16) : sizeZ (zigZ v) ((4 : Nat) : Int) ≤ 6 := by
  have hz : zigZ v = 2 * v := by unfold zigZ; rw [if_neg (by omega), if_neg (by omega)]
  rw [hz]
  unfold sizeZ
  have e : (2 : Int) ^ ((4 : Nat) : Int).toNat = 16 := by decide
  rw [e]
  split
  · split <;> omega
  · omega
theorem pureFrameSizes (x0 : Arg) (z0 : List Int) (s0 : Arg.isRow .i64 z0 x0) (w0 : ∀ n ∈ z0, (Lit.int .i64 n).wf = true) (y0 : z0.length * 8 ≤ 140737488351232) (a1 : Int) (w1 : (Lit.int .i64 a1).wf = true) (a2 : Int) (w2 : (Lit.int .i64 a2).wf = true) :
    ∃ μ', overdublaw08_FrameSizes (argVals 0 [x0, .i .i64 a1, .i .i64 a2]) (argMem [x0, .i .i64 a1, .i .i64 a2]) = some (.s (.bool true), μ') := by
  obtain ⟨a, ha, hx⟩ := IsRow.arg (l := [x0, .i .i64 a1, .i .i64 a2]) (j := 0) s0 rfl
  have hw := WF.args [x0, .i .i64 a1, .i .i64 a2]
  show ∃ μ', overdublaw08_FrameSizes [x0.val 0, .s (.int .i64 a1), .s (.int .i64 a2)] _ = _
  rw [ha]
  generalize argMem [x0, .i .i64 a1, .i .i64 a2] = μ at *
  have e0 := within_is a2 64 (wf64 w2) (by omega) (by omega) μ
  have e1 := within_is a1 4194304 (wf64 w1) (by omega) (by omega) μ
  obtain ⟨n, hn⟩ : ∃ n : Nat, 1 + a2 % 64 = n := ⟨(1 + a2 % 64).toNat, by omega⟩
  have ew : IntKind.wrap .i64 (1 + a2 % 64) = (n : Int) := by rw [wr (by omega), hn]
  obtain ⟨v, hv⟩ : ∃ v, a1 % 4194304 = v := ⟨_, rfl⟩
  rw [hv] at e1
  obtain ⟨y, w, ws, m1, e2, k1, o1, o2, hwl, hwu⟩ := sizes_loop hw hx w0 (v := v) (n := n) (by omega) n 0 μ .nilSlice .nilSlice [] (Nat.zero_add _) rfl (fun u h => by cases h) (Keep.refl hw) (OwnRow.nil _ _ _ _) (OwnRow.nil _ _ _ _) (apart_nil _)
  rw [n0] at e2
  have htr : tame (List.replicate n v) := fun u hu => by rw [List.eq_of_mem_replicate hu]; omega
  have hlr : (List.replicate n v).length = n := List.length_replicate
  have htw : tame ws := fun u hu => by have := hwu u hu; omega
  have hf0 : frameD 0 (List.replicate n v) = some (headD 0 n ++ smpD ((List.replicate n v).take 1)) := by
    have hall : (List.replicate n v).all (fun u => u == (List.replicate n v).getD 0 0) = true := List.all_eq_true.mpr fun u hu => by
      rw [List.eq_of_mem_replicate hu, List.getD_eq_getElem?_getD, List.getElem?_replicate, if_pos (by omega)]
      simp
    unfold frameD
    rw [if_pos rfl, if_pos hall, hlr]
  obtain ⟨bs0, z0', m2, hh0, e3, k2, p2⟩ := (frameAs_is k1.wf o1.row (by omega) 0).2 _ ((asD_of htr (by omega)).trans hf0)
  have hl0 : bs0.length = 5 := by
    have h1 := hh0.1
    have h2 : ((List.replicate n v).take 1).length = 1 := by simp; omega
    rw [List.length_append, head_len, smpD_len, h2] at h1
    omega
  obtain ⟨bs1, z1', m3, hh1, e4, k3, p3⟩ := (frameAs_is k2.wf (o1.row.same k2) (by omega) 1).2 _ ((asD_of htr (by omega)).trans (frame1 _))
  have hl1 : bs1.length = 2 + 3 * n := by
    have h1 := hh1.1
    rw [List.length_append, head_len, smpD_len, hlr] at h1
    omega
  have hE : encE ws = 0 := by unfold encE; rw [if_neg (by omega), checkZ_tame htw (by omega)]
  obtain ⟨ds, bs, z, m4, hds, hh, e5, k4, f4⟩ := (encode_is k3.wf (o2.row.same (k2.trans k3)) (by omega)).2 hE
  have hle := enc_le hds (j := 2) (by omega) (frame2 htw (by omega))
  have hsm : smallL ws := fun u hu => by have := hwu u hu; omega
  have hr := resD_at hsm (p := 4) (by omega) (c := 6) fun u hu => noise_size (hwu u hu)
  rw [List.length_append, head_len] at hle
  have hbl : (bs.length : Int) ≤ 2 + (5 + 6 * (n : Int) + 7) / 8 := by have := hh.1; omega
  obtain ⟨m5, e6⟩ := wakes_is m4 k4.wf
  have g1 : IntKind.wrap .i64 (2 + IntKind.wrap .i64 (3 * (n : Int))) = ((bs1.length : Nat) : Int) := by rw [wr (n := 3 * (n : Int)) (by omega), wr (by omega)]; omega
  have g2 : IntKind.wrap .i64 (2 + IntKind.wrap .i64 (Int.tdiv (IntKind.wrap .i64 (IntKind.wrap .i64 (5 + IntKind.wrap .i64 (6 * (n : Int))) + 7)) 8)) = 2 + (5 + 6 * (n : Int) + 7) / 8 := by
    rw [wr (n := 6 * (n : Int)) (by omega), wr (n := 5 + 6 * (n : Int)) (by omega), wr (n := 5 + 6 * (n : Int) + 7) (by omega), Int.tdiv_eq_ediv_of_nonneg (by omega), wr (n := (5 + 6 * (n : Int) + 7) / 8) (by omega), wr (by omega)]
  refine ⟨m5, ?_⟩
  rw [overdublaw08_FrameSizes_eq]
  simp -implicitDefEqProofs only [e0, e1, ew, e2, e3, e4, e5, p2.row.len, p3.row.len, f4.own.row.len, g1, g2, hl0, eq_t (show ((5 : Nat) : Int) = 5 from rfl), BEq.rfl, le_t hbl, e6, Option.bind_some, decide_true, decide_false, cond_true, cond_false, seqJ_n, seqJ_r, seqJ_e, headK_c, asB_bool, asI_int, asS_s, asN_int, extrK_0, extrK_1, extrK_2, Bool.not_true, Bool.not_false, Nat.beq_refl]
end Go.Proofs.Ytadhelkiinaenaa
