/- The plain answer of FrameBack. -/
import Derived.Test.YtadhelkiinaenaaZkc
/- The plain answer of FrameBack. -/
namespace Go.Proofs.Ytadhelkiinaenaa
open Go Go.Proofs.Ytadhelkiinaenaa.E
set_option linter.unusedVariables false
set_option linter.unusedSimpArgs false
/-- No kind is shorter than the best. -/
theorem better_le {b d : Option (List Int)} {ds : List Int} (h : betterD b d = some ds) : (∀ bs, b = some bs → ds.length ≤ bs.length) ∧ ∀ es, d = some es → ds.length ≤ es.length := by
  unfold betterD at h
  cases d with
  | none =>
    dsimp only at h
    refine ⟨fun bs hb => ?_, fun es he => by cases he⟩
    rw [h] at hb; cases hb; exact Nat.le_refl _
  | some fs =>
    cases b with
    | none =>
      dsimp only at h
      cases h
      exact ⟨fun bs hb => (by cases hb), fun es he => (by cases he; exact Nat.le_refl _)⟩
    | some bs =>
      dsimp only at h
      split at h
      · cases h
        exact ⟨fun cs hb => (by cases hb; omega), fun es he => (by cases he; exact Nat.le_refl _)⟩
      · cases h
        exact ⟨fun cs hb => (by cases hb; exact Nat.le_refl _), fun es he => (by cases he; omega)⟩
theorem better_some {b d : Option (List Int)} {bs : List Int} (h : b = some bs) : ∃ ds, betterD b d = some ds := by
  subst h
  unfold betterD
  cases d with
  | none => exact ⟨_, rfl⟩
  | some es => dsimp only; split <;> exact ⟨_, rfl⟩
theorem encF_le (xs : List Int) : ∀ (k i : Nat) (b : Option (List Int)) (ds : List Int), encF xs k i b = some ds → (∀ bs, b = some bs → ds.length ≤ bs.length) ∧ ∀ j : Nat, i ≤ j → j < i + k → ∀ es, frameD (j : Int) xs = some es → ds.length ≤ es.length
  | 0, i, b, ds, h => ⟨fun bs hb => (by rw [encF] at h; rw [h] at hb; cases hb; exact Nat.le_refl _), fun j h1 h2 => by omega⟩
  | k + 1, i, b, ds, h => by
    rw [encF] at h
    obtain ⟨g1, g2⟩ := encF_le xs k (i + 1) _ ds h
    have step : ∀ fs, betterD b (frameD (i : Int) xs) = some fs → ds.length ≤ fs.length := g1
    refine ⟨fun bs hb => ?_, fun j h1 h2 es he => ?_⟩
    · obtain ⟨fs, hf⟩ := better_some (d := frameD (i : Int) xs) hb
      exact Nat.le_trans (g1 fs hf) ((better_le hf).1 bs hb)
    · by_cases hj : j = i
      · subst hj
        have : ∃ fs, betterD b (frameD (j : Int) xs) = some fs := by
          rw [he]
          unfold betterD
          cases b with
          | none => exact ⟨_, rfl⟩
          | some bs => dsimp only; split <;> exact ⟨_, rfl⟩
        obtain ⟨fs, hf⟩ := this
        exact Nat.le_trans (g1 fs hf) ((better_le hf).2 es he)
      · exact g2 j (by omega) (by omega) es he
theorem enc_le {xs ds es : List Int} (h : encD xs = some ds) {j : Nat} (hj : j ≤ 18) (he : frameD (j : Int) xs = some es) : ds.length ≤ es.length := (encF_le xs 19 0 none ds h).2 j (Nat.zero_le _) (by omega) es he
theorem back_loop {m0 : AMem} (h0 : WF m0) {y z : SV} {xs bs ds : List Int} (hy : IsRow m0 .i64 y xs) (hz : IsRow m0 .u8 z bs) (ht : tame xs) (hl : 1 ≤ xs.length ∧ xs.length ≤ 64) (hE : encD xs = some ds) (hh : holds bs ds) (hbl : bs.length ≤ 6000) :
    ∀ (k i : Nat) (μ : AMem) (b : Bool), i + k = 19 → Same m0 μ → ((∃ j : Nat, j < i ∧ frameD (j : Int) xs = some ds) → b = true) →
      ∃ μ', overdublaw08_FrameBack_L1 [.s y, .s z] [.s (.bool b), .s (.int .i64 (i : Int))] μ = some (.exit 0, [.s (.bool true)], μ') ∧ Same m0 μ'
  | 0, i, μ, b, h, hs, hb => by
    obtain ⟨kk, hk⟩ := enc_kind hE
    have := (frame_kind hk).2
    obtain rfl := hb ⟨kk, by omega, hk⟩
    refine ⟨μ, ?_, hs⟩
    rw [overdublaw08_FrameBack_L1_eq, overdublaw08_FrameBack_L1_B_eq]
    simp -implicitDefEqProofs only [le_f (show (18 : Int) < (i : Int) by omega), Option.bind_some, decide_true, decide_false, cond_true, cond_false, seqJ_n, seqJ_r, seqJ_e, headK_c, asB_bool, asI_int, asS_s, asN_int, extrK_0, extrK_1, extrK_2, Bool.not_true, Bool.not_false, Nat.beq_refl]
  | k + 1, i, μ, b, h, hs, hb => by
    have hy1 := hy.same hs
    have c1 := le_t (show (i : Int) ≤ 18 by omega)
    have ei : IntKind.wrap .i64 ((i : Int) + 1) = ((i + 1 : Nat) : Int) := by rw [wr (by omega)]; rfl
    obtain ⟨A1, A2⟩ := frameAs_is hs.wf hy1 (by omega) (i : Int)
    rw [asD_of ht hl] at A1 A2
    cases hf : frameD (i : Int) xs with
    | none =>
      obtain ⟨m1, e1, k1⟩ := A1 hf
      have hi : ¬ (i : Int) = 1 := fun hi => by rw [hi, frame1] at hf; cases hf
      obtain ⟨m2, q1, q2⟩ := back_loop h0 hy hz ht hl hE hh hbl k (i + 1) m1 b (by omega) (hs.trans k1) fun ⟨j, h1, h2⟩ => hb ⟨j, by
        by_cases hj : j = i
        · subst hj; rw [hf] at h2; cases h2
        · omega, h2⟩
      refine ⟨m2, ?_, q2⟩
      rw [overdublaw08_FrameBack_L1_eq, overdublaw08_FrameBack_L1_B_eq]
      simp -implicitDefEqProofs only [c1, e1, eq_f hi, ei, Option.bind_some, decide_true, decide_false, cond_true, cond_false, seqJ_n, seqJ_r, seqJ_e, headK_c, asB_bool, asI_int, asS_s, asN_int, extrK_0, extrK_1, extrK_2, Bool.not_true, Bool.not_false, Nat.beq_refl]
      exact q1
    | some es =>
      obtain ⟨cs, w, m1, hc, e1, k1, o1⟩ := A2 es hf
      have hcl : cs.length ≤ 6000 := by have := frameD_small ht hl.2 hf; have := hc.1; omega
      obtain ⟨u, m2, e2, k2, o2⟩ := decode_is k1.wf o1.row hc.2.1 (by omega)
      have hd := dec_back ht hl hf (Rd.of hc)
      rw [hd] at e2 o2
      simp only [Option.isSome_some, if_true, Option.getD_some] at e2 o2
      have e3 := same_is o2.row ((hy1.same k1).same k2) (by omega)
      rw [decide_eq_true rfl] at e3
      obtain ⟨m3, e4, k4⟩ := kind_is k2.wf (o1.row.same k2) hc.2.1 (by omega)
      have hk : kindZ cs = (i : Int) := kind_back ht hl hf (Rd.of hc) hc.2.1
      rw [hk] at e4
      have hle := enc_le hE (by omega) hf
      have hbc : ¬ ((cs.length : Nat) : Int) < ((bs.length : Nat) : Int) := by have := hh.1; have := hc.1; omega
      have k123 := k1.trans (k2.trans k4)
      have e5 := sameB_is (o1.row.same (k2.trans k4)) ((hz.same hs).same k123) (by omega)
      obtain ⟨m4, q1, q2⟩ := back_loop h0 hy hz ht hl hE hh hbl k (i + 1) m3 (b || decide (cs = bs)) (by omega) (hs.trans k123) fun ⟨j, h1, h2⟩ => by
        by_cases hj : j = i
        · subst hj
          rw [hf] at h2
          obtain rfl := Option.some.inj h2
          rw [decide_eq_true (holds_ext hc hh), Bool.or_true]
        · rw [hb ⟨j, by omega, h2⟩, Bool.true_or]
      refine ⟨m4, ?_, q2⟩
      rw [overdublaw08_FrameBack_L1_eq, overdublaw08_FrameBack_L1_B_eq]
      cases b
      · rw [Bool.false_or] at q1
        simp -implicitDefEqProofs only [c1, e1, e2, ne_f (rfl : (0 : Int) = 0), e3, o1.row.len, (hz.same hs).len, decide_eq_false hbc, e4, ne_f (rfl : (i : Int) = _), e5, ei, Option.bind_some, decide_true, decide_false, cond_true, cond_false, seqJ_n, seqJ_r, seqJ_e, headK_c, asB_bool, asI_int, asS_s, asN_int, extrK_0, extrK_1, extrK_2, Bool.not_true, Bool.not_false, Nat.beq_refl]
        exact q1
      · rw [Bool.true_or] at q1
        simp -implicitDefEqProofs only [c1, e1, e2, ne_f (rfl : (0 : Int) = 0), e3, o1.row.len, (hz.same hs).len, decide_eq_false hbc, e4, ne_f (rfl : (i : Int) = _), ei, Option.bind_some, decide_true, decide_false, cond_true, cond_false, seqJ_n, seqJ_r, seqJ_e, headK_c, asB_bool, asI_int, asS_s, asN_int, extrK_0, extrK_1, extrK_2, Bool.not_true, Bool.not_false, Nat.beq_refl]
        exact q1
theorem pureFrameBack (x0 : Arg) (z0 : List Int) (s0 : Arg.isRow .i64 z0 x0) (w0 : ∀ n ∈ z0, (Lit.int .i64 n).wf = true) (y0 : z0.length * 8 ≤ 140737488351232) (a1 : Int) (w1 : (Lit.int .i64 a1).wf = true) (a2 : Int) (w2 : (Lit.int .i64 a2).wf = true) (a3 : Int) (w3 : (Lit.int .i64 a3).wf = true) :
    ∃ μ', overdublaw08_FrameBack (argVals 0 [x0, .i .i64 a1, .i .i64 a2, .i .i64 a3]) (argMem [x0, .i .i64 a1, .i .i64 a2, .i .i64 a3]) = some (.s (.bool true), μ') := by
  obtain ⟨a, ha, hx⟩ := IsRow.arg (l := [x0, .i .i64 a1, .i .i64 a2, .i .i64 a3]) (j := 0) s0 rfl
  have hw := WF.args [x0, .i .i64 a1, .i .i64 a2, .i .i64 a3]
  show ∃ μ', overdublaw08_FrameBack [x0.val 0, .s (.int .i64 a1), .s (.int .i64 a2), .s (.int .i64 a3)] _ = _
  rw [ha]
  generalize argMem [x0, .i .i64 a1, .i .i64 a2, .i .i64 a3] = μ at *
  have key : ∀ (m : AMem) (y : SV) (xs : List Int), WF m → IsRow m .i64 y xs → tame xs → xs.length ≤ 64 →
      (xs.length = 0 → ∃ z m1 m2, frame_Encode [.s y] m = some (.tuple [.s z, .s (.int .i64 4)], m1) ∧ overdublaw08_wakes [] m1 = some (.s (.bool true), m2)) ∧
      (¬ xs.length = 0 → ∃ z bs u m1 m2 m3 m4, frame_Encode [.s y] m = some (.tuple [.s z, .s (.int .i64 0)], m1) ∧ frame_Decode [.s z] m1 = some (.tuple [.s u, .s (.int .i64 0)], m2) ∧ overdubkeep_Same_int [.s u, .s y] m2 = some (.s (.bool true), m2) ∧ lenS (.s z) = some bs ∧ ¬ ((bs : Nat) : Int) > IntKind.wrap .i64 (2 + IntKind.wrap .i64 (3 * (xs.length : Int))) ∧
        overdublaw08_FrameBack_L1 [.s y, .s z] [.s (.bool false), .s (.int .i64 0)] m2 = some (.exit 0, [.s (.bool true)], m3) ∧ overdublaw08_wakes [] m3 = some (.s (.bool true), m4)) := by
    intro m y xs hm hy ht hl
    refine ⟨fun h0 => ?_, fun h0 => ?_⟩
    · have hE : encE xs = 4 := by unfold encE; rw [if_pos (by omega)]
      have e1 := (encode_is hm hy (by omega)).1 (by rw [hE]; omega)
      rw [hE] at e1
      obtain ⟨m2, e2⟩ := wakes_is m hm
      exact ⟨_, m, m2, e1, e2⟩
    · have hl' : 1 ≤ xs.length ∧ xs.length ≤ 64 := by omega
      have hE : encE xs = 0 := by unfold encE; rw [if_neg (by omega), checkZ_tame ht hl]
      obtain ⟨ds, bs, z, m1, hds, hh, e1, k1, f1⟩ := (encode_is hm hy (by omega)).2 hE
      have hbl : bs.length ≤ 6000 := by have := encD_small ht hl hds; have := hh.1; omega
      obtain ⟨u, m2, e2, k2, o2⟩ := decode_is k1.wf f1.own.row hh.2.1 (by omega)
      rw [enc_back ht hl' hds (Rd.of hh)] at e2 o2
      simp only [Option.isSome_some, if_true, Option.getD_some] at e2 o2
      have hy2 := hy.same (k1.trans k2)
      have hz2 := f1.own.row.same k2
      have e3 := same_is o2.row hy2 (by omega)
      rw [decide_eq_true rfl] at e3
      have hle := enc_le hds (j := 1) (by omega) (frame1 xs)
      rw [List.length_append, head_len, smpD_len] at hle
      obtain ⟨m3, e4, k4⟩ := back_loop k2.wf hy2 hz2 ht hl' hds hh hbl 19 0 m2 false (by omega) (Keep.refl k2.wf) fun ⟨j, h1, _⟩ => by omega
      obtain ⟨m4, e5⟩ := wakes_is m3 k4.wf
      refine ⟨z, bs.length, u, m1, m2, m3, m4, e1, e2, e3, f1.own.row.len, ?_, e4, e5⟩
      rw [wr (n := 3 * (xs.length : Int)) (by omega), wr (by omega)]
      have := hh.1
      omega
  rw [overdublaw08_FrameBack_eq]
  have fin : ∀ (m : AMem) (y : SV) (xs : List Int), WF m → IsRow m .i64 y xs → tame xs → xs.length ≤ 64 → ((∃ e : ¬ Int.tmod a1 3 = 0, overdublaw08_Tone [.s a, .s (.int .i64 a3), .s (.int .i64 a1), .s (.int .i64 a2)] μ = some (.s y, m)) ∨ (∃ e : Int.tmod a1 3 = 0, overdubkeep_Samples [.s a, .s (.int .i64 64), .s (.bool false)] μ = some (.s y, m))) → ∃ μ', overdublaw08_FrameBack [.s a, .s (.int .i64 a1), .s (.int .i64 a2), .s (.int .i64 a3)] μ = some (.s (.bool true), μ') := by
    intro m y xs hm hy ht hl hT
    obtain ⟨q1, q2⟩ := key m y xs hm hy ht hl
    rw [overdublaw08_FrameBack_eq]
    by_cases z : xs.length = 0
    · obtain ⟨w, m1, m2, f1, f2⟩ := q1 z
      refine ⟨m2, ?_⟩
      rcases hT with ⟨h1, h2⟩ | ⟨h1, h2⟩
      · simp -implicitDefEqProofs only [ne_t h1, h2, hy.len, z, n0, BEq.rfl, f1, f2, Option.bind_some, decide_true, decide_false, cond_true, cond_false, seqJ_n, seqJ_r, seqJ_e, headK_c, asB_bool, asI_int, asS_s, asN_int, extrK_0, extrK_1, extrK_2, Bool.not_true, Bool.not_false, Nat.beq_refl]
      · simp -implicitDefEqProofs only [ne_f h1, h2, hy.len, z, n0, BEq.rfl, f1, f2, Option.bind_some, decide_true, decide_false, cond_true, cond_false, seqJ_n, seqJ_r, seqJ_e, headK_c, asB_bool, asI_int, asS_s, asN_int, extrK_0, extrK_1, extrK_2, Bool.not_true, Bool.not_false, Nat.beq_refl]
    · obtain ⟨w, bl, u, m1, m2, m3, m4, f1, f2, f3, f4, f5, f6, f7⟩ := q2 z
      have hz := eq_f (show ¬ ((xs.length : Nat) : Int) = 0 by omega)
      refine ⟨m4, ?_⟩
      rcases hT with ⟨h1, h2⟩ | ⟨h1, h2⟩
      · simp -implicitDefEqProofs only [ne_t h1, h2, hy.len, hz, f1, f2, ne_f (rfl : (0 : Int) = 0), f3, f4, decide_eq_false f5, f6, f7, Option.bind_some, decide_true, decide_false, cond_true, cond_false, seqJ_n, seqJ_r, seqJ_e, headK_c, asB_bool, asI_int, asS_s, asN_int, extrK_0, extrK_1, extrK_2, Bool.not_true, Bool.not_false, Nat.beq_refl]
      · simp -implicitDefEqProofs only [ne_f h1, h2, hy.len, hz, f1, f2, ne_f (rfl : (0 : Int) = 0), f3, f4, decide_eq_false f5, f6, f7, Option.bind_some, decide_true, decide_false, cond_true, cond_false, seqJ_n, seqJ_r, seqJ_e, headK_c, asB_bool, asI_int, asS_s, asN_int, extrK_0, extrK_1, extrK_2, Bool.not_true, Bool.not_false, Nat.beq_refl]
  rw [← overdublaw08_FrameBack_eq]
  by_cases c3 : Int.tmod a1 3 = 0
  · obtain ⟨X, m1, e1, k1, o1⟩ := samples_is hw 64 false hx w0 (by omega)
    rw [show ((64 : Nat) : Int) = 64 from rfl] at e1
    exact fin m1 X _ k1.wf o1.row samples_tame (by simp; omega) (.inr ⟨c3, e1⟩)
  · obtain ⟨X, m1, xs, e1, k1, o1, hl, ht⟩ := tone_is hw hx w0 (n := a3) (s2 := a1) (p3 := a2) (wf64 w3) (wf64 w1) (wf64 w2)
    have hm2 := Int.emod_lt_of_pos a3 (show (0 : Int) < 65 by omega)
    exact fin m1 X xs k1.wf o1.row (near_tame ht) (by omega) (.inl ⟨c3, e1⟩)
end Go.Proofs.Ytadhelkiinaenaa
