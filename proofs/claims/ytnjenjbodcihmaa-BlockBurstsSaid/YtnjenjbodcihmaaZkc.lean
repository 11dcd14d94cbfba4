/- What the functions come to. -/
import Derived.Test.YtnjenjbodcihmaaZkb
/- Samples that go on: how many there are, and that they may be. -/
namespace Go.Proofs.Ytnjenjbodcihmaa
open Go Go.Proofs.Ytnjenjbodcihmaa.E
set_option linter.unusedVariables false
set_option linter.unusedSimpArgs false
/-- Numbers that are near nought. -/
def near (l : List Int) : Prop := ∀ v ∈ l, -300000 ≤ v ∧ v ≤ 300000
theorem near_tame {l : List Int} (h : near l) : tame l := fun v hv => by have := h v hv; omega
def toneV (a b c i k : Int) : Int := if k = 1 then a + b * i else if k = 2 then a + (b * i + c * i * i) else if k = 3 then a + b * (i % 7) else a
theorem toneV_le {a b c : Int} {i : Nat} (ha : -50000 ≤ a ∧ a ≤ 50000) (hb : -1000 ≤ b ∧ b ≤ 1000) (hc : -20 ≤ c ∧ c ≤ 20) (hi : i ≤ 64) (k : Int) : (-64000 ≤ b * (i : Int) ∧ b * (i : Int) ≤ 64000) ∧ (-1280 ≤ c * (i : Int) ∧ c * (i : Int) ≤ 1280) ∧ (-81920 ≤ c * (i : Int) * (i : Int) ∧ c * (i : Int) * (i : Int) ≤ 81920) ∧ (-7000 ≤ b * ((i : Int) % 7) ∧ b * ((i : Int) % 7) ≤ 7000) ∧ -200000 ≤ toneV a b c i k ∧ toneV a b c i k ≤ 200000 := by
  have h1 := prod_le (a := b) (b := (i : Int)) (A := 1000) (B := 64) (by omega) (by omega) (by omega) (by omega)
  have h2 := prod_le (a := c) (b := (i : Int)) (A := 20) (B := 64) (by omega) (by omega) (by omega) (by omega)
  have h3 := prod_le (a := c * (i : Int)) (b := (i : Int)) (A := 1280) (B := 64) (by omega) (by omega) (by omega) (by omega)
  have h4 := prod_le (a := b) (b := (i : Int) % 7) (A := 1000) (B := 7) (by omega) (by omega) (by omega) (by omega)
  unfold toneV
  refine ⟨by omega, by omega, by omega, by omega, ?_⟩
  split
  · omega
  · split
    · omega
    · split <;> omega
theorem tone1 {a b c s2 : Int} {i : Nat} (ha : -50000 ≤ a ∧ a ≤ 50000) (hb : -1000 ≤ b ∧ b ≤ 1000) (hc : -20 ≤ c ∧ c ≤ 20) (hi : i ≤ 64) (h2 : -9223372036854775808 ≤ s2 ∧ s2 ≤ 9223372036854775807) (μ : AMem) :
    ((overdubkeep_Within [.s (.int .i64 s2), .s (.int .i64 4)] μ).bind fun r51 =>
      asI .i64 r51.1 fun n52 =>
      bif (n52 == 1) then
      (some (.normal, [.s (.int .i64 (IntKind.wrap .i64 (a + (IntKind.wrap .i64 (b * (i : Int))))))], r51.2))
      else
      (bif (n52 == 2) then
        (some (.normal, [.s (.int .i64 (IntKind.wrap .i64 (a + (IntKind.wrap .i64 ((IntKind.wrap .i64 (b * (i : Int))) + (IntKind.wrap .i64 ((IntKind.wrap .i64 (c * (i : Int))) * (i : Int))))))))], r51.2))
        else
        (bif (n52 == 3) then
          (some (.normal, [.s (.int .i64 (IntKind.wrap .i64 (a + (IntKind.wrap .i64 (b * (Int.tmod (i : Int) 7))))))], r51.2))
          else
          (some (.normal, [.s (.int .i64 a)], r51.2))))) = (some (.normal, [.s (.int .i64 (toneV a b c i (s2 % 4)))], μ) : Option Res) := by
  have w := within_is s2 4 h2 (by omega) (by omega) μ
  obtain ⟨t1, t2, t3, t4, _⟩ := toneV_le ha hb hc hi 0
  have m7 : Int.tmod (i : Int) 7 = (i : Int) % 7 := Int.tmod_eq_emod_of_nonneg (by omega)
  unfold toneV
  by_cases k1 : s2 % 4 = 1
  · rw [if_pos k1]
    have e : IntKind.wrap .i64 (a + (IntKind.wrap .i64 (b * (i : Int)))) = a + b * (i : Int) := by rw [wr (n := b * (i : Int)) (by omega), wr (by omega)]
    simp -implicitDefEqProofs only [w, eq_t k1, e, Option.bind_some, decide_true, decide_false, cond_true, cond_false, seqJ_n, seqJ_r, seqJ_e, headK_c, asB_bool, asI_int, asS_s, asN_int, extrK_0, extrK_1, extrK_2, Bool.not_true, Bool.not_false, Nat.beq_refl]
  · by_cases k2 : s2 % 4 = 2
    · rw [if_neg k1, if_pos k2]
      have e : IntKind.wrap .i64 (a + (IntKind.wrap .i64 ((IntKind.wrap .i64 (b * (i : Int))) + (IntKind.wrap .i64 ((IntKind.wrap .i64 (c * (i : Int))) * (i : Int)))))) = a + (b * (i : Int) + c * (i : Int) * (i : Int)) := by
        rw [wr (n := b * (i : Int)) (by omega), wr (n := c * (i : Int)) (by omega), wr (n := c * (i : Int) * (i : Int)) (by omega), wr (n := b * (i : Int) + c * (i : Int) * (i : Int)) (by omega), wr (by omega)]
      simp -implicitDefEqProofs only [w, eq_f k1, eq_t k2, e, Option.bind_some, decide_true, decide_false, cond_true, cond_false, seqJ_n, seqJ_r, seqJ_e, headK_c, asB_bool, asI_int, asS_s, asN_int, extrK_0, extrK_1, extrK_2, Bool.not_true, Bool.not_false, Nat.beq_refl]
    · by_cases k3 : s2 % 4 = 3
      · rw [if_neg k1, if_neg k2, if_pos k3]
        have e : IntKind.wrap .i64 (a + (IntKind.wrap .i64 (b * (Int.tmod (i : Int) 7)))) = a + b * ((i : Int) % 7) := by rw [m7, wr (n := b * ((i : Int) % 7)) (by omega), wr (by omega)]
        simp -implicitDefEqProofs only [w, eq_f k1, eq_f k2, eq_t k3, e, Option.bind_some, decide_true, decide_false, cond_true, cond_false, seqJ_n, seqJ_r, seqJ_e, headK_c, asB_bool, asI_int, asS_s, asN_int, extrK_0, extrK_1, extrK_2, Bool.not_true, Bool.not_false, Nat.beq_refl]
      · rw [if_neg k1, if_neg k2, if_neg k3]
        simp -implicitDefEqProofs only [w, eq_f k1, eq_f k2, eq_f k3, Option.bind_some, decide_true, decide_false, cond_true, cond_false, seqJ_n, seqJ_r, seqJ_e, headK_c, asB_bool, asI_int, asS_s, asN_int, extrK_0, extrK_1, extrK_2, Bool.not_true, Bool.not_false, Nat.beq_refl]
theorem tone_loop {μ0 : AMem} (h0 : WF μ0) {x : SV} {zs : List Int} (hx : IsRow μ0 .i64 x zs) (hz : ∀ v ∈ zs, (Lit.int .i64 v).wf = true) {a b c s2 s3 : Int} {n : Nat} (hn : n ≤ 64) (ha : -50000 ≤ a ∧ a ≤ 50000) (hb : -1000 ≤ b ∧ b ≤ 1000) (hc : -20 ≤ c ∧ c ≤ 20) (h2 : -9223372036854775808 ≤ s2 ∧ s2 ≤ 9223372036854775807) (h3 : 0 ≤ s3 ∧ s3 < 4000) :
    ∀ (k i : Nat) (μ : AMem) (y : SV) (ys : List Int), i + k = n → ys.length = i → near ys → Same μ0 μ → OwnRow μ0.next μ .i64 3 y ys →
      ∃ y' μ' ys', overdublaw08_Tone_L1 [.s x, .s (.int .i64 (n : Int)), .s (.int .i64 s2), .s (.int .i64 s3), .s (.int .i64 a), .s (.int .i64 b), .s (.int .i64 c)] [.s y, .s (.int .i64 (i : Int))] μ = some (.exit 0, [.s y'], μ') ∧ Same μ0 μ' ∧ OwnRow μ0.next μ' .i64 3 y' ys' ∧ ys'.length = n ∧ near ys'
  | 0, i, μ, y, ys, h, hl, ht, hs, hy => by
    refine ⟨y, μ, ys, ?_, hs, hy, by omega, ht⟩
    rw [overdublaw08_Tone_L1_eq, overdublaw08_Tone_L1_B_eq]
    simp -implicitDefEqProofs (disch := omega) only [lt_t, lt_f, gt_t, gt_f, le_t, le_f, ge_t, ge_f, ne_t, ne_f, eq_t, eq_f, w64, chk_true, Option.bind_some, decide_true, decide_false, cond_true, cond_false, seqJ_n, seqJ_r, seqJ_e, headK_c, asB_bool, asI_int, asS_s, asN_int, extrK_0, extrK_1, extrK_2, Bool.not_true, Bool.not_false, Nat.beq_refl]
  | k + 1, i, μ, y, ys, h, hl, ht, hs, hy => by
    have hx1 := hx.same hs
    have ht1 := tone1 (s2 := s2) ha hb hc (show i ≤ 64 by omega) h2 μ
    obtain ⟨_, _, _, _, hv1, hv2⟩ := toneV_le ha hb hc (show i ≤ 64 by omega) (s2 % 4)
    have c1 := lt_t (show (i : Int) < (n : Int) by omega)
    have ei : IntKind.wrap .i64 ((i : Int) + 1) = ((i + 1 : Nat) : Int) := by rw [wr (by omega)]; rfl
    have hgo : ∀ v : Int, -300000 ≤ v ∧ v ≤ 300000 → ∃ y1 m1 y' μ' ys', (∀ {R : Type} (K : AV → AMem → Option R), appendA 3 1 8 (μ.next + 3) ((μ.bump 5).set (μ.next + 2) (rowObj [.int .i64 v] 1 3 (some 1))) (.s y) (.s (.slice (μ.next + 2) 0 0 1)) K = K (.s y1) m1) ∧
        overdublaw08_Tone_L1 [.s x, .s (.int .i64 (n : Int)), .s (.int .i64 s2), .s (.int .i64 s3), .s (.int .i64 a), .s (.int .i64 b), .s (.int .i64 c)] [.s y1, .s (.int .i64 ((i + 1 : Nat) : Int))] m1 = some (.exit 0, [.s y'], μ') ∧ Same μ0 μ' ∧ OwnRow μ0.next μ' .i64 3 y' ys' ∧ ys'.length = n ∧ near ys' := fun v hv => by
      obtain ⟨y1, m1, p1, p2, p3⟩ := pushS (B := 8) (a := 2) (b := 3) (n := 5) (q := some 1) h0 hs hy v (by omega) (by omega) (by omega) (by omega) (by omega)
      obtain ⟨y', μ', ys', q1, q2⟩ := tone_loop h0 hx hz hn ha hb hc h2 h3 k (i + 1) m1 y1 _ (by omega) (by simp [hl]) (fun u hu => by
        rcases List.mem_append.mp hu with h | h
        · exact ht u h
        · rw [List.mem_singleton.mp h]; exact hv) p2 p3
      exact ⟨y1, m1, y', μ', ys', p1, q1, q2⟩
    by_cases c2 : (i : Int) < (zs.length : Int)
    · by_cases c3 : s3 > 0
      · have w := within_is (zs.getD i 0) s3 (wf64 (hz _ (getD_mem (by omega)))) (by omega) (by omega) μ
        have hm1 := Int.emod_nonneg (zs.getD i 0) (show ¬ s3 = 0 by omega)
        have hm2 := Int.emod_lt_of_pos (zs.getD i 0) (show 0 < s3 by omega)
        obtain ⟨y1, m1, y', μ', ys', p1, q1, q2⟩ := hgo (toneV a b c i (s2 % 4) + zs.getD i 0 % s3) (by omega)
        have ew : IntKind.wrap .i64 (toneV a b c i (s2 % 4) + zs.getD i 0 % s3) = toneV a b c i (s2 % 4) + zs.getD i 0 % s3 := wr (by omega)
        have g1 := fun {R : Type} (K : AV → Option R) => hx1.ind (i := (i : Int)) (by omega) (by omega) K
        have g2 := fun {R : Type} (K : AV → Option R) => hx1.load (i := (i : Int)) (by omega) (by omega) K
        refine ⟨y', μ', ys', ?_, q2⟩
        rw [overdublaw08_Tone_L1_eq, overdublaw08_Tone_L1_B_eq]
        simp -implicitDefEqProofs only [c1, ht1, hx1.len, lt_t c2, gt_t c3, g1, g2, nat_toNat, w, ew, p1, ei, Option.bind_some, decide_true, decide_false, cond_true, cond_false, seqJ_n, seqJ_r, seqJ_e, headK_c, asB_bool, asI_int, asS_s, asN_int, extrK_0, extrK_1, extrK_2, Bool.not_true, Bool.not_false, Nat.beq_refl]
        exact q1
      · obtain ⟨y1, m1, y', μ', ys', p1, q1, q2⟩ := hgo (toneV a b c i (s2 % 4)) (by omega)
        refine ⟨y', μ', ys', ?_, q2⟩
        rw [overdublaw08_Tone_L1_eq, overdublaw08_Tone_L1_B_eq]
        simp -implicitDefEqProofs only [c1, ht1, hx1.len, lt_t c2, gt_f (show s3 ≤ 0 by omega), p1, ei, Option.bind_some, decide_true, decide_false, cond_true, cond_false, seqJ_n, seqJ_r, seqJ_e, headK_c, asB_bool, asI_int, asS_s, asN_int, extrK_0, extrK_1, extrK_2, Bool.not_true, Bool.not_false, Nat.beq_refl]
        exact q1
    · obtain ⟨y1, m1, y', μ', ys', p1, q1, q2⟩ := hgo (toneV a b c i (s2 % 4)) (by omega)
      refine ⟨y', μ', ys', ?_, q2⟩
      rw [overdublaw08_Tone_L1_eq, overdublaw08_Tone_L1_B_eq]
      simp -implicitDefEqProofs only [c1, ht1, hx1.len, lt_f (show (zs.length : Int) ≤ (i : Int) by omega), p1, ei, Option.bind_some, decide_true, decide_false, cond_true, cond_false, seqJ_n, seqJ_r, seqJ_e, headK_c, asB_bool, asI_int, asS_s, asN_int, extrK_0, extrK_1, extrK_2, Bool.not_true, Bool.not_false, Nat.beq_refl]
      exact q1
theorem tone_is {μ : AMem} (h0 : WF μ) {x : SV} {zs : List Int} (hx : IsRow μ .i64 x zs) (hz : ∀ v ∈ zs, (Lit.int .i64 v).wf = true) {n s2 p3 : Int} (hn : -9223372036854775808 ≤ n ∧ n ≤ 9223372036854775807) (h2 : -9223372036854775808 ≤ s2 ∧ s2 ≤ 9223372036854775807) (h3 : -9223372036854775808 ≤ p3 ∧ p3 ≤ 9223372036854775807) :
    ∃ y μ' ys, overdublaw08_Tone [.s x, .s (.int .i64 n), .s (.int .i64 s2), .s (.int .i64 p3)] μ = some (.s y, μ') ∧ Same μ μ' ∧ OwnRow μ.next μ' .i64 3 y ys ∧ ys.length = (n % 65).toNat ∧ near ys := by
  have w1 := within_is n 65 hn (by omega) (by omega) μ
  have w2 := within_is p3 4000 h3 (by omega) (by omega) μ
  have hm1 := Int.emod_nonneg n (show ¬ (65 : Int) = 0 by omega)
  have hm2 := Int.emod_lt_of_pos n (show (0 : Int) < 65 by omega)
  have hp1 := Int.emod_nonneg p3 (show ¬ (4000 : Int) = 0 by omega)
  have hp2 := Int.emod_lt_of_pos p3 (show (0 : Int) < 4000 by omega)
  have hnn : (((n % 65).toNat : Nat) : Int) = n % 65 := by omega
  by_cases c : (zs.length : Int) > 2
  · have g0 := fun {R : Type} (K : AV → Option R) => hx.ind (i := 0) (by omega) (by omega) K
    have l0 := fun {R : Type} (K : AV → Option R) => hx.load (i := 0) (by omega) (by omega) K
    have g1 := fun {R : Type} (K : AV → Option R) => hx.ind (i := 1) (by omega) (by omega) K
    have l1 := fun {R : Type} (K : AV → Option R) => hx.load (i := 1) (by omega) (by omega) K
    have g2 := fun {R : Type} (K : AV → Option R) => hx.ind (i := 2) (by omega) (by omega) K
    have l2 := fun {R : Type} (K : AV → Option R) => hx.load (i := 2) (by omega) (by omega) K
    have e0 : (0 : Int).toNat = 0 := rfl
    have e1 : (1 : Int).toNat = 1 := rfl
    have e2 : (2 : Int).toNat = 2 := rfl
    simp only [e0] at l0
    simp only [e1] at l1
    simp only [e2] at l2
    have v0 := within_is (zs.getD 0 0) 100000 (wf64 (hz _ (getD_mem (by omega)))) (by omega) (by omega) μ
    have v1 := within_is (zs.getD 1 0) 2000 (wf64 (hz _ (getD_mem (by omega)))) (by omega) (by omega) μ
    have v2 := within_is (zs.getD 2 0) 40 (wf64 (hz _ (getD_mem (by omega)))) (by omega) (by omega) μ
    have a1 := Int.emod_nonneg (zs.getD 0 0) (show ¬ (100000 : Int) = 0 by omega)
    have a2 := Int.emod_lt_of_pos (zs.getD 0 0) (show (0 : Int) < 100000 by omega)
    have b1 := Int.emod_nonneg (zs.getD 1 0) (show ¬ (2000 : Int) = 0 by omega)
    have b2 := Int.emod_lt_of_pos (zs.getD 1 0) (show (0 : Int) < 2000 by omega)
    have c1 := Int.emod_nonneg (zs.getD 2 0) (show ¬ (40 : Int) = 0 by omega)
    have c2 := Int.emod_lt_of_pos (zs.getD 2 0) (show (0 : Int) < 40 by omega)
    obtain ⟨y, μ', ys, q1, q2, q3, q4, q5⟩ := tone_loop (s2 := s2) (s3 := p3 % 4000) (n := (n % 65).toNat) (a := zs.getD 0 0 % 100000 - 50000) (b := zs.getD 1 0 % 2000 - 1000) (c := zs.getD 2 0 % 40 - 20) h0 hx hz (by omega) (by omega) (by omega) (by omega) h2 ⟨hp1, hp2⟩ _ 0 μ .nilSlice [] (Nat.zero_add _) rfl (fun _ h => by cases h) (Keep.refl h0) (OwnRow.nil _ _ _ _)
    rw [n0, hnn] at q1
    have x0 : IntKind.wrap .i64 (zs.getD 0 0 % 100000 - 50000) = zs.getD 0 0 % 100000 - 50000 := wr (by omega)
    have x1 : IntKind.wrap .i64 (zs.getD 1 0 % 2000 - 1000) = zs.getD 1 0 % 2000 - 1000 := wr (by omega)
    have x2 : IntKind.wrap .i64 (zs.getD 2 0 % 40 - 20) = zs.getD 2 0 % 40 - 20 := wr (by omega)
    refine ⟨y, μ', ys, ?_, q2, q3, q4, q5⟩
    rw [overdublaw08_Tone_eq]
    simp -implicitDefEqProofs only [w1, w2, hx.len, gt_t c, g0, l0, g1, l1, g2, l2, v0, v1, v2, chk_rfl, chk_true, x0, x1, x2, q1, Option.bind_some, decide_true, decide_false, cond_true, cond_false, seqJ_n, seqJ_r, seqJ_e, headK_c, asB_bool, asI_int, asS_s, asN_int, extrK_0, extrK_1, extrK_2, Bool.not_true, Bool.not_false, Nat.beq_refl]
  · obtain ⟨y, μ', ys, q1, q2, q3, q4, q5⟩ := tone_loop (s2 := s2) (s3 := p3 % 4000) (n := (n % 65).toNat) (a := 0) (b := 0) (c := 0) h0 hx hz (by omega) (by omega) (by omega) (by omega) h2 ⟨hp1, hp2⟩ _ 0 μ .nilSlice [] (Nat.zero_add _) rfl (fun _ h => by cases h) (Keep.refl h0) (OwnRow.nil _ _ _ _)
    rw [n0, hnn] at q1
    refine ⟨y, μ', ys, ?_, q2, q3, q4, q5⟩
    rw [overdublaw08_Tone_eq]
    simp -implicitDefEqProofs only [w1, w2, hx.len, gt_f (show (zs.length : Int) ≤ 2 by omega), q1, Option.bind_some, decide_true, decide_false, cond_true, cond_false, seqJ_n, seqJ_r, seqJ_e, headK_c, asB_bool, asI_int, asS_s, asN_int, extrK_0, extrK_1, extrK_2, Bool.not_true, Bool.not_false, Nat.beq_refl]
end Go.Proofs.Ytnjenjbodcihmaa
