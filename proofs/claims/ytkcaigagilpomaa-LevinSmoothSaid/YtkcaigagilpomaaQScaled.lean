/- Numbers made small: what the program and the reference tell. -/
import Derived.Test.YtkcaigagilpomaaKDown
namespace Go.Proofs.Ytkcaigagilpomaa
open Go Go.Proofs.Ytkcaigagilpomaa.E
set_option linter.unusedVariables false
set_option linter.unusedSimpArgs false
def farB (v : Int) : Bool := decide (v < -1152921504606846976) || decide (v > 1152921504606846976)
def scaleF (r : Int) : Nat → Nat → Nat
  | 0, s => s
  | f + 1, s => if r / 2 ^ s ≥ 1073741824 then scaleF r f (s + 1) else s
def scaleS (r : Int) : Nat := scaleF r 40 0
def noScale (zs : List Int) : Bool := zs.isEmpty || decide (zs.getD 0 0 < 0) || zs.any farB
def scaledE (zs : List Int) : Nat := if noScale zs then 0 else scaleS (zs.getD 0 0)
def scaledZ (zs : List Int) : List Int := if noScale zs then [] else zs.map fun v => v / 2 ^ scaledE zs
theorem scaleF_le (r : Int) : ∀ f s, scaleF r f s ≤ s + f
  | 0, s => Nat.le_refl _
  | f + 1, s => by
    unfold scaleF; split
    · have := scaleF_le r f (s + 1); omega
    · omega
theorem scaledE_le (zs : List Int) : scaledE zs ≤ 40 := by
  unfold scaledE scaleS; split
  · omega
  · have := scaleF_le (zs.getD 0 0) 40 0; omega
theorem fdivp (z : Int) (n : Nat) : Int.fdiv z (2 ^ n) = z / 2 ^ n := Int.fdiv_eq_ediv_of_nonneg _ (Int.le_of_lt (Int.pow_pos (by omega)))
theorem end40 {r : Int} (h0 : 0 ≤ r) (h1 : r ≤ 1152921504606846976) : ¬ r / 2 ^ (40 : Nat) ≥ 1073741824 := by
  have : r / 2 ^ (40 : Nat) ≤ 1152921504606846976 / 2 ^ (40 : Nat) := Int.ediv_le_ediv (by decide) h1
  have h2 : (1152921504606846976 : Int) / 2 ^ (40 : Nat) = 1048576 := by decide
  omega
theorem min40 {s : Nat} (h : s ≤ 40) : min (Int.toNat (s : Int)) (IntKind.bits .i64) = s := by show min (Int.toNat (s : Int)) 64 = s; omega
theorem u64_nat {s : Nat} (h : s ≤ 40) : IntKind.wrap .u64 (s : Int) = s := by simp [IntKind.wrap, IntKind.signed, IntKind.bits]; omega
theorem pow40 {s : Nat} (h : s ≤ 40) : (1 : Int) ≤ 2 ^ s ∧ (2 : Int) ^ s ≤ 1099511627776 := by
  have h1 : (2 : Nat) ^ s ≤ 2 ^ 40 := Nat.pow_le_pow_right (by omega) h
  have h2 : 1 ≤ (2 : Nat) ^ s := Nat.one_le_two_pow
  have e : ((2 : Int) ^ s) = ((2 ^ s : Nat) : Int) := by simp
  rw [e]
  have h3 : (2 : Nat) ^ 40 = 1099511627776 := by decide
  omega
theorem scaled_far {μ : AMem} {x : SV} {zs : List Int} (hx : IsRow μ .i64 x zs) (hb : zs.length ≤ 4611686018427387904) :
    ∀ k i : Nat, i + k = zs.length → levin_Scaled_L1 [.s x, .s x, .s (.int .i64 zs.length)] [.s (.int .i64 i)] μ = if (zs.drop i).any farB then some (.ret, [.s .nilSlice, .s (.int .i64 0)], μ) else some (.exit 0, [.s x], μ)
  | 0, i, h => by
    have h1 : ¬ (i : Int) < (zs.length : Int) := by omega
    rw [levin_Scaled_L1_eq, levin_Scaled_L1_B_eq, List.drop_eq_nil_of_le (by omega)]
    simp only [h1, List.any_nil, Bool.false_eq_true, if_false, Option.bind_some, decide_true, decide_false, cond_true, cond_false, seqJ_n, seqJ_r, seqJ_e, headK_c, asB_bool, asI_int, asS_s, asN_int, extrK_0, extrK_1, extrK_2, Bool.not_true, Bool.not_false, Nat.beq_refl]
  | k + 1, i, h => by
    have ih := scaled_far hx hb k (i + 1) (by omega)
    have h1 : (i : Int) < (zs.length : Int) := by omega
    have e1 : IntKind.wrap .i64 ((i : Int) + 1) = ((i + 1 : Nat) : Int) := by rw [wr (by omega)]; omega
    have e3 : (((i : Nat) : Int)).toNat = i := by omega
    have hi : i < zs.length := by omega
    have g1 : zs.getD i 0 = zs[i] := by rw [List.getD_eq_getElem?_getD, List.getElem?_eq_getElem hi]; rfl
    rw [levin_Scaled_L1_eq, levin_Scaled_L1_B_eq, List.drop_eq_getElem_cons hi]
    simp only [h1, Option.bind_some, decide_true, decide_false, cond_true, cond_false, seqJ_n, seqJ_r, seqJ_e, headK_c, asB_bool, asI_int, asS_s, asN_int, extrK_0, extrK_1, extrK_2, Bool.not_true, Bool.not_false, Nat.beq_refl]
    rw [hx.ind (by omega) h1, hx.load (by omega) h1, asI_int, e3, g1]
    simp only [List.any_cons]
    by_cases c1 : zs[i] < -1152921504606846976
    · have ho : farB zs[i] = true := by simp [farB]; omega
      simp only [c1, ho, Bool.true_or, if_true, Option.bind_some, decide_true, decide_false, cond_true, cond_false, seqJ_n, seqJ_r, seqJ_e, headK_c, asB_bool, asI_int, asS_s, asN_int, extrK_0, extrK_1, extrK_2, Bool.not_true, Bool.not_false, Nat.beq_refl]
    · by_cases c2 : zs[i] > 1152921504606846976
      · have ho : farB zs[i] = true := by simp [farB]; omega
        simp only [c1, c2, ho, Bool.true_or, if_true, Option.bind_some, decide_true, decide_false, cond_true, cond_false, seqJ_n, seqJ_r, seqJ_e, headK_c, asB_bool, asI_int, asS_s, asN_int, extrK_0, extrK_1, extrK_2, Bool.not_true, Bool.not_false, Nat.beq_refl]
      · have ho : farB zs[i] = false := by simp [farB]; omega
        simp only [c1, c2, ho, Bool.false_or, e1, Option.bind_some, decide_true, decide_false, cond_true, cond_false, seqJ_n, seqJ_r, seqJ_e, headK_c, asB_bool, asI_int, asS_s, asN_int, extrK_0, extrK_1, extrK_2, Bool.not_true, Bool.not_false, Nat.beq_refl]
        exact ih
theorem refScaled_far {μ : AMem} {x : SV} {zs : List Int} (hx : IsRow μ .i64 x zs) (hb : zs.length ≤ 4611686018427387904) :
    ∀ k i : Nat, i + k = zs.length → overdubref05_Scaled_L1 [.s x, .s (.int .i64 zs.length)] [.s (.int .i64 i)] μ = if (zs.drop i).any farB then some (.ret, [.s .nilSlice, .s (.int .i64 0)], μ) else some (.exit 0, [.s x], μ)
  | 0, i, h => by
    have h1 : ¬ (i : Int) < (zs.length : Int) := by omega
    rw [overdubref05_Scaled_L1_eq, overdubref05_Scaled_L1_B_eq, List.drop_eq_nil_of_le (by omega)]
    simp only [h1, List.any_nil, Bool.false_eq_true, if_false, Option.bind_some, decide_true, decide_false, cond_true, cond_false, seqJ_n, seqJ_r, seqJ_e, headK_c, asB_bool, asI_int, asS_s, asN_int, extrK_0, extrK_1, extrK_2, Bool.not_true, Bool.not_false, Nat.beq_refl]
  | k + 1, i, h => by
    have ih := refScaled_far hx hb k (i + 1) (by omega)
    have h1 : (i : Int) < (zs.length : Int) := by omega
    have e1 : IntKind.wrap .i64 ((i : Int) + 1) = ((i + 1 : Nat) : Int) := by rw [wr (by omega)]; omega
    have e3 : (((i : Nat) : Int)).toNat = i := by omega
    have hi : i < zs.length := by omega
    have g1 : zs.getD i 0 = zs[i] := by rw [List.getD_eq_getElem?_getD, List.getElem?_eq_getElem hi]; rfl
    rw [overdubref05_Scaled_L1_eq, overdubref05_Scaled_L1_B_eq, List.drop_eq_getElem_cons hi]
    simp only [h1, Option.bind_some, decide_true, decide_false, cond_true, cond_false, seqJ_n, seqJ_r, seqJ_e, headK_c, asB_bool, asI_int, asS_s, asN_int, extrK_0, extrK_1, extrK_2, Bool.not_true, Bool.not_false, Nat.beq_refl]
    rw [hx.ind (by omega) h1, hx.load (by omega) h1, asI_int, hx.ind (by omega) h1, hx.load (by omega) h1, asI_int, e3, g1]
    simp only [List.any_cons]
    by_cases c1 : zs[i] < -1152921504606846976
    · have ho : farB zs[i] = true := by simp [farB]; omega
      simp only [c1, ho, Bool.true_or, if_true, Option.bind_some, decide_true, decide_false, cond_true, cond_false, seqJ_n, seqJ_r, seqJ_e, headK_c, asB_bool, asI_int, asS_s, asN_int, extrK_0, extrK_1, extrK_2, Bool.not_true, Bool.not_false, Nat.beq_refl]
    · by_cases c2 : zs[i] > 1152921504606846976
      · have ho : farB zs[i] = true := by simp [farB]; omega
        simp only [c1, c2, ho, Bool.true_or, if_true, Option.bind_some, decide_true, decide_false, cond_true, cond_false, seqJ_n, seqJ_r, seqJ_e, headK_c, asB_bool, asI_int, asS_s, asN_int, extrK_0, extrK_1, extrK_2, Bool.not_true, Bool.not_false, Nat.beq_refl]
      · have ho : farB zs[i] = false := by simp [farB]; omega
        simp only [c1, c2, ho, Bool.false_or, e1, Option.bind_some, decide_true, decide_false, cond_true, cond_false, seqJ_n, seqJ_r, seqJ_e, headK_c, asB_bool, asI_int, asS_s, asN_int, extrK_0, extrK_1, extrK_2, Bool.not_true, Bool.not_false, Nat.beq_refl]
        exact ih
theorem scaled_shift {μ : AMem} {x : SV} {zs : List Int} (hx : IsRow μ .i64 x zs) (hp : 0 < zs.length) (h0 : 0 ≤ zs.getD 0 0) (h1 : zs.getD 0 0 ≤ 1152921504606846976) :
    ∀ f s : Nat, s + f = 40 → levin_Scaled_L2 [.s x] [.s (.int .i64 s)] μ = some (.exit 2, [.s x, .s (.int .i64 (scaleF (zs.getD 0 0) f s : Nat))], μ)
  | 0, s, h => by
    obtain rfl : s = 40 := by omega
    have h2 := end40 h0 h1
    have h3 : ¬ (((40 : Nat) : Int)) < 0 := by omega
    rw [levin_Scaled_L2_eq, levin_Scaled_L2_B_eq, hx.ind (by omega) (by omega), hx.load (by omega) (by omega), asI_int, if_neg h3]
    simp only [Int.toNat_zero, min40 (Nat.le_refl 40), fdivp, h2, scaleF, Option.bind_some, decide_true, decide_false, cond_true, cond_false, seqJ_n, seqJ_r, seqJ_e, headK_c, asB_bool, asI_int, asS_s, asN_int, extrK_0, extrK_1, extrK_2, Bool.not_true, Bool.not_false, Nat.beq_refl]
  | f + 1, s, h => by
    have ih := scaled_shift hx hp h0 h1 f (s + 1) (by omega)
    have h3 : ¬ ((s : Nat) : Int) < 0 := by omega
    have e1 : IntKind.wrap .i64 ((s : Int) + 1) = ((s + 1 : Nat) : Int) := by rw [wr (by omega)]; omega
    rw [levin_Scaled_L2_eq, levin_Scaled_L2_B_eq, hx.ind (by omega) (by omega), hx.load (by omega) (by omega), asI_int, if_neg h3]
    simp only [Int.toNat_zero, min40 (show s ≤ 40 by omega), fdivp, scaleF, e1]
    by_cases c : zs.getD 0 0 / 2 ^ s ≥ 1073741824
    · simp only [c, if_true, Option.bind_some, decide_true, decide_false, cond_true, cond_false, seqJ_n, seqJ_r, seqJ_e, headK_c, asB_bool, asI_int, asS_s, asN_int, extrK_0, extrK_1, extrK_2, Bool.not_true, Bool.not_false, Nat.beq_refl]; exact ih
    · simp only [c, if_false, Option.bind_some, decide_true, decide_false, cond_true, cond_false, seqJ_n, seqJ_r, seqJ_e, headK_c, asB_bool, asI_int, asS_s, asN_int, extrK_0, extrK_1, extrK_2, Bool.not_true, Bool.not_false, Nat.beq_refl]
theorem refScaled_shift {μ : AMem} {x : SV} {zs : List Int} (hx : IsRow μ .i64 x zs) (hp : 0 < zs.length) (h0 : 0 ≤ zs.getD 0 0) (h1 : zs.getD 0 0 ≤ 1152921504606846976) :
    ∀ f s : Nat, s + f = 40 → overdubref05_Scaled_L2 [.s x] [.s (.int .i64 s)] μ = some (.exit 2, [.s x, .s (.int .i64 (scaleF (zs.getD 0 0) f s : Nat))], μ)
  | 0, s, h => by
    obtain rfl : s = 40 := by omega
    have h2 := end40 h0 h1
    have h3 : ¬ (((40 : Nat) : Int)) < 0 := by omega
    have hp2 := pow40 (Nat.le_refl 40)
    rw [overdubref05_Scaled_L2_eq, overdubref05_Scaled_L2_B_eq, hx.ind (by omega) (by omega), hx.load (by omega) (by omega), asI_int, u64_nat (Nat.le_refl 40), if_neg h3, min40 (Nat.le_refl 40), Int.one_mul,
      wr (n := (2 : Int) ^ (40 : Nat)) (by omega), down_is _ _ hp2.1 (by rw [Int.toNat_zero]; omega)]
    simp only [Int.toNat_zero, h2, scaleF, Option.bind_some, decide_true, decide_false, cond_true, cond_false, seqJ_n, seqJ_r, seqJ_e, headK_c, asB_bool, asI_int, asS_s, asN_int, extrK_0, extrK_1, extrK_2, Bool.not_true, Bool.not_false, Nat.beq_refl]
  | f + 1, s, h => by
    have ih := refScaled_shift hx hp h0 h1 f (s + 1) (by omega)
    have h3 : ¬ ((s : Nat) : Int) < 0 := by omega
    have e1 : IntKind.wrap .i64 ((s : Int) + 1) = ((s + 1 : Nat) : Int) := by rw [wr (by omega)]; omega
    have hs : s ≤ 40 := by omega
    have hp2 := pow40 hs
    rw [overdubref05_Scaled_L2_eq, overdubref05_Scaled_L2_B_eq, hx.ind (by omega) (by omega), hx.load (by omega) (by omega), asI_int, u64_nat hs, if_neg h3, min40 hs, Int.one_mul,
      wr (n := (2 : Int) ^ s) (by omega), down_is _ _ hp2.1 (by rw [Int.toNat_zero]; omega)]
    simp only [Int.toNat_zero, scaleF, e1, Option.bind_some, decide_true, decide_false, cond_true, cond_false, seqJ_n, seqJ_r, seqJ_e, headK_c, asB_bool, asI_int, asS_s, asN_int, extrK_0, extrK_1, extrK_2, Bool.not_true, Bool.not_false, Nat.beq_refl]
    by_cases c : zs.getD 0 0 / 2 ^ s ≥ 1073741824
    · simp only [c, if_true, Option.bind_some, decide_true, decide_false, cond_true, cond_false, seqJ_n, seqJ_r, seqJ_e, headK_c, asB_bool, asI_int, asS_s, asN_int, extrK_0, extrK_1, extrK_2, Bool.not_true, Bool.not_false, Nat.beq_refl]; exact ih
    · simp only [c, if_false, Option.bind_some, decide_true, decide_false, cond_true, cond_false, seqJ_n, seqJ_r, seqJ_e, headK_c, asB_bool, asI_int, asS_s, asN_int, extrK_0, extrK_1, extrK_2, Bool.not_true, Bool.not_false, Nat.beq_refl]
theorem scaled_rows {μ0 : AMem} (h0 : WF μ0) {x : SV} {zs : List Int} (hx : IsRow μ0 .i64 x zs) (hb : zs.length ≤ 1000000) {s : Nat} (hs : s ≤ 40) :
    ∀ (j k : Nat) (μ : AMem) (y : SV), k + j = zs.length → Same μ0 μ → OwnRow μ0.next μ .i64 3 y ((zs.take k).map fun v => v / 2 ^ s) →
      ∃ y' μ', levin_Scaled_L3 [.s (.int .i64 s), .s x, .s (.int .i64 zs.length)] [.s y, .s (.int .i64 k)] μ = some (.exit 4, [.s (.int .i64 s), .s y'], μ') ∧ Same μ0 μ' ∧ OwnRow μ0.next μ' .i64 3 y' (zs.map fun v => v / 2 ^ s)
  | 0, k, μ, y, h, hsm, hy => by
    have h1 : ¬ (k : Int) < (zs.length : Int) := by omega
    rw [levin_Scaled_L3_eq, levin_Scaled_L3_B_eq]
    rw [List.take_of_length_le (by omega)] at hy
    simp only [h1, Option.bind_some, decide_true, decide_false, cond_true, cond_false, seqJ_n, seqJ_r, seqJ_e, headK_c, asB_bool, asI_int, asS_s, asN_int, extrK_0, extrK_1, extrK_2, Bool.not_true, Bool.not_false, Nat.beq_refl]
    exact ⟨y, μ, rfl, hsm, hy⟩
  | j + 1, k, μ, y, h, hsm, hy => by
    have hx' := hx.same hsm
    have h1 : (k : Int) < (zs.length : Int) := by omega
    have hi : k < zs.length := by omega
    have h3 : ¬ ((s : Nat) : Int) < 0 := by omega
    have e1 : IntKind.wrap .i64 ((k : Int) + 1) = ((k + 1 : Nat) : Int) := by rw [wr (by omega)]; omega
    have e3 : (((k : Nat) : Int)).toNat = k := by omega
    have g1 : zs.getD k 0 = zs[k] := by rw [List.getD_eq_getElem?_getD, List.getElem?_eq_getElem hi]; rfl
    have htake : (zs.take (k + 1)).map (fun v => v / 2 ^ s) = (zs.take k).map (fun v => v / 2 ^ s) ++ [zs[k] / 2 ^ s] := by
      rw [List.take_add_one, List.getElem?_eq_getElem hi, List.map_append]; rfl
    have hlen : ((zs.take k).map (fun v => v / 2 ^ s)).length = k := by simp; omega
    obtain ⟨y', μ', p1, p2, p3, p4, p5, p6⟩ := OwnRow.push (B := 8) (a := 4) (b := 5) (n := 7) (q := some 1) hsm.wf hy (zs[k] / 2 ^ s) (by omega) (by rw [hlen]; omega) hsm.next (by omega) (by omega) (by omega)
    rw [← htake] at p2
    have ih := scaled_rows h0 hx hb hs j (k + 1) μ' y' (by omega) (Same.push h0 hsm hy p3 p4 p5) p2
    rw [levin_Scaled_L3_eq, levin_Scaled_L3_B_eq]
    simp only [h1, Option.bind_some, decide_true, decide_false, cond_true, cond_false, seqJ_n, seqJ_r, seqJ_e, headK_c, asB_bool, asI_int, asS_s, asN_int, extrK_0, extrK_1, extrK_2, Bool.not_true, Bool.not_false, Nat.beq_refl]
    rw [hx'.ind (by omega) h1, hx'.load (by omega) h1, asI_int, e3, g1, if_neg h3, min40 hs, fdivp, p1]
    simp only [e1, Option.bind_some, decide_true, decide_false, cond_true, cond_false, seqJ_n, seqJ_r, seqJ_e, headK_c, asB_bool, asI_int, asS_s, asN_int, extrK_0, extrK_1, extrK_2, Bool.not_true, Bool.not_false, Nat.beq_refl]
    exact ih
theorem refScaled_rows {μ0 : AMem} (h0 : WF μ0) {x : SV} {zs : List Int} (hx : IsRow μ0 .i64 x zs) (hb : zs.length ≤ 1000000) (hz : ∀ v ∈ zs, -1152921504606846976 ≤ v ∧ v ≤ 1152921504606846976) {s : Nat} (hs : s ≤ 40) :
    ∀ (j k : Nat) (μ : AMem) (y : SV), k + j = zs.length → Same μ0 μ → OwnRow μ0.next μ .i64 3 y ((zs.take k).map fun v => v / 2 ^ s) →
      ∃ y' μ', overdubref05_Scaled_L3 [.s x, .s (.int .i64 s), .s (.int .i64 zs.length)] [.s y, .s (.int .i64 k)] μ = some (.exit 4, [.s (.int .i64 s), .s y'], μ') ∧ Same μ0 μ' ∧ OwnRow μ0.next μ' .i64 3 y' (zs.map fun v => v / 2 ^ s)
  | 0, k, μ, y, h, hsm, hy => by
    have h1 : ¬ (k : Int) < (zs.length : Int) := by omega
    rw [overdubref05_Scaled_L3_eq, overdubref05_Scaled_L3_B_eq]
    rw [List.take_of_length_le (by omega)] at hy
    simp only [h1, Option.bind_some, decide_true, decide_false, cond_true, cond_false, seqJ_n, seqJ_r, seqJ_e, headK_c, asB_bool, asI_int, asS_s, asN_int, extrK_0, extrK_1, extrK_2, Bool.not_true, Bool.not_false, Nat.beq_refl]
    exact ⟨y, μ, rfl, hsm, hy⟩
  | j + 1, k, μ, y, h, hsm, hy => by
    have hx' := (hx.same hsm).same (Keep.bump hsm.wf 12)
    have h1 : (k : Int) < (zs.length : Int) := by omega
    have hi : k < zs.length := by omega
    have h3 : ¬ ((s : Nat) : Int) < 0 := by omega
    have hp2 := pow40 hs
    have e1 : IntKind.wrap .i64 ((k : Int) + 1) = ((k + 1 : Nat) : Int) := by rw [wr (by omega)]; omega
    have e3 : (((k : Nat) : Int)).toNat = k := by omega
    have g1 : zs.getD k 0 = zs[k] := by rw [List.getD_eq_getElem?_getD, List.getElem?_eq_getElem hi]; rfl
    have hv := hz _ (List.getElem_mem hi)
    have htake : (zs.take (k + 1)).map (fun v => v / 2 ^ s) = (zs.take k).map (fun v => v / 2 ^ s) ++ [zs[k] / 2 ^ s] := by
      rw [List.take_add_one, List.getElem?_eq_getElem hi, List.map_append]; rfl
    have hlen : ((zs.take k).map (fun v => v / 2 ^ s)).length = k := by simp; omega
    obtain ⟨y', μ', p1, p2, p3, p4, p5, p6⟩ := OwnRow.push (B := 8) (a := 9) (b := 10) (n := 12) (q := some 1) hsm.wf hy (zs[k] / 2 ^ s) (by omega) (by rw [hlen]; omega) hsm.next (by omega) (by omega) (by omega)
    rw [← htake] at p2
    have ih := refScaled_rows h0 hx hb hz hs j (k + 1) μ' y' (by omega) (Same.push h0 hsm hy p3 p4 p5) p2
    rw [overdubref05_Scaled_L3_eq, overdubref05_Scaled_L3_B_eq]
    simp only [h1, Option.bind_some, decide_true, decide_false, cond_true, cond_false, seqJ_n, seqJ_r, seqJ_e, headK_c, asB_bool, asI_int, asS_s, asN_int, extrK_0, extrK_1, extrK_2, Bool.not_true, Bool.not_false, Nat.beq_refl]
    rw [hx'.ind (by omega) h1, hx'.load (by omega) h1, asI_int, e3, g1, u64_nat hs, if_neg h3, min40 hs, Int.one_mul, wr (n := (2 : Int) ^ s) (by omega), down_is _ _ hp2.1 (by omega)]
    simp only [Option.bind_some, decide_true, decide_false, cond_true, cond_false, seqJ_n, seqJ_r, seqJ_e, headK_c, asB_bool, asI_int, asS_s, asN_int, extrK_0, extrK_1, extrK_2, Bool.not_true, Bool.not_false, Nat.beq_refl]
    rw [p1]
    simp only [e1, Option.bind_some, decide_true, decide_false, cond_true, cond_false, seqJ_n, seqJ_r, seqJ_e, headK_c, asB_bool, asI_int, asS_s, asN_int, extrK_0, extrK_1, extrK_2, Bool.not_true, Bool.not_false, Nat.beq_refl]
    exact ih
theorem noScale_no {zs : List Int} (h : noScale zs = false) : 0 < zs.length ∧ 0 ≤ zs.getD 0 0 ∧ zs.getD 0 0 ≤ 1152921504606846976 ∧ zs.any farB = false ∧ ∀ v ∈ zs, -1152921504606846976 ≤ v ∧ v ≤ 1152921504606846976 := by
  simp only [noScale, Bool.or_eq_false_iff, decide_eq_false_iff_not] at h
  obtain ⟨⟨h1, h2⟩, h3⟩ := h
  have hp : 0 < zs.length := by cases zs with | nil => simp at h1 | cons a l => simp
  have hz : ∀ v ∈ zs, -1152921504606846976 ≤ v ∧ v ≤ 1152921504606846976 := by
    intro v hv
    have := List.any_eq_false.mp h3 v hv
    simp [farB] at this; omega
  have hm : zs.getD 0 0 ∈ zs := by rw [List.getD_eq_getElem?_getD, List.getElem?_eq_getElem hp]; exact List.getElem_mem hp
  exact ⟨hp, by omega, (hz _ hm).2, h3, hz⟩
theorem scaled_is {μ : AMem} (h0 : WF μ) {x : SV} {zs : List Int} (hx : IsRow μ .i64 x zs) (hb : zs.length ≤ 1000000) :
    ∃ y μ', levin_Scaled [.s x] μ = some (.tuple [.s y, .s (.int .i64 (scaledE zs))], μ') ∧ Same μ μ' ∧ OwnRow μ.next μ' .i64 3 y (scaledZ zs) := by
  rw [levin_Scaled_eq, hx.len]
  unfold scaledZ
  have e00 : ((0 : Nat) : Int) = 0 := rfl
  by_cases c0 : zs = []
  · subst c0
    have hn : noScale [] = true := rfl
    have he : scaledE [] = 0 := rfl
    simp only [List.length_nil, hn, he, e00, if_true, beq_self_eq_true, Option.bind_some, decide_true, decide_false, cond_true, cond_false, seqJ_n, seqJ_r, seqJ_e, headK_c, asB_bool, asI_int, asS_s, asN_int, extrK_0, extrK_1, extrK_2, Bool.not_true, Bool.not_false, Nat.beq_refl]
    exact ⟨_, _, rfl, Keep.refl h0, OwnRow.nil _ _ _ _⟩
  · have hp : 0 < zs.length := List.length_pos_iff.mpr c0
    have hl : (((zs.length : Nat) : Int) == 0) = false := by simp [c0]
    simp only [hl, Option.bind_some, decide_true, decide_false, cond_true, cond_false, seqJ_n, seqJ_r, seqJ_e, headK_c, asB_bool, asI_int, asS_s, asN_int, extrK_0, extrK_1, extrK_2, Bool.not_true, Bool.not_false, Nat.beq_refl]
    rw [hx.ind (by omega) (by omega), hx.load (by omega) (by omega), asI_int, Int.toNat_zero]
    by_cases c1 : zs.getD 0 0 < 0
    · have hn : noScale zs = true := by unfold noScale; rw [decide_eq_true c1]; simp
      have he : scaledE zs = 0 := by unfold scaledE; rw [if_pos hn]
      simp only [c1, hn, he, e00, if_true, Option.bind_some, decide_true, decide_false, cond_true, cond_false, seqJ_n, seqJ_r, seqJ_e, headK_c, asB_bool, asI_int, asS_s, asN_int, extrK_0, extrK_1, extrK_2, Bool.not_true, Bool.not_false, Nat.beq_refl]
      exact ⟨_, _, rfl, Keep.refl h0, OwnRow.nil _ _ _ _⟩
    · have hfar := scaled_far hx (by omega) _ 0 (Nat.zero_add _)
      rw [e00, List.drop_zero] at hfar
      simp only [c1, hfar, hx.len, Option.bind_some, decide_true, decide_false, cond_true, cond_false, seqJ_n, seqJ_r, seqJ_e, headK_c, asB_bool, asI_int, asS_s, asN_int, extrK_0, extrK_1, extrK_2, Bool.not_true, Bool.not_false, Nat.beq_refl]
      by_cases c2 : zs.any farB = true
      · have hn : noScale zs = true := by simp [noScale, c2]
        have he : scaledE zs = 0 := by unfold scaledE; rw [if_pos hn]
        simp only [c2, hn, he, e00, if_true, Option.bind_some, decide_true, decide_false, cond_true, cond_false, seqJ_n, seqJ_r, seqJ_e, headK_c, asB_bool, asI_int, asS_s, asN_int, extrK_0, extrK_1, extrK_2, Bool.not_true, Bool.not_false, Nat.beq_refl]
        exact ⟨_, _, rfl, Keep.refl h0, OwnRow.nil _ _ _ _⟩
      · have c2' : zs.any farB = false := by simpa using c2
        have hemp : zs.isEmpty = false := by cases zs with | nil => exact absurd rfl c0 | cons a l => rfl
        have hn : noScale zs = false := by unfold noScale; rw [hemp, c2', decide_eq_false c1]; rfl
        obtain ⟨g1, g2, g3, g4, g5⟩ := noScale_no hn
        have hsh := scaled_shift hx g1 g2 g3 40 0 rfl
        rw [e00] at hsh
        have he : scaledE zs = scaleF (zs.getD 0 0) 40 0 := by unfold scaledE scaleS; rw [if_neg (by simp [hn])]
        rw [← he] at hsh
        obtain ⟨y, μ', r1, r2, r3⟩ := scaled_rows h0 hx hb (scaledE_le zs) zs.length 0 μ .nilSlice (by omega) (Keep.refl h0) (by simpa using OwnRow.nil _ _ _ _)
        rw [e00] at r1
        simp only [c2', hn, Bool.false_eq_true, if_false, hsh, hx.len, r1, Option.bind_some, decide_true, decide_false, cond_true, cond_false, seqJ_n, seqJ_r, seqJ_e, headK_c, asB_bool, asI_int, asS_s, asN_int, extrK_0, extrK_1, extrK_2, Bool.not_true, Bool.not_false, Nat.beq_refl]
        exact ⟨_, _, rfl, r2, r3⟩
theorem refScaled_is {μ : AMem} (h0 : WF μ) {x : SV} {zs : List Int} (hx : IsRow μ .i64 x zs) (hb : zs.length ≤ 1000000) :
    ∃ y μ', overdubref05_Scaled [.s x] μ = some (.tuple [.s y, .s (.int .i64 (scaledE zs))], μ') ∧ Same μ μ' ∧ OwnRow μ.next μ' .i64 3 y (scaledZ zs) := by
  rw [overdubref05_Scaled_eq, hx.len]
  unfold scaledZ
  have e00 : ((0 : Nat) : Int) = 0 := rfl
  by_cases c0 : zs = []
  · subst c0
    have hn : noScale [] = true := rfl
    have he : scaledE [] = 0 := rfl
    simp only [List.length_nil, hn, he, e00, if_true, beq_self_eq_true, Option.bind_some, decide_true, decide_false, cond_true, cond_false, seqJ_n, seqJ_r, seqJ_e, headK_c, asB_bool, asI_int, asS_s, asN_int, extrK_0, extrK_1, extrK_2, Bool.not_true, Bool.not_false, Nat.beq_refl]
    exact ⟨_, _, rfl, Keep.refl h0, OwnRow.nil _ _ _ _⟩
  · have hp : 0 < zs.length := List.length_pos_iff.mpr c0
    have hl : (((zs.length : Nat) : Int) == 0) = false := by simp [c0]
    simp only [hl, Option.bind_some, decide_true, decide_false, cond_true, cond_false, seqJ_n, seqJ_r, seqJ_e, headK_c, asB_bool, asI_int, asS_s, asN_int, extrK_0, extrK_1, extrK_2, Bool.not_true, Bool.not_false, Nat.beq_refl]
    rw [hx.ind (by omega) (by omega), hx.load (by omega) (by omega), asI_int, Int.toNat_zero]
    by_cases c1 : zs.getD 0 0 < 0
    · have hn : noScale zs = true := by unfold noScale; rw [decide_eq_true c1]; simp
      have he : scaledE zs = 0 := by unfold scaledE; rw [if_pos hn]
      simp only [c1, hn, he, e00, if_true, Option.bind_some, decide_true, decide_false, cond_true, cond_false, seqJ_n, seqJ_r, seqJ_e, headK_c, asB_bool, asI_int, asS_s, asN_int, extrK_0, extrK_1, extrK_2, Bool.not_true, Bool.not_false, Nat.beq_refl]
      exact ⟨_, _, rfl, Keep.refl h0, OwnRow.nil _ _ _ _⟩
    · have hfar := refScaled_far hx (by omega) _ 0 (Nat.zero_add _)
      rw [e00, List.drop_zero] at hfar
      simp only [c1, hfar, hx.len, Option.bind_some, decide_true, decide_false, cond_true, cond_false, seqJ_n, seqJ_r, seqJ_e, headK_c, asB_bool, asI_int, asS_s, asN_int, extrK_0, extrK_1, extrK_2, Bool.not_true, Bool.not_false, Nat.beq_refl]
      by_cases c2 : zs.any farB = true
      · have hn : noScale zs = true := by simp [noScale, c2]
        have he : scaledE zs = 0 := by unfold scaledE; rw [if_pos hn]
        simp only [c2, hn, he, e00, if_true, Option.bind_some, decide_true, decide_false, cond_true, cond_false, seqJ_n, seqJ_r, seqJ_e, headK_c, asB_bool, asI_int, asS_s, asN_int, extrK_0, extrK_1, extrK_2, Bool.not_true, Bool.not_false, Nat.beq_refl]
        exact ⟨_, _, rfl, Keep.refl h0, OwnRow.nil _ _ _ _⟩
      · have c2' : zs.any farB = false := by simpa using c2
        have hemp : zs.isEmpty = false := by cases zs with | nil => exact absurd rfl c0 | cons a l => rfl
        have hn : noScale zs = false := by unfold noScale; rw [hemp, c2', decide_eq_false c1]; rfl
        obtain ⟨g1, g2, g3, g4, g5⟩ := noScale_no hn
        have hsh := refScaled_shift hx g1 g2 g3 40 0 rfl
        rw [e00] at hsh
        have he : scaledE zs = scaleF (zs.getD 0 0) 40 0 := by unfold scaledE scaleS; rw [if_neg (by simp [hn])]
        rw [← he] at hsh
        obtain ⟨y, μ', r1, r2, r3⟩ := refScaled_rows h0 hx hb g5 (scaledE_le zs) zs.length 0 μ .nilSlice (by omega) (Keep.refl h0) (by simpa using OwnRow.nil _ _ _ _)
        rw [e00] at r1
        simp only [c2', hn, Bool.false_eq_true, if_false, hsh, hx.len, r1, Option.bind_some, decide_true, decide_false, cond_true, cond_false, seqJ_n, seqJ_r, seqJ_e, headK_c, asB_bool, asI_int, asS_s, asN_int, extrK_0, extrK_1, extrK_2, Bool.not_true, Bool.not_false, Nat.beq_refl]
        exact ⟨_, _, rfl, r2, r3⟩
end Go.Proofs.Ytkcaigagilpomaa
