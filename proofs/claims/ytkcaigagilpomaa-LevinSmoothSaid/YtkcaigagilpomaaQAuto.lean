/- Sums of products: what the program and the reference tell. -/
import Derived.Test.YtkcaigagilpomaaKCheck
import Derived.Test.YtkcaigagilpomaaKMay
namespace Go.Proofs.Ytkcaigagilpomaa
open Go Go.Proofs.Ytkcaigagilpomaa.E
set_option linter.unusedVariables false
set_option linter.unusedSimpArgs false
def asum (zs : List Int) (k : Nat) : Nat → Int
  | 0 => 0
  | n + 1 => asum zs k n + zs.getD (k + n) 0 * zs.getD n 0
def dotZ (zs : List Int) (k : Nat) : Int := asum zs k (zs.length - k)
def autoE (zs : List Int) (lags : Int) : Int := if lags < 0 ∨ lags > 12 then 1 else if checkZ zs ≠ 0 then checkZ zs else 0
def autoZ (zs : List Int) (lags : Int) : List Int := if lags < 0 ∨ lags > 12 then [] else if checkZ zs ≠ 0 then [] else (List.range (lags.toNat + 1)).map (dotZ zs)
theorem getD_memA (zs : List Int) {i : Nat} (h : i < zs.length) : zs.getD i 0 ∈ zs := by
  rw [List.getD_eq_getElem?_getD, List.getElem?_eq_getElem h]; exact List.getElem_mem h
theorem getD_bound {zs : List Int} (hz : ∀ v ∈ zs, -8388608 ≤ v ∧ v ≤ 8388607) (i : Nat) : -8388608 ≤ zs.getD i 0 ∧ zs.getD i 0 ≤ 8388607 := by
  rcases Nat.lt_or_ge i zs.length with h | h
  · exact hz _ (getD_memA zs h)
  · rw [List.getD_eq_getElem?_getD, List.getElem?_eq_none h]; exact ⟨by simp, by simp⟩
theorem asum_le {zs : List Int} (hz : ∀ v ∈ zs, -8388608 ≤ v ∧ v ≤ 8388607) (k : Nat) : ∀ n : Nat, -(70368744177664 * n) ≤ asum zs k n ∧ asum zs k n ≤ 70368744177664 * n
  | 0 => by simp [asum]
  | n + 1 => by
    have := asum_le hz k n
    have b1 := getD_bound hz (k + n)
    have b2 := getD_bound hz n
    have := prod_le (a := zs.getD (k + n) 0) (b := zs.getD n 0) (A := 8388608) (B := 8388608) (by omega) (by omega) (by omega) (by omega)
    simp only [asum]; omega

theorem auto_sum {μ : AMem} {x y : SV} {zs : List Int} (hx : IsRow μ .i64 x zs) (hz : ∀ v ∈ zs, -8388608 ≤ v ∧ v ≤ 8388607) (hl : zs.length ≤ 64) (k : Nat) (m : Int) :
    ∀ j i : Nat, k + i + j = max k zs.length → levin_Auto_L2 [.s x, .s y, .s (.int .i64 k), .s (.int .i64 m), .s (.int .i64 k)] [.s (.int .i64 (asum zs k i)), .s (.int .i64 ((k + i : Nat) : Int))] μ = some (.exit 2, [.s x, .s y, .s (.int .i64 (asum zs k (zs.length - k))), .s (.int .i64 m), .s (.int .i64 k)], μ)
  | 0, i, h => by
    have h1 : ¬ ((k + i : Nat) : Int) < (zs.length : Int) := by omega
    have hi : asum zs k i = asum zs k (zs.length - k) ∨ i = zs.length - k := by right; omega
    rw [levin_Auto_L2_eq, levin_Auto_L2_B_eq, hx.len]
    obtain rfl : i = zs.length - k := by omega
    simp only [h1, Option.bind_some, decide_true, decide_false, cond_true, cond_false, seqJ_n, seqJ_r, seqJ_e, headK_c, asB_bool, asI_int, asS_s, asN_int, Bool.not_true, Bool.not_false, Nat.beq_refl]
  | j + 1, i, h => by
    have ih := auto_sum (y := y) hx hz hl k m j (i + 1) (by omega)
    have h1 : ((k + i : Nat) : Int) < (zs.length : Int) := by omega
    have hki : k + i < zs.length := by omega
    have hi : i < zs.length := by omega
    have g1 := getD_memA zs hki
    have g2 := getD_memA zs hi
    have b1 := hz _ g1
    have b2 := hz _ g2
    have hs := asum_le hz k i
    have hp := prod_le (a := zs.getD (k + i) 0) (b := zs.getD i 0) (A := 8388608) (B := 8388608) (by omega) (by omega) (by omega) (by omega)
    have e1 : IntKind.wrap .i64 (((k + i : Nat) : Int) + 1) = ((k + (i + 1) : Nat) : Int) := by rw [wr (by omega)]; omega
    have e2 : IntKind.wrap .i64 (((k + i : Nat) : Int) - (k : Int)) = ((i : Nat) : Int) := by rw [wr (by omega)]; omega
    have e3 : (((k + i : Nat) : Int)).toNat = k + i := by omega
    have e4 : (((i : Nat) : Int)).toNat = i := by omega
    have e5 : IntKind.wrap .i64 (asum zs k i + IntKind.wrap .i64 (zs.getD (k + i) 0 * zs.getD i 0)) = asum zs k (i + 1) := by
      show _ = asum zs k i + zs.getD (k + i) 0 * zs.getD i 0
      rw [wr (n := zs.getD (k + i) 0 * zs.getD i 0) (by omega), wr (by omega)]
    rw [levin_Auto_L2_eq, levin_Auto_L2_B_eq, hx.len]
    simp only [h1, Option.bind_some, decide_true, decide_false, cond_true, cond_false, seqJ_n, seqJ_r, seqJ_e, headK_c, asB_bool, asI_int, asS_s, asN_int, Bool.not_true, Bool.not_false, Nat.beq_refl]
    rw [hx.ind (by omega) h1, hx.load (by omega) h1, asI_int, e2, hx.ind (by omega) (by omega), hx.load (by omega) (by omega), asI_int, e3, e4, e5, e1]
    simp only [Option.bind_some, decide_true, decide_false, cond_true, cond_false, seqJ_n, seqJ_r, seqJ_e, headK_c, asB_bool, asI_int, asS_s, asN_int, Bool.not_true, Bool.not_false, Nat.beq_refl]
    exact ih
theorem auto_rows {μ0 : AMem} (h0 : WF μ0) {x : SV} {zs : List Int} (hx : IsRow μ0 .i64 x zs) (hz : ∀ v ∈ zs, -8388608 ≤ v ∧ v ≤ 8388607) (hl : zs.length ≤ 64) {n : Nat} (hn : n ≤ 13) :
    ∀ (j k : Nat) (μ : AMem) (y : SV), k + j = n → Same μ0 μ → OwnRow μ0.next μ .i64 3 y ((List.range k).map (dotZ zs)) →
      ∃ y' μ', levin_Auto_L1 [.s x, .s (.int .i64 ((n : Nat) : Int))] [.s y, .s (.int .i64 k)] μ = some (.exit 0, [.s y'], μ') ∧ Same μ0 μ' ∧ OwnRow μ0.next μ' .i64 3 y' ((List.range n).map (dotZ zs))
  | 0, k, μ, y, h, hs, hy => by
    have h1 : ¬ (k : Int) < ((n : Nat) : Int) := by omega
    rw [levin_Auto_L1_eq, levin_Auto_L1_B_eq]
    obtain rfl : k = n := by omega
    simp only [h1, Option.bind_some, decide_true, decide_false, cond_true, cond_false, seqJ_n, seqJ_r, seqJ_e, headK_c, asB_bool, asI_int, asS_s, asN_int, Bool.not_true, Bool.not_false, Nat.beq_refl]
    exact ⟨y, μ, rfl, hs, hy⟩
  | j + 1, k, μ, y, h, hs, hy => by
    have h1 : (k : Int) < ((n : Nat) : Int) := by omega
    have e1 : IntKind.wrap .i64 ((k : Int) + 1) = ((k + 1 : Nat) : Int) := by rw [wr (by omega)]; omega
    have hsum := auto_sum (y := y) (hx.same hs) hz hl k (((n : Nat) : Int)) (max k zs.length - k) 0 (by omega)
    have e0 : ((k + 0 : Nat) : Int) = (k : Int) := rfl
    rw [e0] at hsum
    obtain ⟨y', μ', p1, p2, p3, p4, p5, p6⟩ := OwnRow.push (B := 8) (a := 2) (b := 3) (n := 5) (q := some 1) hs.wf hy (dotZ zs k) (by omega) (by simp; omega) hs.next (by omega) (by omega) (by omega)
    have hr : (List.range (k + 1)).map (dotZ zs) = (List.range k).map (dotZ zs) ++ [dotZ zs k] := by rw [List.range_succ, List.map_append]; rfl
    rw [← hr] at p2
    have ih := auto_rows h0 hx hz hl hn j (k + 1) μ' y' (by omega) (Same.push h0 hs hy p3 p4 p5) p2
    rw [levin_Auto_L1_eq, levin_Auto_L1_B_eq]
    simp only [h1, Option.bind_some, decide_true, decide_false, cond_true, cond_false, seqJ_n, seqJ_r, seqJ_e, headK_c, asB_bool, asI_int, asS_s, asN_int, Bool.not_true, Bool.not_false, Nat.beq_refl]
    rw [show levin_Auto_L2 [.s x, .s y, .s (.int .i64 k), .s (.int .i64 (((n : Nat) : Int))), .s (.int .i64 k)] [.s (.int .i64 0), .s (.int .i64 (k : Int))] μ = _ from hsum]
    simp only [Option.bind_some, decide_true, decide_false, cond_true, cond_false, seqJ_n, seqJ_r, seqJ_e, headK_c, asB_bool, asI_int, asS_s, asN_int, Bool.not_true, Bool.not_false, Nat.beq_refl]
    have hd : asum zs k (zs.length - k) = dotZ zs k := rfl
    rw [hd, p1]
    simp only [e1, Option.bind_some, decide_true, decide_false, cond_true, cond_false, seqJ_n, seqJ_r, seqJ_e, headK_c, asB_bool, asI_int, asS_s, asN_int, Bool.not_true, Bool.not_false, Nat.beq_refl]
    exact ih
theorem auto_is {μ : AMem} (h0 : WF μ) {x : SV} {zs : List Int} (hx : IsRow μ .i64 x zs) (hb : zs.length ≤ 4611686018427387904) {lags : Int} (hlg : -9223372036854775808 ≤ lags ∧ lags ≤ 9223372036854775807) :
    ∃ y μ', levin_Auto [.s x, .s (.int .i64 lags)] μ = some (.tuple [.s y, .s (.int .i64 (autoE zs lags))], μ') ∧ Same μ μ' ∧ OwnRow μ.next μ' .i64 3 y (autoZ zs lags) := by
  rw [levin_Auto_eq]
  unfold autoE autoZ
  by_cases c1 : lags < 0
  · simp only [c1, true_or, if_true, Option.bind_some, decide_true, decide_false, cond_true, cond_false, seqJ_n, seqJ_r, seqJ_e, headK_c, asB_bool, asI_int, asS_s, asN_int, Bool.not_true, Bool.not_false, Nat.beq_refl]
    exact ⟨_, _, rfl, Keep.refl h0, OwnRow.nil _ _ _ _⟩
  · by_cases c2 : lags > 12
    · simp only [c1, c2, or_true, if_true, Option.bind_some, decide_true, decide_false, cond_true, cond_false, seqJ_n, seqJ_r, seqJ_e, headK_c, asB_bool, asI_int, asS_s, asN_int, Bool.not_true, Bool.not_false, Nat.beq_refl]
      exact ⟨_, _, rfl, Keep.refl h0, OwnRow.nil _ _ _ _⟩
    · simp only [c1, c2, or_false, if_false, check_is hx hb, Option.bind_some, decide_true, decide_false, cond_true, cond_false, seqJ_n, seqJ_r, seqJ_e, headK_c, asB_bool, asI_int, asS_s, asN_int, Bool.not_true, Bool.not_false, Nat.beq_refl]
      by_cases c3 : checkZ zs = 0
      · have hc : (checkZ zs != 0) = false := by simp [c3]
        obtain ⟨hz, hl⟩ := checkZ_ok c3
        obtain ⟨n, hn⟩ : ∃ n : Nat, lags = n := ⟨lags.toNat, by omega⟩
        subst hn
        have hw : IntKind.wrap .i64 ((n : Int) + 1) = ((n + 1 : Nat) : Int) := by rw [wr (by omega)]; omega
        obtain ⟨y, μ', g1, g2, g3⟩ := auto_rows h0 hx hz hl (n := n + 1) (by omega) (n + 1) 0 μ .nilSlice (by omega) (Keep.refl h0) (OwnRow.nil _ _ _ _)
        have e0 : ((0 : Nat) : Int) = 0 := rfl
        rw [e0] at g1
        have e2 : ((n : Nat) : Int).toNat = n := by omega
        simp only [hc, c3, ne_eq, not_true_eq_false, if_false, e2, Option.bind_some, decide_true, decide_false, cond_true, cond_false, seqJ_n, seqJ_r, seqJ_e, headK_c, asB_bool, asI_int, asS_s, asN_int, Bool.not_true, Bool.not_false, Nat.beq_refl]
        rw [hw, g1]
        simp only [Option.bind_some, decide_true, decide_false, cond_true, cond_false, seqJ_n, seqJ_r, seqJ_e, headK_c, asB_bool, asI_int, asS_s, asN_int, Bool.not_true, Bool.not_false, Nat.beq_refl]
        exact ⟨_, _, rfl, g2, g3⟩
      · have hc : (checkZ zs != 0) = true := by simp [c3]
        simp only [hc, c3, ne_eq, not_false_eq_true, if_true, Option.bind_some, decide_true, decide_false, cond_true, cond_false, seqJ_n, seqJ_r, seqJ_e, headK_c, asB_bool, asI_int, asS_s, asN_int, Bool.not_true, Bool.not_false, Nat.beq_refl]
        exact ⟨_, _, rfl, Keep.refl h0, OwnRow.nil _ _ _ _⟩

theorem refAuto_sum {μ : AMem} {x y : SV} {zs : List Int} (hx : IsRow μ .i64 x zs) (hz : ∀ v ∈ zs, -8388608 ≤ v ∧ v ≤ 8388607) (hl : zs.length ≤ 64) (k : Nat) (m : Int) :
    ∀ j i : Nat, k + i + j = max k zs.length → overdubref05_Auto_L2 [.s x, .s (.int .i64 m), .s y, .s (.int .i64 k)] [.s (.int .i64 (asum zs k i)), .s (.int .i64 ((k + i : Nat) : Int))] μ = some (.exit 2, [.s x, .s (.int .i64 m), .s y, .s (.int .i64 k), .s (.int .i64 (asum zs k (zs.length - k)))], μ)
  | 0, i, h => by
    have h1 : ¬ ((k + i : Nat) : Int) < (zs.length : Int) := by omega
    have hi : asum zs k i = asum zs k (zs.length - k) ∨ i = zs.length - k := by right; omega
    rw [overdubref05_Auto_L2_eq, overdubref05_Auto_L2_B_eq, hx.len]
    obtain rfl : i = zs.length - k := by omega
    simp only [h1, Option.bind_some, decide_true, decide_false, cond_true, cond_false, seqJ_n, seqJ_r, seqJ_e, headK_c, asB_bool, asI_int, asS_s, asN_int, Bool.not_true, Bool.not_false, Nat.beq_refl]
  | j + 1, i, h => by
    have ih := refAuto_sum (y := y) hx hz hl k m j (i + 1) (by omega)
    have h1 : ((k + i : Nat) : Int) < (zs.length : Int) := by omega
    have hki : k + i < zs.length := by omega
    have hi : i < zs.length := by omega
    have g1 := getD_memA zs hki
    have g2 := getD_memA zs hi
    have b1 := hz _ g1
    have b2 := hz _ g2
    have hs := asum_le hz k i
    have hp := prod_le (a := zs.getD (k + i) 0) (b := zs.getD i 0) (A := 8388608) (B := 8388608) (by omega) (by omega) (by omega) (by omega)
    have e1 : IntKind.wrap .i64 (((k + i : Nat) : Int) + 1) = ((k + (i + 1) : Nat) : Int) := by rw [wr (by omega)]; omega
    have e2 : IntKind.wrap .i64 (((k + i : Nat) : Int) - (k : Int)) = ((i : Nat) : Int) := by rw [wr (by omega)]; omega
    have e3 : (((k + i : Nat) : Int)).toNat = k + i := by omega
    have e4 : (((i : Nat) : Int)).toNat = i := by omega
    have e5 : IntKind.wrap .i64 (asum zs k i + IntKind.wrap .i64 (zs.getD (k + i) 0 * zs.getD i 0)) = asum zs k (i + 1) := by
      show _ = asum zs k i + zs.getD (k + i) 0 * zs.getD i 0
      rw [wr (n := zs.getD (k + i) 0 * zs.getD i 0) (by omega), wr (by omega)]
    rw [overdubref05_Auto_L2_eq, overdubref05_Auto_L2_B_eq, hx.len]
    simp only [h1, Option.bind_some, decide_true, decide_false, cond_true, cond_false, seqJ_n, seqJ_r, seqJ_e, headK_c, asB_bool, asI_int, asS_s, asN_int, Bool.not_true, Bool.not_false, Nat.beq_refl]
    rw [hx.ind (by omega) h1, hx.load (by omega) h1, asI_int, e2, hx.ind (by omega) (by omega), hx.load (by omega) (by omega), asI_int, e3, e4, e5, e1]
    simp only [Option.bind_some, decide_true, decide_false, cond_true, cond_false, seqJ_n, seqJ_r, seqJ_e, headK_c, asB_bool, asI_int, asS_s, asN_int, Bool.not_true, Bool.not_false, Nat.beq_refl]
    exact ih
theorem refAuto_rows {μ0 : AMem} (h0 : WF μ0) {x : SV} {zs : List Int} (hx : IsRow μ0 .i64 x zs) (hz : ∀ v ∈ zs, -8388608 ≤ v ∧ v ≤ 8388607) (hl : zs.length ≤ 64) {n : Nat} (hn : n ≤ 13) :
    ∀ (j k : Nat) (μ : AMem) (y : SV), k + j = n → Same μ0 μ → OwnRow μ0.next μ .i64 3 y ((List.range k).map (dotZ zs)) →
      ∃ y' μ', overdubref05_Auto_L1 [.s x, .s (.int .i64 (((n : Nat) : Int) - 1))] [.s y, .s (.int .i64 k)] μ = some (.exit 0, [.s y'], μ') ∧ Same μ0 μ' ∧ OwnRow μ0.next μ' .i64 3 y' ((List.range n).map (dotZ zs))
  | 0, k, μ, y, h, hs, hy => by
    have h1 : ¬ (k : Int) ≤ ((n : Nat) : Int) - 1 := by omega
    rw [overdubref05_Auto_L1_eq, overdubref05_Auto_L1_B_eq]
    obtain rfl : k = n := by omega
    simp only [h1, Option.bind_some, decide_true, decide_false, cond_true, cond_false, seqJ_n, seqJ_r, seqJ_e, headK_c, asB_bool, asI_int, asS_s, asN_int, Bool.not_true, Bool.not_false, Nat.beq_refl]
    exact ⟨y, μ, rfl, hs, hy⟩
  | j + 1, k, μ, y, h, hs, hy => by
    have h1 : (k : Int) ≤ ((n : Nat) : Int) - 1 := by omega
    have e1 : IntKind.wrap .i64 ((k : Int) + 1) = ((k + 1 : Nat) : Int) := by rw [wr (by omega)]; omega
    have hsum := refAuto_sum (y := y) (hx.same hs) hz hl k (((n : Nat) : Int) - 1) (max k zs.length - k) 0 (by omega)
    have e0 : ((k + 0 : Nat) : Int) = (k : Int) := rfl
    rw [e0] at hsum
    obtain ⟨y', μ', p1, p2, p3, p4, p5, p6⟩ := OwnRow.push (B := 8) (a := 2) (b := 3) (n := 5) (q := some 1) hs.wf hy (dotZ zs k) (by omega) (by simp; omega) hs.next (by omega) (by omega) (by omega)
    have hr : (List.range (k + 1)).map (dotZ zs) = (List.range k).map (dotZ zs) ++ [dotZ zs k] := by rw [List.range_succ, List.map_append]; rfl
    rw [← hr] at p2
    have ih := refAuto_rows h0 hx hz hl hn j (k + 1) μ' y' (by omega) (Same.push h0 hs hy p3 p4 p5) p2
    rw [overdubref05_Auto_L1_eq, overdubref05_Auto_L1_B_eq]
    simp only [h1, Option.bind_some, decide_true, decide_false, cond_true, cond_false, seqJ_n, seqJ_r, seqJ_e, headK_c, asB_bool, asI_int, asS_s, asN_int, Bool.not_true, Bool.not_false, Nat.beq_refl]
    rw [show overdubref05_Auto_L2 [.s x, .s (.int .i64 (((n : Nat) : Int) - 1)), .s y, .s (.int .i64 k)] [.s (.int .i64 0), .s (.int .i64 (k : Int))] μ = _ from hsum]
    simp only [Option.bind_some, decide_true, decide_false, cond_true, cond_false, seqJ_n, seqJ_r, seqJ_e, headK_c, asB_bool, asI_int, asS_s, asN_int, Bool.not_true, Bool.not_false, Nat.beq_refl]
    have hd : asum zs k (zs.length - k) = dotZ zs k := rfl
    rw [hd, p1]
    simp only [e1, Option.bind_some, decide_true, decide_false, cond_true, cond_false, seqJ_n, seqJ_r, seqJ_e, headK_c, asB_bool, asI_int, asS_s, asN_int, Bool.not_true, Bool.not_false, Nat.beq_refl]
    exact ih
theorem refAuto_is {μ : AMem} (h0 : WF μ) {x : SV} {zs : List Int} (hx : IsRow μ .i64 x zs) (hb : zs.length ≤ 4611686018427387904) {lags : Int} (hlg : -9223372036854775808 ≤ lags ∧ lags ≤ 9223372036854775807) :
    ∃ y μ', overdubref05_Auto [.s x, .s (.int .i64 lags)] μ = some (.tuple [.s y, .s (.int .i64 (autoE zs lags))], μ') ∧ Same μ μ' ∧ OwnRow μ.next μ' .i64 3 y (autoZ zs lags) := by
  rw [overdubref05_Auto_eq]
  unfold autoE autoZ
  by_cases c1 : lags < 0
  · simp only [c1, true_or, if_true, Option.bind_some, decide_true, decide_false, cond_true, cond_false, seqJ_n, seqJ_r, seqJ_e, headK_c, asB_bool, asI_int, asS_s, asN_int, Bool.not_true, Bool.not_false, Nat.beq_refl]
    exact ⟨_, _, rfl, Keep.refl h0, OwnRow.nil _ _ _ _⟩
  · by_cases c2 : lags > 12
    · simp only [c1, c2, or_true, if_true, Option.bind_some, decide_true, decide_false, cond_true, cond_false, seqJ_n, seqJ_r, seqJ_e, headK_c, asB_bool, asI_int, asS_s, asN_int, Bool.not_true, Bool.not_false, Nat.beq_refl]
      exact ⟨_, _, rfl, Keep.refl h0, OwnRow.nil _ _ _ _⟩
    · simp only [c1, c2, or_false, if_false, refMay_is hx hb, Option.bind_some, decide_true, decide_false, cond_true, cond_false, seqJ_n, seqJ_r, seqJ_e, headK_c, asB_bool, asI_int, asS_s, asN_int, Bool.not_true, Bool.not_false, Nat.beq_refl]
      by_cases c3 : checkZ zs = 0
      · have hc : (checkZ zs != 0) = false := by simp [c3]
        obtain ⟨hz, hl⟩ := checkZ_ok c3
        obtain ⟨n, hn⟩ : ∃ n : Nat, lags = n := ⟨lags.toNat, by omega⟩
        subst hn
        have hw : ((n + 1 : Nat) : Int) - 1 = (n : Int) := by omega
        obtain ⟨y, μ', g1, g2, g3⟩ := refAuto_rows h0 hx hz hl (n := n + 1) (by omega) (n + 1) 0 μ .nilSlice (by omega) (Keep.refl h0) (OwnRow.nil _ _ _ _)
        have e0 : ((0 : Nat) : Int) = 0 := rfl
        rw [e0] at g1
        have e2 : ((n : Nat) : Int).toNat = n := by omega
        simp only [hc, c3, ne_eq, not_true_eq_false, if_false, e2, Option.bind_some, decide_true, decide_false, cond_true, cond_false, seqJ_n, seqJ_r, seqJ_e, headK_c, asB_bool, asI_int, asS_s, asN_int, Bool.not_true, Bool.not_false, Nat.beq_refl]
        rw [← hw, g1]
        simp only [Option.bind_some, decide_true, decide_false, cond_true, cond_false, seqJ_n, seqJ_r, seqJ_e, headK_c, asB_bool, asI_int, asS_s, asN_int, Bool.not_true, Bool.not_false, Nat.beq_refl]
        exact ⟨_, _, rfl, g2, g3⟩
      · have hc : (checkZ zs != 0) = true := by simp [c3]
        simp only [hc, c3, ne_eq, not_false_eq_true, if_true, Option.bind_some, decide_true, decide_false, cond_true, cond_false, seqJ_n, seqJ_r, seqJ_e, headK_c, asB_bool, asI_int, asS_s, asN_int, Bool.not_true, Bool.not_false, Nat.beq_refl]
        exact ⟨_, _, rfl, Keep.refl h0, OwnRow.nil _ _ _ _⟩
end Go.Proofs.Ytkcaigagilpomaa
