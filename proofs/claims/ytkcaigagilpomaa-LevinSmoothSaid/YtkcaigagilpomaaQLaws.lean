/- Laws of sums of products and of scaling. -/
import Derived.Test.YtkcaigagilpomaaQLevin2
namespace Go.Proofs.Ytkcaigagilpomaa
open Go Go.Proofs.Ytkcaigagilpomaa.E
set_option linter.unusedVariables false
set_option linter.unusedSimpArgs false
theorem cfZ_congr {xs ys : List Int} {p : Int} (h1 : checkZ xs = checkZ ys) (h2 : xs.length = ys.length) (h3 : autoZ xs p = autoZ ys p) : cfZ xs p = cfZ ys p := by
  have hr : cfR xs p = cfR ys p := by unfold cfR; rw [h3]
  have hk : cfOK xs p ↔ cfOK ys p := by unfold cfOK; rw [h1, h2]
  unfold cfZ
  by_cases h : cfOK xs p
  · rw [if_pos h, if_pos (hk.mp h), hr]
  · rw [if_neg h, if_neg (fun h' => h (hk.mpr h'))]
theorem checkZ_tameA {zs : List Int} (h : ∀ v ∈ zs, -8388608 ≤ v ∧ v ≤ 8388607) (hl : zs.length ≤ 64) : checkZ zs = 0 := by
  unfold checkZ
  rw [if_pos (List.all_eq_true.mpr fun v hv => ?_), if_neg (by omega)]
  have := h v hv
  unfold okS; rw [decide_eq_true (p := v ≤ 8388607) this.2, decide_eq_true (p := v ≥ -8388608) this.1]; rfl
theorem auto_tame {xs : List Int} {p : Int} (h : ∀ v ∈ xs, -8388608 ≤ v ∧ v ≤ 8388607) (hl : xs.length ≤ 64) (hp : 0 ≤ p ∧ p ≤ 12) : autoE xs p = 0 ∧ autoZ xs p = (List.range (p.toNat + 1)).map (dotZ xs) := by
  have := checkZ_tameA h hl
  unfold autoE autoZ
  rw [if_neg (by omega), if_neg (by omega), if_neg (by omega), if_neg (by omega)]
  exact ⟨rfl, rfl⟩
theorem asum_neg {xs ys : List Int} (h : ∀ i, ys.getD i 0 = - xs.getD i 0) (k : Nat) : ∀ n, asum ys k n = asum xs k n
  | 0 => rfl
  | n + 1 => by rw [asum, asum, asum_neg h k n, h, h, Int.neg_mul_neg]
def sumN (f : Nat → Int) : Nat → Int
  | 0 => 0
  | n + 1 => sumN f n + f n
theorem sumN_congr {f g : Nat → Int} : ∀ n, (∀ i, i < n → f i = g i) → sumN f n = sumN g n
  | 0, _ => rfl
  | n + 1, h => by rw [sumN, sumN, sumN_congr n (fun i hi => h i (by omega)), h n (by omega)]
theorem sumN_first (f : Nat → Int) : ∀ n, sumN f (n + 1) = f 0 + sumN (fun i => f (i + 1)) n
  | 0 => by simp [sumN]
  | n + 1 => by rw [sumN, sumN_first f n, sumN]; omega
theorem sumN_back (f : Nat → Int) : ∀ n, sumN (fun i => f (n - 1 - i)) n = sumN f n
  | 0 => rfl
  | n + 1 => by
    rw [sumN_first, sumN]
    have := sumN_back f n
    rw [show n + 1 - 1 - 0 = n by omega, ← this]
    have e : sumN (fun i => f (n + 1 - 1 - (i + 1))) n = sumN (fun i => f (n - 1 - i)) n := sumN_congr n fun i hi => by rw [show n + 1 - 1 - (i + 1) = n - 1 - i by omega]
    rw [e]; omega
theorem asum_sumN (xs : List Int) (k : Nat) : ∀ n, asum xs k n = sumN (fun i => xs.getD (k + i) 0 * xs.getD i 0) n
  | 0 => rfl
  | n + 1 => by rw [asum, sumN, asum_sumN xs k n]
theorem dot_back {xs ys : List Int} (hl : ys.length = xs.length) (h : ∀ i, i < xs.length → ys.getD i 0 = xs.getD (xs.length - 1 - i) 0) (k : Nat) : dotZ ys k = dotZ xs k := by
  unfold dotZ
  rw [asum_sumN, asum_sumN, hl, ← sumN_back (fun i => xs.getD (k + i) 0 * xs.getD i 0)]
  apply sumN_congr
  intro i hi
  rw [h _ (by omega), h _ (by omega)]
  rw [show xs.length - 1 - (k + i) = xs.length - k - 1 - i by omega, show k + (xs.length - k - 1 - i) = xs.length - 1 - i by omega, Int.mul_comm]
theorem scaleF_spec {r : Int} (h0 : 0 ≤ r) (h1 : r ≤ 1152921504606846976) : ∀ f s, f + s = 40 → (s = 0 ∨ r / 2 ^ (s - 1) ≥ 1073741824) → r / 2 ^ (scaleF r f s) < 1073741824 ∧ (scaleF r f s = 0 ∨ r / 2 ^ (scaleF r f s - 1) ≥ 1073741824)
  | 0, s, h, hs => by
    have : s = 40 := by omega
    subst this
    have := end40 h0 h1
    exact ⟨by show r / 2 ^ 40 < _; omega, hs⟩
  | f + 1, s, h, hs => by
    unfold scaleF
    split
    · rename_i hc
      exact scaleF_spec h0 h1 f (s + 1) (by omega) (.inr (by simpa using hc))
    · rename_i hc
      exact ⟨by omega, hs⟩
theorem scale_spec {r : Int} (h0 : 0 ≤ r) (h1 : r ≤ 1152921504606846976) : r / 2 ^ scaleS r < 1073741824 ∧ (scaleS r = 0 ∨ (r / 2 ^ scaleS r ≥ 536870912 ∧ r ≥ 1073741824 * 2 ^ (scaleS r - 1))) := by
  have h := scaleF_spec h0 h1 40 0 rfl (.inl rfl)
  refine ⟨h.1, ?_⟩
  rcases h.2 with h2 | h2
  · exact .inl h2
  · rcases Nat.eq_zero_or_pos (scaleS r) with h3 | h3
    · exact .inl h3
    · obtain ⟨t, ht⟩ : ∃ t, scaleS r = t + 1 := ⟨scaleS r - 1, by omega⟩
      have h4 : r / 2 ^ t ≥ 1073741824 := by
        have : scaleF r 40 0 = t + 1 := ht
        rw [this] at h2; exact h2
      have hp : (0 : Int) < 2 ^ t := Int.pow_pos (by omega)
      refine .inr ⟨?_, ?_⟩
      · rw [ht, Int.pow_succ, ← Int.ediv_ediv_of_nonneg (Int.le_of_lt hp)]; omega
      · rw [ht, show t + 1 - 1 = t by omega]
        have := (Int.le_ediv_iff_mul_le hp).mp h4
        exact this
end Go.Proofs.Ytkcaigagilpomaa
