/- What the small functions of chapter 06 come to: Within, cut, coef, Guess. -/
import Derived.Test.YtbknenfbdhginaaKWithin
namespace Go.Proofs.Ytbknenfbdhginaa
open Go Go.Proofs.Ytbknenfbdhginaa.E
set_option linter.unusedVariables false
set_option linter.unusedSimpArgs false
def coefB (p : Int) : Bool := decide (-32768 ≤ p) && decide (p ≤ 32767)
def cutZ (p : Int) : Int := if -16777216 ≤ p ∧ p ≤ 16777216 then p else 0
theorem coef_is (p : Int) (μ : AMem) : lpc_coef [.s (.int .i64 p)] μ = some (.s (.bool (coefB p)), μ) := by
  rw [lpc_coef_eq]; unfold coefB
  by_cases h : -32768 ≤ p
  · simp [h]
  · simp [h]
theorem cut_is (p : Int) (μ : AMem) : lpc_cut [.s (.int .i64 p)] μ = some (.s (.int .i64 (cutZ p)), μ) := by
  rw [lpc_cut_eq]; unfold cutZ
  by_cases h : p < -16777216
  · simp [h]; try omega
  · by_cases h2 : p > 16777216
    · simp [h, h2]; try omega
    · simp [h, h2]; try omega
def gterm (zs cs : List Int) (i : Nat) : Int := if coefB (cs.getD i 0) then cs.getD i 0 * cutZ (zs.getD (zs.length - 1 - i) 0) else 0
def gsum (zs cs : List Int) : Nat → Int
  | 0 => 0
  | n + 1 => gsum zs cs n + gterm zs cs n
theorem cutZ_le (p : Int) : -16777216 ≤ cutZ p ∧ cutZ p ≤ 16777216 := by unfold cutZ; split <;> omega
theorem gterm_le (zs cs : List Int) (i : Nat) : -549755813888 ≤ gterm zs cs i ∧ gterm zs cs i ≤ 549755813888 := by
  unfold gterm coefB
  split
  · rename_i h
    simp at h
    have := cutZ_le (zs.getD (zs.length - 1 - i) 0)
    have := prod_le (a := cs.getD i 0) (b := cutZ (zs.getD (zs.length - 1 - i) 0)) (A := 32768) (B := 16777216) (by simpa using h.1) (by have := h.2; simp at this ⊢; omega) this.1 this.2
    omega
  · omega
theorem gsum_le (zs cs : List Int) : ∀ n : Nat, -(549755813888 * n) ≤ gsum zs cs n ∧ gsum zs cs n ≤ 549755813888 * n
  | 0 => by simp [gsum]
  | n + 1 => by
    have := gsum_le zs cs n
    have := gterm_le zs cs n
    simp only [gsum]; omega
theorem guess_loop {μ : AMem} {x y : SV} {zs cs : List Int} (hx : IsRow μ .i64 x zs) (hy : IsRow μ .i64 y cs) (hlen : zs.length ≤ 4611686018427387904) {n : Nat} (hn : n ≤ 12) (hz : n ≤ zs.length) (hc : n ≤ cs.length) :
    ∀ k i : Nat, i + k = n → lpc_Guess_L1 [.s x, .s y, .s (.int .i64 n)] [.s (.int .i64 (gsum zs cs i)), .s (.int .i64 i)] μ = some (.exit 0, [.s (.int .i64 (gsum zs cs n))], μ)
  | 0, i, h => by
    rw [lpc_Guess_L1_eq, lpc_Guess_L1_B_eq]
    have : ¬ ((i : Int) < (n : Int)) := by omega
    obtain rfl : i = n := by omega
    simp
  | k + 1, i, h => by
    have hi : (i : Int) < (n : Int) := by omega
    have ih := guess_loop hx hy hlen hn hz hc k (i + 1) (by omega)
    rw [lpc_Guess_L1_eq, lpc_Guess_L1_B_eq]
    have hs := gsum_le zs cs i
    have ht := gterm_le zs cs i
    have e1 : IntKind.wrap .i64 ((i : Int) + 1) = ((i + 1 : Nat) : Int) := by rw [wr (by omega)]; omega
    have e2 : IntKind.wrap .i64 (IntKind.wrap .i64 (((zs.length : Nat) : Int) - 1) - (i : Int)) = ((zs.length - 1 - i : Nat) : Int) := by
      rw [wr (n := (zs.length : Int) - 1) (by omega), wr (by omega)]; omega
    have e3 : (((i : Nat) : Int)).toNat = i := by omega
    have e4 : (((zs.length - 1 - i : Nat) : Int)).toNat = zs.length - 1 - i := by omega
    have hgi : gsum zs cs (i + 1) = gsum zs cs i + gterm zs cs i := rfl
    simp only [hi, decide_true, cond_true]
    rw [hy.ind (by omega) (by omega), hy.load (by omega) (by omega), asI_int, coef_is, Option.bind_some, asB_bool, e3]
    by_cases hco : coefB (cs.getD i 0) = true
    · have hg : gterm zs cs i = cs.getD i 0 * cutZ (zs.getD (zs.length - 1 - i) 0) := by unfold gterm; rw [if_pos hco]
      have e5 : IntKind.wrap .i64 (cs.getD i 0 * cutZ (zs.getD (zs.length - 1 - i) 0)) = gterm zs cs i := by rw [← hg, wr (by omega)]
      have e6 : IntKind.wrap .i64 (gsum zs cs i + gterm zs cs i) = gsum zs cs (i + 1) := by rw [wr (by omega), hgi]
      rw [hco]
      simp only [cond_true]
      rw [hy.ind (by omega) (by omega), hy.load (by omega) (by omega), asI_int, hx.len, Option.bind_some, e2, hx.ind (by omega) (by omega), hx.load (by omega) (by omega), asI_int, cut_is, Option.bind_some, asI_int, e3, e4,
        checkA_pos (by rw [hy.load (by omega) (by omega), e3]), e5, e6]
      simp only [seqJ_n, headK_c, asI_int, e1, Option.bind_some]
      exact ih
    · have hg : gterm zs cs i = 0 := by unfold gterm; rw [if_neg hco]
      have hco' : coefB (cs.getD i 0) = false := by simpa using hco
      rw [hco']
      simp only [cond_false, seqJ_n, headK_c, asI_int, e1, Option.bind_some]
      have : gsum zs cs (i + 1) = gsum zs cs i := by rw [hgi, hg]; omega
      rw [this] at ih
      exact ih
def guessZ (zs cs : List Int) : Int := Int.fdiv (gsum zs cs (min 12 (min zs.length cs.length))) 4096
theorem guess_is {μ : AMem} {x y : SV} {zs cs : List Int} (hx : IsRow μ .i64 x zs) (hy : IsRow μ .i64 y cs) (hlen : zs.length ≤ 4611686018427387904) :
    lpc_Guess [.s x, .s y] μ = some (.s (.int .i64 (guessZ zs cs)), μ) := by
  rw [lpc_Guess_eq, hx.len, hy.len]
  simp only [Option.bind_some]
  have e : (if (12 : Int) < (if ((cs.length : Nat) : Int) < ((zs.length : Nat) : Int) then ((cs.length : Nat) : Int) else ((zs.length : Nat) : Int)) then (12 : Int) else (if ((cs.length : Nat) : Int) < ((zs.length : Nat) : Int) then ((cs.length : Nat) : Int) else ((zs.length : Nat) : Int))) = ((min 12 (min zs.length cs.length) : Nat) : Int) := by
    split <;> split at * <;> omega
  rw [e]
  have := guess_loop hx hy hlen (n := min 12 (min zs.length cs.length)) (by omega) (by omega) (by omega) _ 0 (Nat.zero_add _)
  have h0 : (0 : Int) = gsum zs cs 0 := rfl
  have h1 : ((0 : Nat) : Int) = 0 := rfl
  rw [h1] at this
  rw [show lpc_Guess_L1 [.s x, .s y, .s (.int .i64 ((min 12 (min zs.length cs.length) : Nat) : Int))] [.s (.int .i64 0), .s (.int .i64 0)] μ = _ from this]
  simp only [seqJ_e, Nat.beq_refl, cond_true, headK_c, asI_int, guessZ]
  rfl
end Go.Proofs.Ytbknenfbdhginaa
