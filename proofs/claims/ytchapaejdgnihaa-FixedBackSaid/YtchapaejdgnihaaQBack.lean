/- What is left makes the samples again. -/
import Derived.Test.YtchapaejdgnihaaKRun
import Derived.Test.YtchapaejdgnihaaQTame
import Derived.Test.YtchapaejdgnihaaKSamples
namespace Go.Proofs.Ytchapaejdgnihaa
open Go Go.Proofs.Ytchapaejdgnihaa.E
set_option linter.unusedVariables false
set_option linter.unusedSimpArgs false
theorem okS_of {v : Int} (h : -8388608 ≤ v ∧ v ≤ 8388607) : okS v = true := by
  unfold okS; rw [decide_eq_true (p := v ≤ 8388607) h.2, decide_eq_true (p := v ≥ -8388608) h.1]; rfl
theorem checkZ_tame {zs : List Int} (h : ∀ v ∈ zs, -8388608 ≤ v ∧ v ≤ 8388607) (hl : zs.length ≤ 64) : checkZ zs = 0 := by
  unfold checkZ
  rw [if_pos (List.all_eq_true.mpr fun v hv => okS_of (h v hv)), if_neg (by omega)]
theorem runL_left {g : List Int → Int} {xs : List Int} (hg : ∀ i : Nat, -2000000000 ≤ g (xs.take i) ∧ g (xs.take i) ≤ 2000000000) (hz : ∀ v ∈ xs, -8388608 ≤ v ∧ v ≤ 8388607) :
    ∀ k i : Nat, i + k = xs.length → runL g (xs.take i) ((List.range' i k).map fun j => xs.getD j 0 - g (xs.take j)) = some xs
  | 0, i, h => by
    show runL g (xs.take i) [] = _
    rw [runL, List.take_of_length_le (by omega)]
  | k + 1, i, h => by
    have ih := runL_left hg hz k (i + 1) (by omega)
    have hi : i < xs.length := by omega
    have hv := hz _ (getD_mem hi)
    have hgi := hg i
    rw [range_cons, runL, if_neg (by omega)]
    have e : IntKind.wrap .i64 (g (xs.take i) + (xs.getD i 0 - g (xs.take i))) = xs.getD i 0 := by rw [wr (by omega)]; omega
    rw [e, if_pos (okS_of hv), ← take_snoc hi]
    exact ih
theorem run_left {g : List Int → Int} {xs : List Int} (hg : ∀ i : Nat, -2000000000 ≤ g (xs.take i) ∧ g (xs.take i) ≤ 2000000000) (hz : ∀ v ∈ xs, -8388608 ≤ v ∧ v ≤ 8388607) (hl : xs.length ≤ 64) {n : Nat} (hn : n ≤ xs.length) :
    runE g (xs.take n) ((List.range' n (xs.length - n)).map fun j => xs.getD j 0 - g (xs.take j)) = 0 ∧ runZ g (xs.take n) ((List.range' n (xs.length - n)).map fun j => xs.getD j 0 - g (xs.take j)) = xs := by
  have h1 := runL_left hg hz (xs.length - n) n (by omega)
  have h2 : checkZ ((xs.take n).take 64) = 0 := checkZ_tame (tame_take (tame_take hz n) 64) (by simp; omega)
  unfold runE runZ
  rw [if_pos h2, if_pos h2, h1]
  simp only [show ¬ xs.length > 64 by omega, if_false, and_self]
theorem samples_tame {zs : List Int} : ∀ v ∈ zs.map (sampleZ false), -8388608 ≤ v ∧ v ≤ 8388607 := by
  intro v hv
  obtain ⟨u, _, rfl⟩ := List.mem_map.mp hv
  exact sampleZ_tame u
end Go.Proofs.Ytchapaejdgnihaa
