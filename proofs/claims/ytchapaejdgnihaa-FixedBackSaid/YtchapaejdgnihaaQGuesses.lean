/- What fixed predictors guess, told by their samples. -/
import Derived.Test.YtchapaejdgnihaaQTame
namespace Go.Proofs.Ytchapaejdgnihaa
open Go Go.Proofs.Ytchapaejdgnihaa.E
set_option linter.unusedVariables false
set_option linter.unusedSimpArgs false
theorem getD_take {xs : List Int} {j k : Nat} (h : k < j) : (xs.take j).getD k 0 = xs.getD k 0 := by
  rw [List.getD_eq_getElem?_getD, List.getD_eq_getElem?_getD, List.getElem?_take, if_pos h]
theorem fg0 (zs : List Int) : fguess 0 zs = 0 := rfl
theorem fg1 {xs : List Int} {j : Nat} (h1 : 1 ≤ j) (h : j ≤ xs.length) : fguess 1 (xs.take j) = xs.getD (j - 1) 0 := by
  show 0 + 1 * (xs.take j).getD ((xs.take j).length - 1 - 0) 0 = _
  rw [List.length_take, Nat.min_eq_left h, getD_take (by omega)]; simp only [Nat.sub_zero]; omega
theorem fg2 {xs : List Int} {j : Nat} (h1 : 2 ≤ j) (h : j ≤ xs.length) : fguess 2 (xs.take j) = 2 * xs.getD (j - 1) 0 - xs.getD (j - 2) 0 := by
  show 0 + 2 * (xs.take j).getD ((xs.take j).length - 1 - 0) 0 + -1 * (xs.take j).getD ((xs.take j).length - 1 - 1) 0 = _
  rw [List.length_take, Nat.min_eq_left h, getD_take (by omega), getD_take (by omega)]
  simp only [Nat.sub_zero, Nat.sub_sub, Nat.reduceAdd]; omega
theorem fg3 {xs : List Int} {j : Nat} (h1 : 3 ≤ j) (h : j ≤ xs.length) : fguess 3 (xs.take j) = 3 * xs.getD (j - 1) 0 - 3 * xs.getD (j - 2) 0 + xs.getD (j - 3) 0 := by
  show 0 + 3 * (xs.take j).getD ((xs.take j).length - 1 - 0) 0 + -3 * (xs.take j).getD ((xs.take j).length - 1 - 1) 0 + 1 * (xs.take j).getD ((xs.take j).length - 1 - 2) 0 = _
  rw [List.length_take, Nat.min_eq_left h, getD_take (by omega), getD_take (by omega), getD_take (by omega)]
  simp only [Nat.sub_zero, Nat.sub_sub, Nat.reduceAdd]; omega
theorem fg4 {xs : List Int} {j : Nat} (h1 : 4 ≤ j) (h : j ≤ xs.length) : fguess 4 (xs.take j) = 4 * xs.getD (j - 1) 0 - 6 * xs.getD (j - 2) 0 + 4 * xs.getD (j - 3) 0 - xs.getD (j - 4) 0 := by
  show 0 + 4 * (xs.take j).getD ((xs.take j).length - 1 - 0) 0 + -6 * (xs.take j).getD ((xs.take j).length - 1 - 1) 0 + 4 * (xs.take j).getD ((xs.take j).length - 1 - 2) 0 + -1 * (xs.take j).getD ((xs.take j).length - 1 - 3) 0 = _
  rw [List.length_take, Nat.min_eq_left h, getD_take (by omega), getD_take (by omega), getD_take (by omega), getD_take (by omega)]
  simp only [Nat.sub_zero, Nat.sub_sub, Nat.reduceAdd]; omega
theorem fg_next {xs : List Int} {p : Int} (hp : 0 ≤ p ∧ p ≤ 3) {j : Nat} (hj : p ≤ j) (h : j < xs.length) :
    fguess (p + 1) (xs.take (j + 1)) = fguess p (xs.take (j + 1)) + xs.getD j 0 - fguess p (xs.take j) := by
  have : p = 0 ∨ p = 1 ∨ p = 2 ∨ p = 3 := by omega
  rcases this with rfl | rfl | rfl | rfl
  · rw [show (0 : Int) + 1 = 1 from rfl, fg1 (by omega) (by omega), fg0, fg0]; simp
  · rw [show (1 : Int) + 1 = 2 from rfl, fg2 (by omega) (by omega), fg1 (by omega) (by omega), fg1 (by omega) (by omega), show j + 1 - 1 = j by omega, show j + 1 - 2 = j - 1 by omega]; omega
  · rw [show (2 : Int) + 1 = 3 from rfl, fg3 (by omega) (by omega), fg2 (by omega) (by omega), fg2 (by omega) (by omega), show j + 1 - 1 = j by omega, show j + 1 - 2 = j - 1 by omega, show j + 1 - 3 = j - 2 by omega]; omega
  · rw [show (3 : Int) + 1 = 4 from rfl, fg4 (by omega) (by omega), fg3 (by omega) (by omega), fg3 (by omega) (by omega), show j + 1 - 1 = j by omega, show j + 1 - 2 = j - 1 by omega, show j + 1 - 3 = j - 2 by omega, show j + 1 - 4 = j - 3 by omega]; omega
theorem leftZ_getD (g : List Int → Int) (n : Nat) (xs : List Int) {i : Nat} (h : n + i < xs.length) : (leftZ g n xs).getD i 0 = xs.getD (n + i) 0 - g (xs.take (n + i)) := by
  unfold leftZ
  rw [List.getD_eq_getElem?_getD, List.getElem?_map, List.getElem?_range' (by omega)]
  simp only [Option.map_some, Nat.one_mul, Option.getD_some]
theorem leftZ_len (g : List Int → Int) (n : Nat) (xs : List Int) : (leftZ g n xs).length = xs.length - n := by simp [leftZ]
end Go.Proofs.Ytchapaejdgnihaa
