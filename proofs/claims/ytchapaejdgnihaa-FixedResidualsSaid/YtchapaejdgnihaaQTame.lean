/- Samples that are small; sums of a few of them. -/
import Derived.Test.YtchapaejdgnihaaKRows
import Derived.Test.YtchapaejdgnihaaKMayZ
namespace Go.Proofs.Ytchapaejdgnihaa
open Go Go.Proofs.Ytchapaejdgnihaa.E
set_option linter.unusedVariables false
set_option linter.unusedSimpArgs false
abbrev tame (zs : List Int) : Prop := ∀ v ∈ zs, -8388608 ≤ v ∧ v ≤ 8388607
theorem tame_take {xs : List Int} (hz : tame xs) (n : Nat) : tame (xs.take n) := fun v hv => hz v (List.mem_of_mem_take hv)
theorem tame_snoc {xs : List Int} {v : Int} (hz : tame xs) (h : okS v = true) : tame (xs ++ [v]) := by
  intro u hu
  rcases List.mem_append.mp hu with h1 | h1
  · exact hz u h1
  · rw [List.mem_singleton.mp h1]; exact okS_spec h
theorem getD_tame {zs : List Int} (hz : tame zs) (i : Nat) : -8388608 ≤ zs.getD i 0 ∧ zs.getD i 0 ≤ 8388607 := by
  rcases Nat.lt_or_ge i zs.length with h | h
  · exact hz _ (getD_mem h)
  · rw [List.getD_eq_getElem?_getD, List.getElem?_eq_none h]; exact ⟨by decide, by decide⟩
def fixC (p : Int) : List Int := if p = 1 then [1] else if p = 2 then [2, -1] else if p = 3 then [3, -3, 1] else if p = 4 then [4, -6, 4, -1] else []
theorem fixC_le (p : Int) : (fixC p).length ≤ 4 := by
  unfold fixC; split <;> (try split) <;> (try split) <;> (try split) <;> simp
theorem fixC_six (p : Int) : ∀ v ∈ fixC p, -6 ≤ v ∧ v ≤ 6 := by
  unfold fixC; split <;> (try split) <;> (try split) <;> (try split) <;> simp
theorem fixC_len {p : Int} (h : 0 ≤ p ∧ p ≤ 4) : (fixC p).length = p.toNat := by
  have : p = 0 ∨ p = 1 ∨ p = 2 ∨ p = 3 ∨ p = 4 := by omega
  rcases this with rfl | rfl | rfl | rfl | rfl <;> rfl
def fsum (zs cs : List Int) : Nat → Int
  | 0 => 0
  | n + 1 => fsum zs cs n + cs.getD n 0 * zs.getD (zs.length - 1 - n) 0
theorem getD_six {cs : List Int} (hc : ∀ v ∈ cs, -6 ≤ v ∧ v ≤ 6) (i : Nat) : -6 ≤ cs.getD i 0 ∧ cs.getD i 0 ≤ 6 := by
  rcases Nat.lt_or_ge i cs.length with h | h
  · exact hc _ (getD_mem h)
  · rw [List.getD_eq_getElem?_getD, List.getElem?_eq_none h]; exact ⟨by decide, by decide⟩
theorem fterm_le {zs cs : List Int} (hz : tame zs) (hc : ∀ v ∈ cs, -6 ≤ v ∧ v ≤ 6) (i : Nat) : -50331648 ≤ cs.getD i 0 * zs.getD (zs.length - 1 - i) 0 ∧ cs.getD i 0 * zs.getD (zs.length - 1 - i) 0 ≤ 50331648 := by
  have h1 := getD_six hc i
  have h2 := getD_tame hz (zs.length - 1 - i)
  exact prod_le (A := 6) (B := 8388608) h1.1 h1.2 h2.1 (by omega)
theorem fsum_le {zs cs : List Int} (hz : tame zs) (hc : ∀ v ∈ cs, -6 ≤ v ∧ v ≤ 6) : ∀ n : Nat, -(50331648 * n) ≤ fsum zs cs n ∧ fsum zs cs n ≤ 50331648 * n
  | 0 => by simp [fsum]
  | n + 1 => by
    have := fsum_le hz hc n
    have := fterm_le hz hc n
    simp only [fsum]; omega
def fguess (p : Int) (zs : List Int) : Int := fsum zs (fixC p) (fixC p).length
theorem fguess_le {p : Int} {zs : List Int} (hz : tame zs) : -201326592 ≤ fguess p zs ∧ fguess p zs ≤ 201326592 := by
  have h1 := fsum_le hz (fixC_six p) (fixC p).length
  have h2 := fixC_le p
  unfold fguess; omega
def fresE (xs : List Int) (p : Int) : Int := if 0 ≤ p ∧ p ≤ 4 ∧ p ≤ xs.length then checkZ xs else 1
def fresZ (xs : List Int) (p : Int) : List Int := if fresE xs p = 0 then leftZ (fguess p) p.toNat xs else []
end Go.Proofs.Ytchapaejdgnihaa
