/- Laws of digits; writers and readers side by side. -/
import Derived.Test.YtkbecppafippeaaQWrite2
import Derived.Test.YtkbecppafippeaaQReader
namespace Go.Proofs.Ytkbecppafippeaa
open Go Go.Proofs.Ytkbecppafippeaa.E
set_option linter.unusedVariables false
set_option linter.unusedSimpArgs false
theorem wrS {μ0 m m' : AMem} (h0 : WF μ0) (hs : Same μ0 m) {x : SV} {F : Nat → Prop} {ds : List Int} (h : Wr μ0.next m x F ds) (hk : Keep F m m') : Same μ0 m' := keepSame h0 hs hk fun j hj => (h.ids hj).1
theorem disjAfter {N : Nat} {m : AMem} (hw : WF m) {y : SV} {F F' G : Nat → Prop} {es : List Int} (hb : Wr N m y G es) (hd : ∀ j, F j → ¬ G j) (hF : ∀ j, F' j → F j ∨ m.next ≤ j) : ∀ j, F' j → ¬ G j := by
  intro j hj hg
  rcases hF j hj with h | h
  · exact hd j h hg
  · obtain ⟨_, o, ho⟩ := hb.ids hg
    have := hw.lt ho
    omega
theorem putD_get (v : Int) : ∀ (n j : Nat), j < n → (putD v n).getD j 0 = v / 2 ^ (n - 1 - j) % 2
  | 0, j, h => by omega
  | n + 1, 0, h => rfl
  | n + 1, j + 1, h => by
    show (putD v n).getD j 0 = _
    rw [putD_get v n j (by omega), show n + 1 - 1 - (j + 1) = n - 1 - j by omega]
theorem half_mod (w M : Int) (hM : 0 < M) : w % (2 * M) = 2 * ((w / 2) % M) + w % 2 := by
  have h1 := Int.mul_ediv_add_emod (w / 2) M
  have h2 := Int.emod_nonneg (w / 2) (show ¬ M = 0 by omega)
  have h3 := Int.emod_lt_of_pos (w / 2) hM
  have e : w = (2 * ((w / 2) % M) + w % 2) + 2 * M * (w / 2 / M) := by
    have : 2 * M * (w / 2 / M) = 2 * (M * (w / 2 / M)) := by rw [Int.mul_assoc]
    omega
  have h4 : w % (2 * M) = (2 * ((w / 2) % M) + w % 2) % (2 * M) := by
    conv => lhs; rw [e]
    rw [Int.add_mul_emod_self_left]
  rw [h4, Int.emod_eq_of_lt (by omega) (by omega)]
theorem pow_pos2 (n : Nat) : (0 : Int) < 2 ^ n := Int.pow_pos (by omega)
theorem div_pow_half (v : Int) (k : Nat) : v / 2 ^ k / 2 = v / 2 ^ (k + 1) := by
  rw [Int.pow_succ, ← Int.ediv_ediv_of_nonneg (Int.le_of_lt (pow_pos2 k))]
theorem numB_put {bs ds pre post : List Int} {v : Int} {n : Nat} (h : ∀ j, digB bs j = ds.getD j 0) (hd : ds = pre ++ (putD v n ++ post)) : ∀ m : Nat, m ≤ n → numB bs pre.length m = v / 2 ^ (n - m) % 2 ^ m
  | 0, _ => by simp [numB, Int.emod_one]
  | m + 1, hm => by
    rw [numB, numB_put h hd m (by omega), h, hd, getD_app, if_neg (by omega), getD_app, putD_len, if_pos (by omega), putD_get _ _ _ (by omega)]
    rw [show pre.length + m - pre.length = m by omega, show n - 1 - m = n - (m + 1) by omega]
    have e := half_mod (v / 2 ^ (n - (m + 1))) (2 ^ m) (pow_pos2 m)
    rw [div_pow_half, show n - (m + 1) + 1 = n - m by omega] at e
    rw [Int.pow_succ, Int.mul_comm (2 ^ m) 2, e]
theorem putD_split (v : Int) (m : Nat) : ∀ n : Nat, putD (v / 2 ^ m) n ++ putD v m = putD v (n + m)
  | 0 => by rw [Nat.zero_add]; rfl
  | n + 1 => by
    rw [show n + 1 + m = (n + m) + 1 by omega, putD, putD, List.cons_append, putD_split v m n]
    congr 2
    rw [Int.ediv_ediv_of_nonneg (Int.le_of_lt (pow_pos2 m)), ← Int.pow_add, Nat.add_comm m n]
theorem u64n {n : Nat} (h : n ≤ 1000000) : IntKind.wrap .u64 (n : Int) = n := by simp [IntKind.wrap, IntKind.signed, IntKind.bits]; omega
theorem and_mask {v : Int} (hv : 0 ≤ v ∧ v < 2305843009213693952) {m : Nat} (hm : m ≤ 60) : IntKind.wrap .i64 (BitVec.toNat ((BitVec.ofInt (IntKind.bits .i64) v) &&& (BitVec.ofInt (IntKind.bits .i64) (2 ^ m - 1)))) = v % 2 ^ m := by
  have hp := pow_le62 (n := m) (by omega)
  have hp0 := pow_pos2 m
  have e : (BitVec.toNat ((BitVec.ofInt (IntKind.bits .i64) v) &&& (BitVec.ofInt (IntKind.bits .i64) (2 ^ m - 1))) : Int) = v % 2 ^ m := by
    show ((BitVec.toNat ((BitVec.ofInt 64 v) &&& (BitVec.ofInt 64 (2 ^ m - 1))) : Nat) : Int) = v % 2 ^ m
    rw [BitVec.toNat_and, BitVec.toNat_ofInt, BitVec.toNat_ofInt]
    have h1 : (v % ((2 ^ 64 : Nat) : Int)).toNat = v.toNat := by omega
    have hc : ((2 : Int) ^ m) = ((2 ^ m : Nat) : Int) := by simp
    have h2 : ((2 ^ m - 1 : Int) % ((2 ^ 64 : Nat) : Int)).toNat = 2 ^ m - 1 := by rw [hc] at hp hp0 ⊢; omega
    rw [h1, h2, Nat.and_two_pow_sub_one_eq_mod, hc]
    have : v = ((v.toNat : Nat) : Int) := by omega
    rw [this]
    simp
  have h1 := Int.emod_nonneg v (show ¬ (2 : Int) ^ m = 0 by omega)
  have h2 := Int.emod_lt_of_pos v hp0
  rw [e, wr (by omega)]
theorem ones_all {bs : List Int} {a left : Nat} : ∀ k i : Nat, (∀ j, i ≤ j → j < i + k → digB bs (a + j) ≠ 0 ∧ j < left) → onesF bs a left k i = (((i + k : Nat) : Int), true, a + (i + k))
  | 0, i, _ => rfl
  | k + 1, i, h => by
    have h0 := h i (by omega) (by omega)
    rw [onesF, if_neg (by omega), if_neg h0.1, ones_all k (i + 1) (fun j h1 h2 => h j (by omega) (by omega)), show i + 1 + k = i + (k + 1) by omega]
theorem ones_stop {bs : List Int} {a left n : Nat} (hn : digB bs (a + n) = 0) (hl : n < left) : ∀ k i : Nat, i ≤ n → n < i + k → (∀ j, i ≤ j → j < n → digB bs (a + j) ≠ 0) → onesF bs a left k i = ((n : Int), true, a + n + 1)
  | 0, i, h1, h2, _ => by omega
  | k + 1, i, h1, h2, h => by
    rw [onesF, if_neg (by omega)]
    by_cases c : i = n
    · subst c; rw [if_pos hn]
    · rw [if_neg (h i (Nat.le_refl _) (by omega)), ones_stop hn hl k (i + 1) (by omega) (by omega) (fun j h1 h2 => h j (by omega) h2)]
theorem putD_01 (v : Int) : ∀ n, ∀ d ∈ putD v n, d = 0 ∨ d = 1
  | 0, d, h => by cases h
  | n + 1, d, h => by
    rcases List.mem_cons.mp h with h | h
    · rw [h]; omega
    · exact putD_01 v n d h
end Go.Proofs.Ytkbecppafippeaa
