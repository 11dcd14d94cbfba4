/- Binary digits of bytes and of numbers. -/
import Derived.Test.YtkbecppafippeaaKStore
namespace Go.Proofs.Ytkbecppafippeaa
open Go Go.Proofs.Ytkbecppafippeaa.E
set_option linter.unusedVariables false
set_option linter.unusedSimpArgs false
/-- A byte's digit, the greatest first. -/
def digV (v : Int) (k : Nat) : Int := v / 2 ^ (7 - k) % 2
/-- A digit of bytes. -/
def digB (bs : List Int) (j : Nat) : Int := digV (bs.getD (j / 8) 0) (j % 8)
/-- Bytes hold just these digits, and noughts behind. -/
def holds (bs ds : List Int) : Prop := bs.length = (ds.length + 7) / 8 ∧ (∀ v ∈ bs, 0 ≤ v ∧ v < 256) ∧ ∀ j, digB bs j = ds.getD j 0
def orB (v : Int) (r : Nat) : Int := IntKind.wrap .u8 (BitVec.toNat ((BitVec.ofInt (IntKind.bits .u8) v) ||| (BitVec.ofInt (IntKind.bits .u8) (Int.fdiv 128 (2 ^ r)))))
theorem orB_fin : ∀ v : Fin 256, ∀ r : Fin 8, (0 ≤ orB (v.val : Int) r.val ∧ orB (v.val : Int) r.val < 256) ∧ ∀ k : Fin 8, digV (orB (v.val : Int) r.val) k.val = if k = r then 1 else digV (v.val : Int) k.val := by decide +kernel
theorem orB_dig {v : Int} (h : 0 ≤ v ∧ v < 256) {r : Nat} (hr : r < 8) : (0 ≤ orB v r ∧ orB v r < 256) ∧ ∀ k, k < 8 → digV (orB v r) k = if k = r then 1 else digV v k := by
  have := orB_fin ⟨v.toNat, by omega⟩ ⟨r, hr⟩
  have e : ((v.toNat : Nat) : Int) = v := by omega
  simp only [e] at this
  refine ⟨this.1, fun k hk => ?_⟩
  have h2 := this.2 ⟨k, hk⟩
  simp only [Fin.mk.injEq] at h2
  exact h2
theorem digV_zero (k : Nat) : digV 0 k = 0 := by unfold digV; simp
theorem digV_le (v : Int) (k : Nat) : 0 ≤ digV v k ∧ digV v k ≤ 1 := by unfold digV; omega
theorem byte_ext {v w : Int} (hv : 0 ≤ v ∧ v < 256) (hw : 0 ≤ w ∧ w < 256) (h : ∀ k, k < 8 → digV v k = digV w k) : v = w := by
  have h0 := h 0 (by omega)
  have h1 := h 1 (by omega)
  have h2 := h 2 (by omega)
  have h3 := h 3 (by omega)
  have h4 := h 4 (by omega)
  have h5 := h 5 (by omega)
  have h6 := h 6 (by omega)
  have h7 := h 7 (by omega)
  simp only [digV, Nat.reduceSub, Int.reducePow] at h0 h1 h2 h3 h4 h5 h6 h7
  omega
theorem holds_ext {bs cs ds : List Int} (h1 : holds bs ds) (h2 : holds cs ds) : bs = cs := by
  apply List.ext_getElem
  · rw [h1.1, h2.1]
  · intro i hb hc
    apply byte_ext (h1.2.1 _ (List.getElem_mem hb)) (h2.2.1 _ (List.getElem_mem hc))
    intro k hk
    have a := h1.2.2 (8 * i + k)
    have b := h2.2.2 (8 * i + k)
    unfold digB at a b
    rw [show (8 * i + k) / 8 = i by omega, show (8 * i + k) % 8 = k by omega] at a b
    rw [getD_lt hb] at a
    rw [getD_lt hc] at b
    rw [a, b]
theorem holds_nil : holds [] [] := by
  refine ⟨rfl, fun v h => (List.not_mem_nil h).elim, fun j => ?_⟩
  unfold digB; simp [digV_zero]
theorem getD_out {l : List Int} {i : Nat} (h : l.length ≤ i) : l.getD i 0 = 0 := by rw [List.getD_eq_getElem?_getD, List.getElem?_eq_none h]; rfl
theorem getD_app {l m : List Int} {i : Nat} : (l ++ m).getD i 0 = if i < l.length then l.getD i 0 else m.getD (i - l.length) 0 := by
  rw [List.getD_eq_getElem?_getD, List.getElem?_append]
  split <;> rw [List.getD_eq_getElem?_getD]
theorem getD_snoc {l : List Int} {d : Int} {i : Nat} : (l ++ [d]).getD i 0 = if i = l.length then d else l.getD i 0 := by
  rw [getD_app]
  by_cases h : i < l.length
  · rw [if_pos h, if_neg (by omega)]
  · rw [if_neg h]
    by_cases h2 : i = l.length
    · rw [if_pos h2, h2, Nat.sub_self]; rfl
    · rw [if_neg h2, getD_out (by simp; omega), getD_out (by omega)]
theorem getD_setB {l : List Int} {i j : Nat} {v : Int} (h : i < l.length) : (l.set i v).getD j 0 = if j = i then v else l.getD j 0 := by
  rw [List.getD_eq_getElem?_getD, List.getElem?_set]
  by_cases hj : i = j
  · rw [if_pos hj, if_pos hj.symm, if_pos h]; rfl
  · rw [if_neg hj, if_neg (fun e => hj e.symm), List.getD_eq_getElem?_getD]
/-- A new byte of noughts where one is begun. -/
def begun (bs : List Int) (n : Nat) : List Int := if n % 8 = 0 then bs ++ [0] else bs
theorem begun_spec {bs ds : List Int} (h : holds bs ds) : ds.length / 8 < (begun bs ds.length).length ∧ (begun bs ds.length).length = (ds.length + 8) / 8 ∧ (∀ v ∈ begun bs ds.length, 0 ≤ v ∧ v < 256) ∧ ∀ j, digB (begun bs ds.length) j = ds.getD j 0 := by
  obtain ⟨h1, h2, h3⟩ := h
  unfold begun
  by_cases c : ds.length % 8 = 0
  · rw [if_pos c]
    refine ⟨by simp; omega, by simp; omega, fun v hv => ?_, fun j => ?_⟩
    · rcases List.mem_append.mp hv with h | h
      · exact h2 v h
      · rw [List.mem_singleton.mp h]; omega
    · rw [← h3 j]
      unfold digB
      rw [getD_snoc]
      split
      · rename_i e
        rw [e, getD_out (Nat.le_refl _)]
      · rfl
  · rw [if_neg c]
    exact ⟨by omega, by omega, h2, h3⟩
/-- One more digit: a one is written, a nought is there. -/
theorem holds_one {bs ds : List Int} (h : holds bs ds) : holds ((begun bs ds.length).set (ds.length / 8) (orB ((begun bs ds.length).getD (ds.length / 8) 0) (ds.length % 8))) (ds ++ [1]) := by
  obtain ⟨h1, h2, h3, h4⟩ := begun_spec h
  have hv := h3 _ (getD_mem h1)
  obtain ⟨o1, o2⟩ := orB_dig hv (r := ds.length % 8) (by omega)
  refine ⟨by simp; omega, fun v hv' => ?_, fun j => ?_⟩
  · rcases List.mem_or_eq_of_mem_set hv' with h | h
    · exact h3 v h
    · rw [h]; exact o1
  · rw [getD_snoc]
    unfold digB
    rw [getD_setB h1]
    by_cases c : j / 8 = ds.length / 8
    · rw [if_pos c, o2 _ (by omega)]
      by_cases c2 : j % 8 = ds.length % 8
      · rw [if_pos c2, if_pos (by omega)]
      · rw [if_neg c2, if_neg (by omega), ← h4 j]; unfold digB; rw [c]
    · rw [if_neg c, if_neg (by omega), ← h4 j]; rfl
theorem holds_nought {bs ds : List Int} (h : holds bs ds) : holds (begun bs ds.length) (ds ++ [0]) := by
  obtain ⟨h1, h2, h3, h4⟩ := begun_spec h
  refine ⟨by simp; omega, h3, fun j => ?_⟩
  rw [getD_snoc, h4]
  split
  · rename_i e; rw [e, getD_out (Nat.le_refl _)]
  · rfl
/-- A digit of a number. -/
theorem and_one (a : Int) : IntKind.wrap .i64 (BitVec.toNat ((BitVec.ofInt (IntKind.bits .i64) a) &&& (BitVec.ofInt (IntKind.bits .i64) 1))) = a % 2 := by
  have e : (BitVec.toNat ((BitVec.ofInt (IntKind.bits .i64) a) &&& (BitVec.ofInt (IntKind.bits .i64) 1)) : Int) = a % 2 := by
    show ((BitVec.toNat ((BitVec.ofInt 64 a) &&& (BitVec.ofInt 64 1)) : Nat) : Int) = a % 2
    rw [BitVec.toNat_and, BitVec.toNat_ofInt, BitVec.toNat_ofInt]
    have : (1 : Int) % ((2 ^ 64 : Nat) : Int) = 1 := by decide
    rw [this, show (1 : Int).toNat = 1 from rfl, Nat.and_one_is_mod]
    omega
  rw [e, wr (by omega)]
theorem or_one {v d : Int} (hv : 0 ≤ v ∧ v < 2305843009213693952) (hd : d = 0 ∨ d = 1) : IntKind.wrap .i64 (BitVec.toNat ((BitVec.ofInt (IntKind.bits .i64) (IntKind.wrap .i64 (v * 2 ^ (1 : Nat)))) ||| (BitVec.ofInt (IntKind.bits .i64) d))) = 2 * v + d := by
  have hw : IntKind.wrap .i64 (v * 2 ^ (1 : Nat)) = 2 * v := by rw [show (2 : Int) ^ (1 : Nat) = 2 from rfl, wr (by omega)]; omega
  rw [hw]
  have e : (BitVec.toNat ((BitVec.ofInt (IntKind.bits .i64) (2 * v)) ||| (BitVec.ofInt (IntKind.bits .i64) d)) : Int) = 2 * v + d := by
    show ((BitVec.toNat ((BitVec.ofInt 64 (2 * v)) ||| (BitVec.ofInt 64 d)) : Nat) : Int) = 2 * v + d
    rw [BitVec.toNat_or, BitVec.toNat_ofInt, BitVec.toNat_ofInt]
    have h1 : ((2 * v) % ((2 ^ 64 : Nat) : Int)).toNat = v.toNat <<< 1 := by rw [Nat.shiftLeft_eq]; omega
    have h2 : (d % ((2 ^ 64 : Nat) : Int)).toNat = d.toNat := by omega
    rw [h1, h2, ← Nat.shiftLeft_add_eq_or_of_lt (by omega), Nat.shiftLeft_eq]
    omega
  rw [e, wr (by omega)]
/-- n digits of a number, the greatest first. -/
def putD (v : Int) : Nat → List Int
  | 0 => []
  | k + 1 => (v / 2 ^ k % 2) :: putD v k
theorem putD_len (v : Int) : ∀ n, (putD v n).length = n
  | 0 => rfl
  | n + 1 => by rw [putD, List.length_cons, putD_len v n]
/-- The number of the digits from one on. -/
def numB (bs : List Int) (at_ : Nat) : Nat → Int
  | 0 => 0
  | n + 1 => 2 * numB bs at_ n + digB bs (at_ + n)
theorem digB_le (bs : List Int) (j : Nat) : 0 ≤ digB bs j ∧ digB bs j ≤ 1 := digV_le _ _
theorem numB_le (bs : List Int) (at_ : Nat) : ∀ n : Nat, 0 ≤ numB bs at_ n ∧ numB bs at_ n < 2 ^ n
  | 0 => by simp [numB]
  | n + 1 => by
    have h1 := numB_le bs at_ n
    have h2 := digB_le bs (at_ + n)
    rw [numB, Int.pow_succ]; omega
theorem pow_le62 {n : Nat} (h : n ≤ 61) : (2 : Int) ^ n ≤ 2305843009213693952 := by
  have h1 : (2 : Nat) ^ n ≤ 2 ^ 61 := Nat.pow_le_pow_right (by omega) h
  have e : ((2 : Int) ^ n) = ((2 ^ n : Nat) : Int) := by simp
  rw [e]
  have h3 : (2 : Nat) ^ 61 = 2305843009213693952 := by decide
  omega
end Go.Proofs.Ytkbecppafippeaa
