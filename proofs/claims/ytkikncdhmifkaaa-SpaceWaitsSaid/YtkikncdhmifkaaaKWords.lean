/- Words of 64 digits. -/
import Derived.Test.YtkikncdhmifkaaaKStore
namespace Go.Proofs.Ytkikncdhmifkaaa
open Go Go.Proofs.Ytkikncdhmifkaaa.E
set_option linter.unusedVariables false
set_option linter.unusedSimpArgs false
def w64ok (w : Int) : Prop := 0 ≤ w ∧ w < 18446744073709551616
def bitV (w : Int) (j : Nat) : Bool := (BitVec.ofInt 64 w).getLsbD j
theorem wu64 {n : Int} (h : w64ok n) : IntKind.wrap .u64 n = n := by
  unfold w64ok at h
  simp [IntKind.wrap, IntKind.signed, IntKind.bits]; omega
theorem bv_ok (x : BitVec 64) : w64ok (x.toNat : Int) := by
  have := x.isLt
  unfold w64ok; omega
theorem ofInt_wrap (x : BitVec 64) : BitVec.ofInt 64 (IntKind.wrap .u64 (x.toNat : Int)) = x := by
  rw [wu64 (bv_ok x)]
  apply BitVec.eq_of_toNat_eq
  rw [BitVec.toNat_ofInt]
  have := x.isLt
  omega
def orW (w : Int) (r : Nat) : Int := IntKind.wrap .u64 (BitVec.toNat ((BitVec.ofInt (IntKind.bits .u64) w) ||| (BitVec.ofInt (IntKind.bits .u64) (IntKind.wrap .u64 (1 * 2 ^ r)))))
def clrW (w : Int) (r : Nat) : Int := IntKind.wrap .u64 (BitVec.toNat ((BitVec.ofInt (IntKind.bits .u64) w) &&& ~~~ (BitVec.ofInt (IntKind.bits .u64) (IntKind.wrap .u64 (1 * 2 ^ r)))))
theorem one_bit : ∀ r : Fin 64, BitVec.ofInt 64 (IntKind.wrap .u64 (1 * 2 ^ r.val)) = BitVec.twoPow 64 r.val := by decide +kernel
theorem orW_ok (w : Int) (r : Nat) : w64ok (orW w r) := by
  show w64ok (IntKind.wrap .u64 ((((BitVec.ofInt 64 w) ||| (BitVec.ofInt 64 (IntKind.wrap .u64 (1 * 2 ^ r)))).toNat : Nat) : Int))
  rw [wu64 (bv_ok _)]; exact bv_ok _
theorem clrW_ok (w : Int) (r : Nat) : w64ok (clrW w r) := by
  show w64ok (IntKind.wrap .u64 ((((BitVec.ofInt 64 w) &&& ~~~ (BitVec.ofInt 64 (IntKind.wrap .u64 (1 * 2 ^ r)))).toNat : Nat) : Int))
  rw [wu64 (bv_ok _)]; exact bv_ok _
theorem orW_bit (w : Int) {r j : Nat} (hr : r < 64) (hj : j < 64) : bitV (orW w r) j = if j = r then true else bitV w j := by
  unfold bitV
  have e : BitVec.ofInt 64 (orW w r) = (BitVec.ofInt 64 w) ||| (BitVec.ofInt 64 (IntKind.wrap .u64 (1 * 2 ^ r))) := ofInt_wrap _
  rw [e, one_bit ⟨r, hr⟩, BitVec.getLsbD_or, BitVec.getLsbD_twoPow]
  by_cases h : j = r
  · subst h; simp [hr]
  · rw [if_neg h]
    have : (r == j) = false := by simp; omega
    simp [this, hr]; omega
theorem clrW_bit (w : Int) {r j : Nat} (hr : r < 64) (hj : j < 64) : bitV (clrW w r) j = if j = r then false else bitV w j := by
  unfold bitV
  have e : BitVec.ofInt 64 (clrW w r) = (BitVec.ofInt 64 w) &&& ~~~ (BitVec.ofInt 64 (IntKind.wrap .u64 (1 * 2 ^ r))) := ofInt_wrap _
  rw [e, one_bit ⟨r, hr⟩, BitVec.getLsbD_and, BitVec.getLsbD_not, BitVec.getLsbD_twoPow]
  by_cases h : j = r
  · subst h; simp [hr]
  · rw [if_neg h]
    simp [hj]; omega
theorem full_bit : ∀ j : Fin 64, bitV 18446744073709551615 j.val = true := by decide +kernel
theorem zero_bit (j : Nat) : bitV 0 j = false := by unfold bitV; simp
/-- The program's look at a digit. -/
theorem look_bit {w : Int} (h : w64ok w) (r : Nat) : (IntKind.wrap .u64 (BitVec.toNat ((BitVec.ofInt (IntKind.bits .u64) (Int.fdiv w (2 ^ r))) &&& (BitVec.ofInt (IntKind.bits .u64) 1))) == 1) = bitV w r := by
  unfold w64ok at h
  have hp : (0 : Int) < 2 ^ r := Int.pow_pos (by omega)
  have e0 : Int.fdiv w (2 ^ r) = w / 2 ^ r := Int.fdiv_eq_ediv_of_nonneg _ (Int.le_of_lt hp)
  have hq : 0 ≤ w / 2 ^ r ∧ w / 2 ^ r ≤ w := ⟨Int.ediv_nonneg h.1 (Int.le_of_lt hp), Int.ediv_le_self _ h.1⟩
  have e1 : (BitVec.toNat ((BitVec.ofInt (IntKind.bits .u64) (w / 2 ^ r)) &&& (BitVec.ofInt (IntKind.bits .u64) 1)) : Int) = w / 2 ^ r % 2 := by
    show ((BitVec.toNat ((BitVec.ofInt 64 (w / 2 ^ r)) &&& (BitVec.ofInt 64 1)) : Nat) : Int) = _
    rw [BitVec.toNat_and, BitVec.toNat_ofInt, BitVec.toNat_ofInt]
    have : (1 : Int) % ((2 ^ 64 : Nat) : Int) = 1 := by decide
    rw [this, show (1 : Int).toNat = 1 from rfl, Nat.and_one_is_mod]
    omega
  rw [e0, e1, wu64 (by unfold w64ok; omega)]
  unfold bitV
  rw [BitVec.getLsbD, BitVec.toNat_ofInt]
  have e2 : (w % ((2 ^ 64 : Nat) : Int)).toNat = w.toNat := by omega
  rw [e2, Nat.testBit_eq_decide_div_mod_eq]
  have e3 : ((w.toNat / 2 ^ r % 2 : Nat) : Int) = w / 2 ^ r % 2 := by
    rw [Int.natCast_emod, Int.natCast_ediv, Int.natCast_pow]
    have : ((w.toNat : Nat) : Int) = w := by omega
    rw [this]; rfl
  by_cases hc : w.toNat / 2 ^ r % 2 = 1
  · rw [decide_eq_true hc, ← e3, hc]; rfl
  · rw [decide_eq_false hc]
    have : ¬ w / 2 ^ r % 2 = 1 := by omega
    simp [this]
def U (ws : List Int) (i : Nat) : Bool := bitV (ws.getD (i / 64) 0) (i % 64)
def setWd (ws : List Int) (i : Nat) (b : Bool) : List Int := ws.set (i / 64) (if b then orW (ws.getD (i / 64) 0) (i % 64) else clrW (ws.getD (i / 64) 0) (i % 64))
theorem getD_setW {l : List Int} {i j : Nat} {v : Int} (h : i < l.length) : (l.set i v).getD j 0 = if j = i then v else l.getD j 0 := by
  rw [List.getD_eq_getElem?_getD, List.getElem?_set]
  by_cases hj : i = j
  · rw [if_pos hj, if_pos hj.symm, if_pos h]; rfl
  · rw [if_neg hj, if_neg (fun e => hj e.symm), List.getD_eq_getElem?_getD]
theorem U_set {ws : List Int} {i : Nat} (h : i / 64 < ws.length) (b : Bool) (j : Nat) : U (setWd ws i b) j = if j = i then b else U ws j := by
  unfold U setWd
  rw [getD_setW h]
  by_cases c : j / 64 = i / 64
  · rw [if_pos c]
    cases b
    · rw [if_neg (by simp), clrW_bit _ (by omega) (by omega), c]
      by_cases c2 : j = i
      · subst c2; rw [if_pos rfl, if_pos rfl]
      · rw [if_neg (by omega), if_neg c2]
    · rw [if_pos rfl, orW_bit _ (by omega) (by omega), c]
      by_cases c2 : j = i
      · subst c2; rw [if_pos rfl, if_pos rfl]
      · rw [if_neg (by omega), if_neg c2]
  · rw [if_neg c]
    by_cases c2 : j = i
    · subst c2; exact absurd rfl c
    · rw [if_neg c2]
theorem setWd_len (ws : List Int) (i : Nat) (b : Bool) : (setWd ws i b).length = ws.length := by simp [setWd]
theorem setWd_ok {ws : List Int} (h : ∀ w ∈ ws, w64ok w) (i : Nat) (b : Bool) : ∀ w ∈ setWd ws i b, w64ok w := by
  intro w hw
  rcases List.mem_or_eq_of_mem_set hw with h1 | h1
  · exact h w h1
  · rw [h1]; cases b
    · exact clrW_ok _ _
    · exact orW_ok _ _
end Go.Proofs.Ytkikncdhmifkaaa
