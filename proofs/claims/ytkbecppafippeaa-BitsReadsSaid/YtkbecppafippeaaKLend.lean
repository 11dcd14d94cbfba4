/- Lent bytes: a copy with room behind it, and that it is as it was. -/
import Derived.Test.YtkbecppafippeaaKArr
import Derived.Test.YtkbecppafippeaaKStore
import Derived.Test.YtkbecppafippeaaKBox
namespace Go.Proofs.Ytkbecppafippeaa
open Go Go.Proofs.Ytkbecppafippeaa.E
set_option linter.unusedVariables false
set_option linter.unusedSimpArgs false
/-- Bytes with three more behind them. -/
def Lent (μ : AMem) (y : SV) (bs : List Int) : Prop := ∃ id, y = .slice id 0 0 bs.length ∧ μ.obj id = some (rowObj ((bs ++ [85, 85, 85]).map (.int .u8)) 1 5 (some (bs.length + 3)))
theorem Lent.row {μ : AMem} {y : SV} {bs : List Int} (h : Lent μ y bs) : IsRow μ .u8 y bs := by
  obtain ⟨id, rfl, ho⟩ := h
  refine .inr ⟨id, 0, 0, _, rfl, ho, rfl, by simp [rowObj], fun i n hi => ?_⟩
  have hlt := (List.getElem?_eq_some_iff.mp hi).1
  simp only [rowObj, Nat.zero_add, List.getElem?_map]
  rw [List.getElem?_append_left hlt, hi]; rfl
theorem Lent.keep {S : Nat → Prop} {μ μ' : AMem} {y : SV} {bs : List Int} (h : Lent μ y bs) (hk : Keep S μ μ') (hS : ∀ j, S j → ¬ isId y j) : Lent μ' y bs := by
  obtain ⟨id, rfl, ho⟩ := h
  exact ⟨id, rfl, hk.old id _ ho fun hs => hS id hs rfl⟩
theorem lend_step (M : AMem) (id n : Nat) (s3 : SV) (cs : List SV) (hc : cs.length = n + 3) (hn : n ≤ 1000000) {i : Nat} (hi : i < n + 3) :
    overdubkeep_Lend_L1 [.s s3, .s (.slice id 0 0 (n + 3))] [.s (.int .i64 (i : Int))] (M.set id (rowObj cs 1 5 (some (n + 3)))) = overdubkeep_Lend_L1 [.s s3, .s (.slice id 0 0 (n + 3))] [.s (.int .i64 ((i + 1 : Nat) : Int))] (M.set id (rowObj (cs.set i (.int .u8 85)) 1 5 (some (n + 3)))) := by
  have hd : ∀ {R : Type} (K : AV → Option R), indS 1 (.s (.slice id 0 0 (n + 3))) (i : Int) K = K (.s (.ptr id 0 (0 + i))) := fun K => by
    simp only [indS, nat_toNat, Nat.mul_one]
    rw [if_pos ⟨by omega, by omega⟩]
  have hst : ∀ {R : Type} (K : AMem → Option R), storeAt 1 (M.set id (rowObj cs 1 5 (some (n + 3)))) (.s (.ptr id 0 (0 + i))) (.s (.int .u8 85)) K = K (M.set id (rowObj (cs.set i (.int .u8 85)) 1 5 (some (n + 3)))) := fun K => by
    simp only [storeAt, AV.cells, List.length_cons, List.length_nil, AMem.store, set_self, Option.bind_some, rowObj, if_true, true_and, Nat.zero_add]
    rw [if_pos (by omega), Option.bind_some, set_set, overA_set _ (by omega)]
  have ei : IntKind.wrap .i64 ((i : Int) + 1) = ((i + 1 : Nat) : Int) := by rw [wr (by omega)]; rfl
  rw [overdubkeep_Lend_L1_eq, overdubkeep_Lend_L1_B_eq]
  simp -implicitDefEqProofs only [lenS_slice, lt_t (show (i : Int) < ((n + 3 : Nat) : Int) by omega), hd, hst, ei, Option.bind_some, decide_true, decide_false, cond_true, cond_false, seqJ_n, seqJ_r, seqJ_e, headK_c, asB_bool, asI_int, asS_s, asN_int, extrK_0, extrK_1, extrK_2, Bool.not_true, Bool.not_false, Nat.beq_refl]
theorem lend_is {μ : AMem} (h0 : WF μ) {x : SV} {bs : List Int} (hx : IsRow μ .u8 x bs) (hl : bs.length ≤ 1000000) :
    ∃ y μ', overdubkeep_Lend [.s x] μ = some (.s y, μ') ∧ Same μ μ' ∧ Lent μ' y bs := by
  obtain ⟨n, hn⟩ : ∃ n, n = bs.length := ⟨_, rfl⟩
  have e3 : IntKind.wrap .i64 ((n : Int) + 3) = ((n + 3 : Nat) : Int) := by rw [wr (by omega)]; rfl
  have hif : 0 ≤ (n : Int) ∧ (n : Int) ≤ ((n + 3 : Nat) : Int) ∧ ((n + 3 : Nat) : Int) ≤ 9223372036854775807 ∧ ((1 : Nat) : Int) * ((n + 3 : Nat) : Int) ≤ 140737488355328 := by omega
  have hz : zerosA [.int .u8 0] (n + 3) = List.replicate n (SV.int .u8 0) ++ [.int .u8 0, .int .u8 0, .int .u8 0] := by rw [zerosA_rep, ← List.replicate_append_replicate]; rfl
  have hcp : ∀ {R : Type} (K : AV → AMem → Option R), copyA 1 ((μ.bump 7).set (μ.next + 5) (rowObj (List.replicate n (SV.int .u8 0) ++ [.int .u8 0, .int .u8 0, .int .u8 0]) 1 5 (some (n + 3)))) (.s (.slice (μ.next + 5) 0 0 n)) (.s x) K =
      K (.s (.int .i64 (n : Int))) ((μ.bump 7).set (μ.next + 5) (rowObj (bs.map (.int .u8) ++ [.int .u8 0, .int .u8 0, .int .u8 0]) 1 5 (some (n + 3)))) := fun K => by
    have hx' : IsRow ((μ.bump 7).set (μ.next + 5) (rowObj (List.replicate n (SV.int .u8 0) ++ [.int .u8 0, .int .u8 0, .int .u8 0]) 1 5 (some (n + 3)))) .u8 x bs := hx.same (Same.bumpSet h0 (by omega) _)
    obtain ⟨g1, g2⟩ := row_cells hx'
    rw [← hn] at g1 g2
    simp only [copyA, lenS_slice, g1, Option.bind_some, Nat.min_self]
    by_cases h : n = 0
    · have : bs = [] := List.eq_nil_of_length_eq_zero (by omega)
      subst this
      rw [if_pos h]; subst h; rfl
    · rw [if_neg h, g2]
      simp only [Option.bind_some, AMem.store, set_self, rowObj, true_and, List.length_map]
      rw [if_pos (by simp; omega), Option.bind_some, set_set]
      congr 2
      congr 1
      unfold E.overA
      rw [List.take_zero, List.nil_append, List.length_map, ← hn, Nat.zero_add, List.drop_left' (by simp)]
  have hcut : ∀ (M : AMem) (cs : List SV) {R : Type} (K : AV → Option R), cutM 1 (M.set (μ.next + 5) (rowObj cs 1 5 (some (n + 3)))) (.s (.slice (μ.next + 5) 0 0 n)) 0 ((n + 3 : Nat) : Int) K = K (.s (.slice (μ.next + 5) 0 0 (n + 3))) := fun M cs R K => by
    simp only [cutM, set_self, Option.bind_some, rowObj, if_true]
    rw [if_pos ⟨by omega, by omega, by omega⟩, show 0 + (0 : Int).toNat * 1 = 0 from rfl, show ((n + 3 : Nat) : Int).toNat - (0 : Int).toNat = n + 3 by omega]
  have hset : (((bs.map (SV.int .u8) ++ [SV.int .u8 0, SV.int .u8 0, SV.int .u8 0]).set n (SV.int .u8 85)).set (n + 1) (SV.int .u8 85)).set (n + 2) (SV.int .u8 85) = (bs ++ [85, 85, 85]).map (SV.int .u8) := by
    rw [List.set_append_right _ _ (by simp; omega), List.set_append_right _ _ (by simp; omega), List.set_append_right _ _ (by simp; omega)]
    have h0 : n - (bs.map (SV.int .u8)).length = 0 := by simp; omega
    have h1 : n + 1 - (bs.map (SV.int .u8)).length = 1 := by simp; omega
    have h2 : n + 2 - (bs.map (SV.int .u8)).length = 2 := by simp; omega
    rw [h0, h1, h2, List.map_append]
    rfl
  refine ⟨.slice (μ.next + 5) 0 0 n, (μ.bump 7).set (μ.next + 5) (rowObj ((bs ++ [85, 85, 85]).map (.int .u8)) 1 5 (some (n + 3))), ?_, Same.bumpSet h0 (by omega) _, ⟨μ.next + 5, by rw [hn], by rw [← hn]; exact set_self _ _ _⟩⟩
  have hL := lend_step (μ.bump 7) (μ.next + 5) n (.slice (μ.next + 5) 0 0 n) (bs.map (SV.int .u8) ++ [SV.int .u8 0, SV.int .u8 0, SV.int .u8 0]) (by simp; omega) (by omega) (i := n) (by omega)
  rw [lend_step (i := n + 1) _ _ _ _ _ (by simp; omega) (by omega) (by omega), lend_step (i := n + 2) _ _ _ _ _ (by simp; omega) (by omega) (by omega), hset] at hL
  rw [overdubkeep_Lend_L1_eq _ [.s (.int .i64 ((n + 2 + 1 : Nat) : Int))], overdubkeep_Lend_L1_B_eq] at hL
  simp -implicitDefEqProofs only [lenS_slice, lt_f (show ((n + 3 : Nat) : Int) ≤ ((n + 2 + 1 : Nat) : Int) by omega), Option.bind_some, decide_true, decide_false, cond_true, cond_false, seqJ_n, seqJ_r, seqJ_e, headK_c, asB_bool, asI_int, asS_s, asN_int, extrK_0, extrK_1, extrK_2, Bool.not_true, Bool.not_false, Nat.beq_refl] at hL
  rw [overdubkeep_Lend_eq]
  simp only [hx.len, ← hn, Option.bind_some, e3]
  rw [if_pos hif]
  simp -implicitDefEqProofs only [nat_toNat, hz, hcp, hcut, hL, Option.bind_some, decide_true, decide_false, cond_true, cond_false, seqJ_n, seqJ_r, seqJ_e, headK_c, asB_bool, asI_int, asS_s, asN_int, extrK_0, extrK_1, extrK_2, Bool.not_true, Bool.not_false, Nat.beq_refl]
theorem intact_loop {μ : AMem} {x z : SV} {bs : List Int} (hz : IsRow μ .u8 z (bs ++ [85, 85, 85])) (hx : IsRow μ .u8 x bs) (hl : bs.length ≤ 1000000) :
    ∀ k i : Nat, i + k = bs.length + 3 → overdubkeep_Intact_L1 [.s x, .s z, .s (.int .i64 ((bs.length + 3 : Nat) : Int))] [.s (.int .i64 (i : Int))] μ = some (.exit 0, [], μ)
  | 0, i, h => by
    rw [overdubkeep_Intact_L1_eq, overdubkeep_Intact_L1_B_eq]
    simp -implicitDefEqProofs only [lt_f (show ((bs.length + 3 : Nat) : Int) ≤ (i : Int) by omega), Option.bind_some, decide_true, decide_false, cond_true, cond_false, seqJ_n, seqJ_r, seqJ_e, headK_c, asB_bool, asI_int, asS_s, asN_int, extrK_0, extrK_1, extrK_2, Bool.not_true, Bool.not_false, Nat.beq_refl]
  | k + 1, i, h => by
    have ih := intact_loop hz hx hl k (i + 1) (by omega)
    have hi : i < bs.length + 3 := by omega
    have hzl : (bs ++ [85, 85, 85]).length = bs.length + 3 := by simp
    have ei : IntKind.wrap .i64 ((i : Int) + 1) = ((i + 1 : Nat) : Int) := by rw [wr (by omega)]; rfl
    have g1 := fun {R : Type} (K : AV → Option R) => hz.ind (i := (i : Int)) (by omega) (by omega) K
    have g2 := fun {R : Type} (K : AV → Option R) => hz.load (i := (i : Int)) (by omega) (by omega) K
    rw [overdubkeep_Intact_L1_eq, overdubkeep_Intact_L1_B_eq]
    by_cases hb : i < bs.length
    · have g3 := fun {R : Type} (K : AV → Option R) => hx.ind (i := (i : Int)) (by omega) (by omega) K
      have g4 := fun {R : Type} (K : AV → Option R) => hx.load (i := (i : Int)) (by omega) (by omega) K
      have hv : (bs ++ [85, 85, 85]).getD i 0 = bs.getD i 0 := by
        rw [List.getD_eq_getElem?_getD, List.getD_eq_getElem?_getD, List.getElem?_append_left hb]
      simp -implicitDefEqProofs only [lt_t (show (i : Int) < ((bs.length + 3 : Nat) : Int) by omega), hx.len, lt_t (show (i : Int) < (bs.length : Int) by omega), g1, g2, g3, g4, nat_toNat, hv, ne_f (rfl : bs.getD i 0 = _), ge_f (show (i : Int) < (bs.length : Int) by omega), ei, Option.bind_some, decide_true, decide_false, cond_true, cond_false, seqJ_n, seqJ_r, seqJ_e, headK_c, asB_bool, asI_int, asS_s, asN_int, extrK_0, extrK_1, extrK_2, Bool.not_true, Bool.not_false, Nat.beq_refl]
      exact ih
    · have hv : (bs ++ [85, 85, 85]).getD i 0 = 85 := by
        rw [List.getD_eq_getElem?_getD, List.getElem?_append_right (by omega)]
        have : i - bs.length = 0 ∨ i - bs.length = 1 ∨ i - bs.length = 2 := by omega
        rcases this with h | h | h <;> rw [h] <;> rfl
      simp -implicitDefEqProofs only [lt_t (show (i : Int) < ((bs.length + 3 : Nat) : Int) by omega), hx.len, lt_f (show (bs.length : Int) ≤ (i : Int) by omega), g1, g2, nat_toNat, hv, ne_f (rfl : (85 : Int) = _), ge_t (show (bs.length : Int) ≤ (i : Int) by omega), ei, Option.bind_some, decide_true, decide_false, cond_true, cond_false, seqJ_n, seqJ_r, seqJ_e, headK_c, asB_bool, asI_int, asS_s, asN_int, extrK_0, extrK_1, extrK_2, Bool.not_true, Bool.not_false, Nat.beq_refl]
      exact ih
theorem intact_is {μ : AMem} {x y : SV} {bs : List Int} (hy : Lent μ y bs) (hx : IsRow μ .u8 x bs) (hl : bs.length ≤ 1000000) : overdubkeep_Intact [.s y, .s x] μ = some (.s (.bool true), μ) := by
  have hyl := hy.row.len
  obtain ⟨id, rfl, ho⟩ := hy
  have e3 : IntKind.wrap .i64 ((bs.length : Int) + 3) = ((bs.length + 3 : Nat) : Int) := by rw [wr (by omega)]; rfl
  have hz : IsRow μ .u8 (.slice id 0 0 (bs.length + 3)) (bs ++ [85, 85, 85]) := IsRow.made ho (by simp) rfl rfl
  have hL := intact_loop hz hx hl _ 0 (Nat.zero_add _)
  rw [n0] at hL
  have hcap : ∀ {R : Type} (K : AV → Option R), capA μ (.s (.slice id 0 0 bs.length)) K = K (.s (.int .i64 ((bs.length + 3 : Nat) : Int))) := fun K => by
    simp only [capA, ho, Option.bind_some, rowObj, if_true]
  have hcut : ∀ {R : Type} (K : AV → Option R), cutM 1 μ (.s (.slice id 0 0 bs.length)) 0 ((bs.length + 3 : Nat) : Int) K = K (.s (.slice id 0 0 (bs.length + 3))) := fun K => by
    simp only [cutM, ho, Option.bind_some, rowObj, if_true]
    rw [if_pos ⟨by omega, by omega, by omega⟩, show 0 + (0 : Int).toNat * 1 = 0 from rfl, show ((bs.length + 3 : Nat) : Int).toNat - (0 : Int).toNat = bs.length + 3 by omega]
  rw [overdubkeep_Intact_eq]
  simp -implicitDefEqProofs only [hyl, hx.len, ne_f (rfl : (bs.length : Int) = _), hcap, e3, ne_f (rfl : ((bs.length + 3 : Nat) : Int) = _), hcut, lenS_slice, hL, Option.bind_some, decide_true, decide_false, cond_true, cond_false, seqJ_n, seqJ_r, seqJ_e, headK_c, asB_bool, asI_int, asS_s, asN_int, extrK_0, extrK_1, extrK_2, Bool.not_true, Bool.not_false, Nat.beq_refl]
end Go.Proofs.Ytkbecppafippeaa
