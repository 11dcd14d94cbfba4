/- Bytes that are spoilt, with their room: of them nothing is known then, all else stays. -/
import Derived.Test.YtkbecppafippeaaKStore
import Derived.Test.YtkbecppafippeaaKFresh
namespace Go.Proofs.Ytkbecppafippeaa
open Go Go.Proofs.Ytkbecppafippeaa.E
set_option linter.unusedVariables false
set_option linter.unusedSimpArgs false
theorem roomF_nil (e : TypeId) (z : SV) (D : FunA) (μ : AMem) : roomF e z D [.s .nilSlice] μ = D [.s .nilSlice] μ := rfl
theorem roomF_row (e : TypeId) (z : SV) (D : FunA) (id ver len : Nat) (μ : AMem) : roomF e z D [.s (.slice id ver 0 len)] μ = (μ.obj id).bind fun o => checkA (Rooms e z D [.s (.slice id ver 0 len)] id ver len μ o) (some (.tuple [], μ.set id (newVer o []))) := rfl
/-- A row whose cells are all numbers. -/
def Nums (μ : AMem) (id ver n : Nat) (o : AObj) : Prop := μ.obj id = some o ∧ o.own = true ∧ o.ver = ver ∧ n ≤ o.cells.length ∧ ∀ j, j < n → ∃ v, o.cells[j]? = some (.int .u8 v)
theorem Nums.store {μ : AMem} {id ver n : Nat} {o : AObj} (h : Nums μ id ver n o) {i : Nat} (hi : i < n) (v : Int) :
    ∃ o', μ.store id ver (0 + i) [.int .u8 v] = some (μ.set id o') ∧ Nums (μ.set id o') id ver n o' ∧ o'.size = o.size ∧ o'.elem = o.elem := by
  obtain ⟨ho, hw, hv, hl, hc⟩ := h
  refine ⟨{ o with cells := E.overA o.cells (0 + i) [.int .u8 v] }, ?_, ⟨by simp, hw, hv, ?_, fun j hj => ?_⟩, rfl, rfl⟩
  · simp only [AMem.store, ho, Option.bind_some]
    rw [if_pos ⟨hw, hv, by simp; omega⟩]
  · show n ≤ (E.overA o.cells (0 + i) [.int .u8 v]).length
    rw [E.overA_length _ _ _ (by simp; omega)]; exact hl
  · show ∃ v_1, (E.overA o.cells (0 + i) [.int .u8 v])[j]? = _
    rw [Nat.zero_add, overA_get _ _ _ (by omega)]
    split
    · exact ⟨v, rfl⟩
    · exact hc j hj
theorem spoil_loop {id ver n : Nat} (hn : n ≤ 9223372036854775807) : ∀ (k i : Nat) (μ : AMem) (o : AObj), i + k = n → Nums μ id ver n o →
    ∃ m o', overdubkeep_Spoil_L1 [.s (.slice id ver 0 n), .s (.int .i64 (n : Int))] [.s (.int .i64 (i : Int))] μ = some (.exit 0, [], m) ∧ (∀ j, j ≠ id → m.obj j = μ.obj j) ∧ m.obj id = some o' ∧ o'.own = true ∧ o'.ver = ver ∧ o'.size = o.size ∧ o'.elem = o.elem
  | 0, i, μ, o, h, hN => by
    obtain rfl : i = n := by omega
    refine ⟨μ, o, ?_, fun _ _ => rfl, hN.1, hN.2.1, hN.2.2.1, rfl, rfl⟩
    rw [overdubkeep_Spoil_L1_eq, overdubkeep_Spoil_L1_B_eq]
    simp -implicitDefEqProofs (disch := omega) only [lt_t, lt_f, gt_t, gt_f, le_t, le_f, ge_t, ge_f, ne_t, ne_f, eq_t, eq_f, w64, chk_true, Option.bind_some, decide_true, decide_false, cond_true, cond_false, seqJ_n, seqJ_r, seqJ_e, headK_c, asB_bool, asI_int, asS_s, asN_int, extrK_0, extrK_1, extrK_2, Bool.not_true, Bool.not_false, Nat.beq_refl]
  | k + 1, i, μ, o, h, hN => by
    have hi : i < n := by omega
    obtain ⟨v, hv⟩ := hN.2.2.2.2 i hi
    obtain ⟨o1, s1, N1, z1, y1⟩ := hN.store hi (IntKind.wrap .u8 (BitVec.toNat ((BitVec.ofInt (IntKind.bits .u8) v) ^^^ (BitVec.ofInt (IntKind.bits .u8) 119))))
    obtain ⟨m, o', q1, q2, q3, q4, q5, q6, q7⟩ := spoil_loop hn k (i + 1) (μ.set id o1) o1 (by omega) N1
    refine ⟨m, o', ?_, fun j hj => by rw [q2 j hj]; simp [hj], q3, q4, q5, q6.trans z1, q7.trans y1⟩
    have hc : μ.cell id ver (0 + i) = some (.int .u8 v) := by
      simp only [AMem.cell, hN.1, Option.bind_some, hN.2.2.1, if_true, Nat.zero_add, hv]
    have hd : ∀ {R : Type} (K : AV → Option R), indS 1 (.s (.slice id ver 0 n)) (i : Int) K = K (.s (.ptr id ver (0 + i))) := fun K => by
      simp only [indS, nat_toNat, Nat.mul_one]
      rw [if_pos ⟨by omega, by omega⟩]
    have hst : ∀ {R : Type} (K : AMem → Option R), storeAt 1 μ (.s (.ptr id ver (0 + i))) (.s (.int .u8 (IntKind.wrap .u8 (BitVec.toNat ((BitVec.ofInt (IntKind.bits .u8) v) ^^^ (BitVec.ofInt (IntKind.bits .u8) 119)))))) K = K (μ.set id o1) := fun K => by
      simp only [storeAt, AV.cells, List.length_cons, List.length_nil, Nat.zero_add, if_true] at s1 ⊢
      rw [s1]; rfl
    have ei : IntKind.wrap .i64 ((i : Int) + 1) = ((i + 1 : Nat) : Int) := by rw [wr (by omega)]; rfl
    rw [overdubkeep_Spoil_L1_eq, overdubkeep_Spoil_L1_B_eq]
    simp -implicitDefEqProofs (disch := omega) only [lt_t, lt_f, gt_t, gt_f, le_t, le_f, ge_t, ge_f, ne_t, ne_f, eq_t, eq_f, w64, chk_true, Option.bind_some, decide_true, decide_false, cond_true, cond_false, seqJ_n, seqJ_r, seqJ_e, headK_c, asB_bool, asI_int, asS_s, asN_int, extrK_0, extrK_1, extrK_2, Bool.not_true, Bool.not_false, Nat.beq_refl, hd, loadAt_p, hc, hst, ei]
    exact q1
/-- Spoilt bytes that were just made: all else stays. -/
theorem spoil_is {N : Nat} {μ : AMem} (hw : WF μ) {x : SV} {bs : List Int} (h : Fresh N μ .u8 5 x bs) :
    ∃ μ', overdubkeep_Spoil [.s x] μ = some (.tuple [], μ') ∧ Keep (isId x) μ μ' := by
  rcases h with ⟨rfl, rfl⟩ | ⟨id, o, rfl, hN, ho, how, hv, hs, he, hc⟩
  · refine ⟨μ, ?_, Keep.refl hw⟩
    unfold overdubkeep_Spoil
    rw [roomF_nil, overdubkeep_Spoil_D_eq]
    simp -implicitDefEqProofs only [capA, cutM, Option.bind_some, decide_true, decide_false, cond_true, cond_false, seqJ_n, seqJ_r, seqJ_e, headK_c, asB_bool, asI_int, asS_s, asN_int, extrK_0, extrK_1, extrK_2, Bool.not_true, Bool.not_false, Nat.beq_refl]
    simp only [true_and, if_true, lenS_nil, Option.bind_some]
    rw [overdubkeep_Spoil_L1_eq, overdubkeep_Spoil_L1_B_eq]
    simp -implicitDefEqProofs (disch := omega) only [lt_t, lt_f, gt_t, gt_f, le_t, le_f, ge_t, ge_f, ne_t, ne_f, eq_t, eq_f, w64, chk_true, Option.bind_some, decide_true, decide_false, cond_true, cond_false, seqJ_n, seqJ_r, seqJ_e, headK_c, asB_bool, asI_int, asS_s, asN_int, extrK_0, extrK_1, extrK_2, Bool.not_true, Bool.not_false, Nat.beq_refl]
  · refine ⟨μ.set id (newVer o []), ?_, ⟨hw.set (hw.lt ho), Nat.le_refl _, fun j x hx hj => ?_, fun j hj hno => ?_⟩⟩
    · unfold overdubkeep_Spoil
      rw [roomF_row, ho, Option.bind_some, checkA_pos]
      refine ⟨how, hv, hs, he, .inr rfl, fun c hc1 hc2 hc3 => ?_⟩
      have hcl : o.cells.length = bs.length := by rw [hc]; simp
      have hN : Nums (μ.set id (roomO o c (.int .u8 0))) id 0 c (roomO o c (.int .u8 0)) := by
        refine ⟨by simp, how, hv, by simp [roomO]; omega, fun j hj => ?_⟩
        simp only [roomO]
        rw [List.getElem?_append]
        split
        · rename_i hjl
          rw [hc, List.getElem?_map, List.getElem?_eq_getElem (by omega)]
          exact ⟨_, rfl⟩
        · rw [List.getElem?_replicate, if_pos (by omega)]
          exact ⟨_, rfl⟩
      obtain ⟨m, o', q1, q2, q3, q4, q5, q6, q7⟩ := spoil_loop hc3 c 0 _ _ (Nat.zero_add _) hN
      refine ⟨m, o', ?_, fun j hj => by rw [q2 j hj]; simp [hj], q3, q4, q6.trans hs, q7.trans he, q5⟩
      rw [overdubkeep_Spoil_D_eq]
      have e1 : ∀ {R : Type} (K : AV → Option R), capA (μ.set id (roomO o c (.int .u8 0))) (.s (.slice id 0 0 bs.length)) K = K (.s (.int .i64 (c : Int))) := fun K => by
        simp only [capA, set_self, Option.bind_some]
        rw [if_pos (show (roomO o c (.int .u8 0)).ver = 0 from hv)]; rfl
      have e2 : ∀ {R : Type} (K : AV → Option R), cutM 1 (μ.set id (roomO o c (.int .u8 0))) (.s (.slice id 0 0 bs.length)) 0 (c : Int) K = K (.s (.slice id 0 0 c)) := fun K => by
        simp only [cutM, set_self, Option.bind_some]
        rw [if_pos (show (roomO o c (.int .u8 0)).ver = 0 from hv)]
        simp only [roomO, Option.bind_some]
        rw [if_pos ⟨by omega, by omega, by omega⟩]
        simp
      rw [n0] at q1
      simp -implicitDefEqProofs only [e1, e2, lenS_slice, q1, Option.bind_some, decide_true, decide_false, cond_true, cond_false, seqJ_n, seqJ_r, seqJ_e, headK_c, asB_bool, asI_int, asS_s, asN_int, extrK_0, extrK_1, extrK_2, Bool.not_true, Bool.not_false, Nat.beq_refl]
    · have : j ≠ id := fun e => hj e.symm
      simp [this, hx]
    · have : j ≠ id := fun e => by rw [e, ho] at hno; cases hno
      simp [this, hno]
end Go.Proofs.Ytkbecppafippeaa
