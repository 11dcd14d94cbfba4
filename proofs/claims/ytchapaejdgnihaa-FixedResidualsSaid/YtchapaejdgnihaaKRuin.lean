/- Numbers that are ruined, with their room: of them nothing is known then, all else stays. -/
import Derived.Test.YtchapaejdgnihaaKStore
namespace Go.Proofs.Ytchapaejdgnihaa
open Go Go.Proofs.Ytchapaejdgnihaa.E
set_option linter.unusedVariables false
set_option linter.unusedSimpArgs false
theorem ruin_loop {id ver n : Nat} (hn : n ≤ 9223372036854775807) : ∀ (k i : Nat) (μ : AMem) (o : AObj), i + k = n → μ.obj id = some o → o.own = true → o.ver = ver → n ≤ o.cells.length →
    ∃ m o', overdubkeep_Ruin_L1 [.s (.slice id ver 0 n), .s (.int .i64 (n : Int))] [.s (.int .i64 (i : Int))] μ = some (.exit 0, [], m) ∧ (∀ j, j ≠ id → m.obj j = μ.obj j) ∧ m.obj id = some o' ∧ o'.own = true ∧ o'.ver = ver ∧ o'.size = o.size ∧ o'.elem = o.elem
  | 0, i, μ, o, h, ho, hw, hv, hl => by
    obtain rfl : i = n := by omega
    refine ⟨μ, o, ?_, fun _ _ => rfl, ho, hw, hv, rfl, rfl⟩
    rw [overdubkeep_Ruin_L1_eq, overdubkeep_Ruin_L1_B_eq]
    simp -implicitDefEqProofs (disch := omega) only [lt_t, lt_f, gt_t, gt_f, le_t, le_f, ge_t, ge_f, ne_t, ne_f, eq_t, eq_f, w64, chk_true, Option.bind_some, decide_true, decide_false, cond_true, cond_false, seqJ_n, seqJ_r, seqJ_e, headK_c, asB_bool, asI_int, asS_s, asN_int, extrK_0, extrK_1, extrK_2, Bool.not_true, Bool.not_false, Nat.beq_refl]
  | k + 1, i, μ, o, h, ho, hw, hv, hl => by
    have hi : i < n := by omega
    obtain ⟨m, o', q1, q2, q3, q4, q5, q6, q7⟩ := ruin_loop (id := id) hn k (i + 1) (μ.set id { o with cells := E.overA o.cells (0 + i) [.int .i64 (-77)] }) { o with cells := E.overA o.cells (0 + i) [.int .i64 (-77)] } (by omega) (set_self _ _ _) hw hv (by
      show n ≤ (E.overA o.cells (0 + i) [.int .i64 (-77)]).length
      rw [E.overA_length _ _ _ (by simp; omega)]; exact hl)
    refine ⟨m, o', ?_, fun j hj => by rw [q2 j hj]; simp [hj], q3, q4, q5, q6, q7⟩
    have hd : ∀ {R : Type} (K : AV → Option R), indS 1 (.s (.slice id ver 0 n)) (i : Int) K = K (.s (.ptr id ver (0 + i))) := fun K => by
      simp only [indS, nat_toNat, Nat.mul_one]
      rw [if_pos ⟨by omega, by omega⟩]
    have hst : ∀ {R : Type} (K : AMem → Option R), storeAt 1 μ (.s (.ptr id ver (0 + i))) (.s (.int .i64 (-77))) K = K (μ.set id { o with cells := E.overA o.cells (0 + i) [.int .i64 (-77)] }) := fun K => by
      simp only [storeAt, AV.cells, List.length_cons, List.length_nil, AMem.store, ho, Option.bind_some, if_true]
      rw [if_pos ⟨hw, hv, by omega⟩]; rfl
    have ei : IntKind.wrap .i64 ((i : Int) + 1) = ((i + 1 : Nat) : Int) := by rw [wr (by omega)]; rfl
    rw [overdubkeep_Ruin_L1_eq, overdubkeep_Ruin_L1_B_eq]
    simp -implicitDefEqProofs (disch := omega) only [lt_t, lt_f, gt_t, gt_f, le_t, le_f, ge_t, ge_f, ne_t, ne_f, eq_t, eq_f, w64, chk_true, Option.bind_some, decide_true, decide_false, cond_true, cond_false, seqJ_n, seqJ_r, seqJ_e, headK_c, asB_bool, asI_int, asS_s, asN_int, extrK_0, extrK_1, extrK_2, Bool.not_true, Bool.not_false, Nat.beq_refl, hd, hst, ei]
    exact q1
/-- Ruined numbers: all else stays. -/
theorem ruin_is {N : Nat} {μ : AMem} (hw : WF μ) {k : IntKind} {x : SV} {bs : List Int} (h : OwnRow N μ k 3 x bs) :
    ∃ μ', overdubkeep_Ruin [.s x] μ = some (.tuple [], μ') ∧ Keep (isId x) μ μ' := by
  rcases h with ⟨rfl, rfl⟩ | ⟨id, ver, o, rfl, hN, ho, how, hv, hs, he, hc⟩
  · refine ⟨μ, ?_, Keep.refl hw⟩
    have e : overdubkeep_Ruin [.s .nilSlice] μ = overdubkeep_Ruin_D [.s .nilSlice] μ := rfl
    rw [e, overdubkeep_Ruin_D_eq]
    simp -implicitDefEqProofs only [capA, cutM, Option.bind_some, decide_true, decide_false, cond_true, cond_false, seqJ_n, seqJ_r, seqJ_e, headK_c, asB_bool, asI_int, asS_s, asN_int, extrK_0, extrK_1, extrK_2, Bool.not_true, Bool.not_false, Nat.beq_refl]
    simp only [true_and, if_true, lenS_nil, Option.bind_some]
    rw [overdubkeep_Ruin_L1_eq, overdubkeep_Ruin_L1_B_eq]
    simp -implicitDefEqProofs (disch := omega) only [lt_t, lt_f, gt_t, gt_f, le_t, le_f, ge_t, ge_f, ne_t, ne_f, eq_t, eq_f, w64, chk_true, Option.bind_some, decide_true, decide_false, cond_true, cond_false, seqJ_n, seqJ_r, seqJ_e, headK_c, asB_bool, asI_int, asS_s, asN_int, extrK_0, extrK_1, extrK_2, Bool.not_true, Bool.not_false, Nat.beq_refl]
  · refine ⟨μ.set id (newVer o []), ?_, ⟨hw.set (hw.lt ho), Nat.le_refl _, fun j x hx hj => ?_, fun j hj hno => ?_⟩⟩
    · have e : overdubkeep_Ruin [.s (.slice id ver 0 bs.length)] μ = (μ.obj id).bind fun o => checkA (Rooms 3 .undef overdubkeep_Ruin_D [.s (.slice id ver 0 bs.length)] id ver bs.length μ o) (some (.tuple [], μ.set id (newVer o []))) := rfl
      rw [e, ho, Option.bind_some, checkA_pos]
      refine ⟨how, hv, hs, he, .inl rfl, fun c hc1 hc2 hc3 => ?_⟩
      obtain ⟨m, o', q1, q2, q3, q4, q5, q6, q7⟩ := ruin_loop hc3 c 0 (μ.set id (roomO o c .undef)) _ (Nat.zero_add _) (set_self _ _ _) how hv (by simp [roomO]; omega)
      refine ⟨m, o', ?_, fun j hj => by rw [q2 j hj]; simp [hj], q3, q4, q6.trans hs, q7.trans he, q5⟩
      rw [overdubkeep_Ruin_D_eq]
      have e1 : ∀ {R : Type} (K : AV → Option R), capA (μ.set id (roomO o c .undef)) (.s (.slice id ver 0 bs.length)) K = K (.s (.int .i64 (c : Int))) := fun K => by
        simp only [capA, set_self, Option.bind_some]
        rw [if_pos (show (roomO o c .undef).ver = ver from hv)]; rfl
      have e2 : ∀ {R : Type} (K : AV → Option R), cutM 1 (μ.set id (roomO o c .undef)) (.s (.slice id ver 0 bs.length)) 0 (c : Int) K = K (.s (.slice id ver 0 c)) := fun K => by
        simp only [cutM, set_self, Option.bind_some]
        rw [if_pos (show (roomO o c .undef).ver = ver from hv)]
        simp only [roomO, Option.bind_some]
        rw [if_pos ⟨by omega, by omega, by omega⟩]
        simp
      rw [n0] at q1
      simp -implicitDefEqProofs only [e1, e2, lenS_slice, q1, Option.bind_some, decide_true, decide_false, cond_true, cond_false, seqJ_n, seqJ_r, seqJ_e, headK_c, asB_bool, asI_int, asS_s, asN_int, extrK_0, extrK_1, extrK_2, Bool.not_true, Bool.not_false, Nat.beq_refl]
    · have : j ≠ id := fun e => hj e.symm
      simp [this, hx]
    · have : j ≠ id := fun e => by rw [e, ho] at hno; cases hno
      simp [this, hno]
end Go.Proofs.Ytchapaejdgnihaa
