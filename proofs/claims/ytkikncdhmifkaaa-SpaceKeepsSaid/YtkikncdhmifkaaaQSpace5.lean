/- Spaces: keep. -/
import Derived.Test.YtkikncdhmifkaaaQSpace4
namespace Go.Proofs.Ytkikncdhmifkaaa
open Go Go.Proofs.Ytkikncdhmifkaaa.E
set_option linter.unusedVariables false
set_option linter.unusedSimpArgs false
theorem keepFresh {H S : Nat → Prop} {μ m m' : AMem} (hw : WF μ) (h : Keep H μ m) (k : Keep S m m') (hS : ∀ j, S j → H j ∨ μ.next ≤ j) : Keep H μ m' :=
  ⟨k.wf, Nat.le_trans h.next k.next, fun id o ho hh => k.old id o (h.old id o ho hh) fun hs => by
    rcases hS id hs with h1 | h1
    · exact hh h1
    · have := hw.lt ho; omega, fun id hi hno => k.low id (by have := h.next; omega) (h.low id hi hno)⟩
def keepOk (fixed n : Nat) (v : Int) : Bool := decide ((fixed : Int) ≤ v) && decide (v < (n : Int))
section
variable {N : Nat} {sid : Nat} {so : AObj} {u t w : SV} {F G : Nat → Prop} {fixed n : Nat} {cs W : List Int}
theorem keepMay_loop {μ : AMem} {V : Nat → Bool} {y : SV} {ls : List Int} (q : Sq N μ sid so u t w F G fixed n V cs W) (hy : IsRow μ .i64 y ls) (hl : ls.length ≤ 10000) :
    ∀ k i : Nat, i + k = ls.length → space_Space_Keep_L1 [.s (.ptr sid 0 0), .s y, .s y, .s (.int .i64 ls.length)] [.s (.int .i64 i)] μ = if (ls.drop i).all (keepOk fixed n) then some (.exit 0, [.s (.ptr sid 0 0), .s y], μ) else some (.ret, [.s (.bool false)], μ)
  | 0, i, h => by
    rw [List.drop_of_length_le (by omega)]
    rw [space_Space_Keep_L1_eq, space_Space_Keep_L1_B_eq]
    simp -implicitDefEqProofs (disch := omega) only [lt_t, lt_f, gt_t, gt_f, le_t, le_f, ge_t, ge_f, ne_t, ne_f, eq_t, eq_f, w64, chk_true, Option.bind_some, decide_true, decide_false, cond_true, cond_false, seqJ_n, seqJ_r, seqJ_e, headK_c, asB_bool, asI_int, asS_s, asN_int, extrK_0, extrK_1, extrK_2, Bool.not_true, Bool.not_false, Nat.beq_refl, List.all_nil]
    rfl
  | k + 1, i, h => by
    have hi : i < ls.length := by omega
    have ih := keepMay_loop q hy hl k (i + 1) (by omega)
    rw [nsu] at ih
    rw [drop_cons hi, List.all_cons]
    rw [space_Space_Keep_L1_eq, space_Space_Keep_L1_B_eq]
    have a1 := fun {R : Type} (K : AV → Option R) => hy.ind (i := (i : Int)) (by omega) (by omega) K
    have a2 := fun {R : Type} (K : AV → Option R) => hy.load (i := (i : Int)) (by omega) (by omega) K
    rw [nat_toNat] at a2
    have ei : IntKind.wrap .i64 ((i : Int) + 1) = (i : Int) + 1 := wr (by omega)
    have ci := lt_t (show (i : Int) < (ls.length : Int) by omega)
    by_cases c1 : (fixed : Int) ≤ ls.getD i 0
    · by_cases c2 : ls.getD i 0 < (n : Int)
      · have hk : keepOk fixed n (ls.getD i 0) = true := by unfold keepOk; rw [decide_eq_true c1, decide_eq_true c2]; rfl
        rw [hk, Bool.true_and, ← ih]
        simp -implicitDefEqProofs only [ci, a1, a2, q.c0, q.c1, mapLen_is q.map, lt_f c1, ge_f c2, ei, Option.bind_some, decide_true, decide_false, cond_true, cond_false, seqJ_n, seqJ_r, seqJ_e, headK_c, asB_bool, asI_int, asS_s, asN_int, extrK_0, extrK_1, extrK_2, Bool.not_true, Bool.not_false, Nat.beq_refl]
      · have hk : keepOk fixed n (ls.getD i 0) = false := by unfold keepOk; rw [decide_eq_false c2, Bool.and_false]
        rw [hk, Bool.false_and]
        simp -implicitDefEqProofs only [ci, a1, a2, q.c0, q.c1, mapLen_is q.map, lt_f c1, ge_t (show (n : Int) ≤ ls.getD i 0 by omega), Option.bind_some, decide_true, decide_false, cond_true, cond_false, seqJ_n, seqJ_r, seqJ_e, headK_c, asB_bool, asI_int, asS_s, asN_int, extrK_0, extrK_1, extrK_2, Bool.not_true, Bool.not_false, Nat.beq_refl]
        rfl
    · have hk : keepOk fixed n (ls.getD i 0) = false := by unfold keepOk; rw [decide_eq_false c1, Bool.false_and]
      rw [hk, Bool.false_and]
      simp -implicitDefEqProofs only [ci, a1, a2, q.c0, lt_t (show ls.getD i 0 < (fixed : Int) by omega), Option.bind_some, decide_true, decide_false, cond_true, cond_false, seqJ_n, seqJ_r, seqJ_e, headK_c, asB_bool, asI_int, asS_s, asN_int, extrK_0, extrK_1, extrK_2, Bool.not_true, Bool.not_false, Nat.beq_refl]
      rfl
theorem keepSet_loop {y : SV} {zs : List Int} (hz : ∀ v ∈ zs, 0 ≤ v ∧ v < n) (hn : n ≤ 5000) (hl : zs.length ≤ 100000) (hyF : ∀ j, F j → ¬ isId y j) :
    ∀ (k i : Nat) (μ : AMem) (V : Nat → Bool), i + k = zs.length → WF μ → Sq N μ sid so u t w F G fixed n V cs W → IsRow μ .i64 y zs →
      ∃ μ', space_Space_Keep_L2 [.s (.ptr sid 0 0), .s y, .s (.int .i64 zs.length)] [.s (.int .i64 i)] μ = some (.exit 2, [.s (.ptr sid 0 0)], μ') ∧ Keep F μ μ' ∧ Sq N μ' sid so u t w F G fixed n (putV true V (zs.drop i)) cs W
  | 0, i, μ, V, h, hw, q, hy => by
    refine ⟨μ, ?_, Keep.refl hw, by rw [List.drop_of_length_le (by omega)]; exact q⟩
    rw [space_Space_Keep_L2_eq, space_Space_Keep_L2_B_eq]
    simp -implicitDefEqProofs (disch := omega) only [lt_t, lt_f, gt_t, gt_f, le_t, le_f, ge_t, ge_f, ne_t, ne_f, eq_t, eq_f, w64, chk_true, Option.bind_some, decide_true, decide_false, cond_true, cond_false, seqJ_n, seqJ_r, seqJ_e, headK_c, asB_bool, asI_int, asS_s, asN_int, extrK_0, extrK_1, extrK_2, Bool.not_true, Bool.not_false, Nat.beq_refl]
  | k + 1, i, μ, V, h, hw, q, hy => by
    have hi : i < zs.length := by omega
    have hv := hz _ (getD_mem hi)
    obtain ⟨m1, e1, k1, z1, _⟩ := q.map.set hw hn (i := (zs.getD i 0).toNat) (by omega) true
    rw [show (((zs.getD i 0).toNat : Nat) : Int) = zs.getD i 0 by omega] at e1
    obtain ⟨m2, e2, k2, q2⟩ := keepSet_loop hz hn hl hyF k (i + 1) m1 _ (by omega) k1.wf (q.mapped k1 z1) (rowKeep hy k1 hyF)
    rw [nsu] at e2
    refine ⟨m2, ?_, k1.trans k2, by rw [drop_cons hi]; exact q2⟩
    rw [space_Space_Keep_L2_eq, space_Space_Keep_L2_B_eq]
    simp -implicitDefEqProofs (disch := omega) only [lt_t, lt_f, gt_t, gt_f, le_t, le_f, ge_t, ge_f, ne_t, ne_f, eq_t, eq_f, w64, chk_true, Option.bind_some, decide_true, decide_false, cond_true, cond_false, seqJ_n, seqJ_r, seqJ_e, headK_c, asB_bool, asI_int, asS_s, asN_int, extrK_0, extrK_1, extrK_2, Bool.not_true, Bool.not_false, Nat.beq_refl, hy.ind, hy.load, nat_toNat, nonNil_p, ptrAdd_p, loadAt_p, q.c1, e1]
    exact e2
end
section
variable {H : Nat → Prop} {N : Nat} {μ : AMem} {x : SV} {fixed n : Nat} {V : Nat → Bool} {cs W : List Int}
theorem spKeep_is (hw : WF μ) (hN : N ≤ μ.next) (h : Sp H N μ x fixed n V cs W) (h1 : 1 ≤ n) (h2 : n ≤ 4096) (hfx : fixed ≤ n) {y : SV} {ls : List Int} (hy : IsRow μ .i64 y ls) (hyH : ∀ j, isId y j → ¬ H j) (hl : ls.length ≤ 10000) :
    (ls.all (keepOk fixed n) = false → space_Space_Keep [.s x, .s y] μ = some (.s (.bool false), μ)) ∧
    (ls.all (keepOk fixed n) = true → ∃ μ' H', space_Space_Keep [.s x, .s y] μ = some (.s (.bool true), μ') ∧ Keep H μ μ' ∧ (∀ j, H' j → H j ∨ μ.next ≤ j) ∧ Sp H' N μ' x fixed n (putV true (fun j => decide (j < fixed)) ls) (addZ (List.replicate n 0) ls) []) := by
  obtain ⟨sid, so, u, t, w, F, G, rfl, q, ⟨hs0, hF, hG, hW0⟩, hb⟩ := h
  have hmay := keepMay_loop q hy hl ls.length 0 (by omega)
  rw [n0, List.drop_zero] at hmay
  refine ⟨fun hno => ?_, fun hok => ?_⟩
  · rw [hno] at hmay
    simp only [Bool.false_eq_true, if_false] at hmay
    rw [space_Space_Keep_eq, hy.len]
    simp -implicitDefEqProofs only [hmay, Option.bind_some, decide_true, decide_false, cond_true, cond_false, seqJ_n, seqJ_r, seqJ_e, headK_c, asB_bool, asI_int, asS_s, asN_int, extrK_0, extrK_1, extrK_2, Bool.not_true, Bool.not_false, Nat.beq_refl]
  · rw [hok] at hmay
    simp only [if_true] at hmay
    have hls : ∀ v ∈ ls, (fixed : Int) ≤ v ∧ v < n := fun v hv => by
      have := (List.all_eq_true.mp hok) v hv
      simp only [keepOk, Bool.and_eq_true, decide_eq_true_eq] at this
      exact this
    obtain ⟨u', t', F', G', m1, e1, k1, z1, z2, hFG⟩ := fresh_is hw h1 h2 hfx
    have hF' : ∀ j, F' j → μ.next ≤ j := fun j hj => (z1.lives j hj).1
    have hG' : ∀ j, G' j → μ.next ≤ j := fun j hj => (z2.lives j hj).1
    have hyl : ∀ j, isId y j → j < μ.next := fun j hj => by
      obtain ⟨o, ho⟩ := row_lives hy hj
      exact hw.lt ho
    have hys : ¬ isId y sid := fun h => hyH sid h hs0
    have hwl : ∀ j, isId w j → j < μ.next := fun j hj => (hb j (hW0 j hj)).2
    have hsl := (hb sid hs0).2
    have q1 := q.same k1
    obtain ⟨q2, k2⟩ := Sq.put (so' := { so with cells := [.int .i64 fixed, u', t, w] }) k1.wf q1.low q1.obj q1.own q1.ver rfl (z1.less hN) q1.tab q1.row (fun j hj => ⟨fun h => by have := (hb j (hG j h)).2; have := hF' j hj; omega, fun h => by have := hwl j h; have := hF' j hj; omega, by have := hF' j hj; omega⟩) (fun j hj => q1.offG j hj) q1.offW q1.len
    have z2' := z2.keep k2 fun j hj h => by have := hG' j h; omega
    obtain ⟨q3, k3⟩ := Sq.put (so' := { so with cells := [.int .i64 fixed, u', t', w] }) k2.wf q2.low q2.obj q2.own q2.ver rfl q2.map (z2'.less hN) q2.row (fun j hj => ⟨hFG j hj, (q2.offF j hj).2⟩) (fun j hj => ⟨fun h => by have := hwl j h; have := hG' j hj; omega, by have := hG' j hj; omega⟩) q2.offW (by simp)
    have s1 := put_store (v := u') (so' := { so with cells := [.int .i64 fixed, u', t, w] }) (k := 1) q1.obj q1.own q1.ver q1.cells (by omega) (by rw [q1.cells]; rfl)
    have s2 := put_store (v := t') (so' := { so with cells := [.int .i64 fixed, u', t', w] }) (k := 2) q2.obj q2.own q2.ver q2.cells (by omega) rfl
    have hy3 : IsRow ((m1.set sid { so with cells := [.int .i64 fixed, u', t, w] }).set sid { so with cells := [.int .i64 fixed, u', t', w] }) .i64 y ls := rowKeep (rowKeep (hy.same k1) k2 fun j hj h => hys (hj ▸ h)) k3 fun j hj h => hys (hj ▸ h)
    obtain ⟨m4, e4, k4, z4⟩ := q3.tab.add k3.wf hy3 (fun j hj h => by have := hyl j hj; have := hG' j h; omega) (by omega) (fits_zero _ _ (by omega)) (by
      rw [List.all_eq_true]
      intro v hv
      have := hls v hv
      unfold mayI; rw [List.length_replicate, decide_eq_true (by omega), decide_eq_true (by omega)]; rfl)
    have q4 := q3.tabbed k4 z4 (addZ_len ..)
    have hy4 : IsRow m4 .i64 y ls := rowKeep hy3 k4 fun j hj h => by have := hyl j h; have := hG' j hj; omega
    obtain ⟨m5, e5, k5, q5⟩ := keepSet_loop (fun v hv => by have := hls v hv; omega) (by omega) (by omega) (fun j hj h => by have := hyl j h; have := hF' j hj; omega) ls.length 0 m4 _ (by omega) k4.wf q4 hy4
    rw [n0] at e5
    rw [List.drop_zero] at q5
    obtain ⟨q6, k6⟩ := Sq.put (so' := { so with cells := [.int .i64 fixed, u', t', .nilSlice] }) k5.wf q5.low q5.obj q5.own q5.ver rfl q5.map q5.tab (OwnRow.nil _ _ _ _) (fun j hj => ⟨(q5.offF j hj).1, fun h => h, (q5.offF j hj).2.2⟩) (fun j hj => ⟨fun h => h, (q5.offG j hj).2⟩) (fun h => h) q5.len
    have s3 := put_store (v := .nilSlice) (so' := { so with cells := [.int .i64 fixed, u', t', .nilSlice] }) (k := 3) q5.obj q5.own q5.ver q5.cells (by omega) rfl
    have kk : Keep H μ _ := keepFresh hw (keepFresh hw (keepFresh hw (keepFresh hw (keepFresh hw (Same.kn k1) k2 fun j hj => .inl (hj ▸ hs0)) k3 fun j hj => .inl (hj ▸ hs0)) k4 fun j hj => .inr (hG' j hj)) k5 fun j hj => .inr (hF' j hj)) k6 fun j hj => .inl (hj ▸ hs0)
    have kn := kk.next
    refine ⟨_, fun j => H j ∨ F' j ∨ G' j, ?_, kk, fun j hj => hj.imp (fun h => h) fun h => h.elim (hF' j) (hG' j), ⟨sid, _, u', t', .nilSlice, F', G', rfl, q6, ⟨.inl hs0, fun j h => .inr (.inl h), fun j h => .inr (.inr h), fun j h => h.elim⟩, fun j hj => ?_⟩⟩
    rotate_left
    · rcases hj with h | h | h
      · exact ⟨(hb j h).1, by have := (hb j h).2; omega⟩
      · obtain ⟨g1, o, g2⟩ := q6.map.lives j h
        exact ⟨g1, k6.wf.lt g2⟩
      · obtain ⟨g1, o, g2⟩ := q6.tab.lives j h
        exact ⟨g1, k6.wf.lt g2⟩
    · rw [space_Space_Keep_eq, hy.len]
      simp -implicitDefEqProofs only [hmay, nonNil_p, ptrAdd_p, loadAt_p, storeAt_p, q.c1, q.c0, mapLen_is q.map, e1, s1, s2, q3.c2, e4, hy.len, e5, s3, chk_true, Option.bind_some, decide_true, decide_false, cond_true, cond_false, seqJ_n, seqJ_r, seqJ_e, headK_c, asB_bool, asI_int, asS_s, asN_int, extrK_0, extrK_1, extrK_2, Bool.not_true, Bool.not_false, Nat.beq_refl]
end
end Go.Proofs.Ytkikncdhmifkaaa
