/- Spaces: commit, new ones. -/
import Derived.Test.YtkikncdhmifkaaaQSpace3
namespace Go.Proofs.Ytkikncdhmifkaaa
open Go Go.Proofs.Ytkikncdhmifkaaa.E
set_option linter.unusedVariables false
set_option linter.unusedSimpArgs false
def putV (b : Bool) : (Nat → Bool) → List Int → (Nat → Bool)
  | V, [] => V
  | V, v :: l => putV b (setV V v.toNat b) l
theorem putV_is (b : Bool) : ∀ (l : List Int) (V : Nat → Bool) (j : Nat), (∀ v ∈ l, 0 ≤ v) → putV b V l j = if (j : Int) ∈ l then b else V j
  | [], V, j, _ => by simp [putV]
  | v :: l, V, j, h => by
    have hv := h v (List.mem_cons_self ..)
    rw [putV, putV_is b l _ j fun w hw => h w (List.mem_cons_of_mem _ hw)]
    unfold setV
    by_cases h1 : (j : Int) ∈ l
    · rw [if_pos h1, if_pos (List.mem_cons_of_mem _ h1)]
    · rw [if_neg h1]
      by_cases h2 : j = v.toNat
      · rw [if_pos h2, if_pos (by rw [show (j : Int) = v by omega]; exact List.mem_cons_self ..)]
      · rw [if_neg h2, if_neg]
        intro hm
        rcases List.mem_cons.mp hm with h3 | h3
        · omega
        · exact h1 h3
theorem set_set (μ : AMem) (i : Nat) (a b : AObj) : (μ.set i a).set i b = μ.set i b := by
  unfold AMem.set
  congr 1
  funext j
  by_cases h : j = i
  · simp [h]
  · simp [h]
section
variable {N : Nat} {sid : Nat} {so : AObj} {u t w : SV} {F G : Nat → Prop} {fixed n : Nat} {cs W : List Int}
theorem commit_loop {y : SV} {zs : List Int} (hz : ∀ v ∈ zs, 0 ≤ v ∧ v < n) (hn : n ≤ 5000) (hl : zs.length ≤ 100000) (hyF : ∀ j, F j → ¬ isId y j) :
    ∀ (k i : Nat) (μ : AMem) (V : Nat → Bool), i + k = zs.length → WF μ → Sq N μ sid so u t w F G fixed n V cs W → IsRow μ .i64 y zs →
      ∃ μ', space_Space_Commit_L1 [.s (.ptr sid 0 0), .s y, .s (.int .i64 zs.length)] [.s (.int .i64 i)] μ = some (.exit 0, [.s (.ptr sid 0 0)], μ') ∧ Keep F μ μ' ∧ Sq N μ' sid so u t w F G fixed n (putV false V (zs.drop i)) cs W
  | 0, i, μ, V, h, hw, q, hy => by
    refine ⟨μ, ?_, Keep.refl hw, by rw [List.drop_of_length_le (by omega)]; exact q⟩
    rw [space_Space_Commit_L1_eq, space_Space_Commit_L1_B_eq]
    simp -implicitDefEqProofs (disch := omega) only [lt_t, lt_f, gt_t, gt_f, le_t, le_f, ge_t, ge_f, ne_t, ne_f, eq_t, eq_f, w64, chk_true, Option.bind_some, decide_true, decide_false, cond_true, cond_false, seqJ_n, seqJ_r, seqJ_e, headK_c, asB_bool, asI_int, asS_s, asN_int, extrK_0, extrK_1, extrK_2, Bool.not_true, Bool.not_false, Nat.beq_refl]
  | k + 1, i, μ, V, h, hw, q, hy => by
    have hi : i < zs.length := by omega
    have hv := hz _ (getD_mem hi)
    obtain ⟨m1, e1, k1, z1, _⟩ := q.map.set hw hn (i := (zs.getD i 0).toNat) (by omega) false
    rw [show (((zs.getD i 0).toNat : Nat) : Int) = zs.getD i 0 by omega] at e1
    obtain ⟨m2, e2, k2, q2⟩ := commit_loop hz hn hl hyF k (i + 1) m1 _ (by omega) k1.wf (q.mapped k1 z1) (rowKeep hy k1 hyF)
    rw [nsu] at e2
    refine ⟨m2, ?_, k1.trans k2, by rw [drop_cons hi]; exact q2⟩
    rw [space_Space_Commit_L1_eq, space_Space_Commit_L1_B_eq]
    simp -implicitDefEqProofs (disch := omega) only [lt_t, lt_f, gt_t, gt_f, le_t, le_f, ge_t, ge_f, ne_t, ne_f, eq_t, eq_f, w64, chk_true, Option.bind_some, decide_true, decide_false, cond_true, cond_false, seqJ_n, seqJ_r, seqJ_e, headK_c, asB_bool, asI_int, asS_s, asN_int, extrK_0, extrK_1, extrK_2, Bool.not_true, Bool.not_false, Nat.beq_refl, hy.ind, hy.load, nat_toNat, q.c1, e1]
    exact e2
theorem put_store {m : AMem} {so' : AObj} (hso : m.obj sid = some so) (hown : so.own = true) (hver : so.ver = 0) {a b c d v : SV} (hc : so.cells = [a, b, c, d]) {k : Nat} (hk : k < 4) (ho : so' = { so with cells := overA so.cells (0 + k) [v] }) :
    m.store sid 0 (0 + k) [v] = some (m.set sid so') := by
  simp only [AMem.store, hso, Option.bind_some]
  rw [if_pos ⟨hown, hver, by rw [hc]; simp; omega⟩, ho]
end
section
variable {H : Nat → Prop} {N : Nat} {μ : AMem} {x : SV} {fixed n : Nat} {V : Nat → Bool} {cs W : List Int}
theorem nonNil_p {R : Type} (a b c : Nat) (K : Option R) : nonNil (.s (.ptr a b c)) K = K := rfl
theorem storeAt_p {R : Type} (m : AMem) (a b c : Nat) (v : SV) (K : AMem → Option R) : storeAt 1 m (.s (.ptr a b c)) (.s v) K = (m.store a b c [v]).bind K := rfl
theorem spCommit_is (hw : WF μ) (h : Sp H N μ x fixed n V cs W) (hn : n ≤ 5000) (hl : W.length ≤ 100000) (hW : ∀ v ∈ W, 0 ≤ v ∧ v < n) :
    ∃ μ', space_Space_Commit [.s x] μ = some (.s (.int .i64 W.length), μ') ∧ Keep H μ μ' ∧ Sp H N μ' x fixed n (putV false V W) cs [] := by
  obtain ⟨sid, so, u, t, w, F, G, rfl, q, ⟨hs0, hF, hG, hW0⟩, hb⟩ := h
  obtain ⟨m1, e1, k1, q1⟩ := commit_loop hW hn hl (fun j hj => (q.offF j hj).2.1) W.length 0 μ V (by omega) hw q q.row.row
  rw [n0] at e1
  rw [List.drop_zero] at q1
  obtain ⟨q5, k5⟩ := Sq.put (so' := { so with cells := [.int .i64 fixed, u, t, .nilSlice] }) k1.wf q1.low q1.obj q1.own q1.ver rfl q1.map q1.tab (OwnRow.nil _ _ _ _) (fun j hj => ⟨(q1.offF j hj).1, fun h => h, (q1.offF j hj).2.2⟩) (fun j hj => ⟨fun h => h, (q1.offG j hj).2⟩) (fun h => h) q1.len
  have kk := (k1.weak0 hF).trans (k5.weak0 fun j hj => hj ▸ hs0)
  refine ⟨_, ?_, kk, ⟨sid, _, u, t, .nilSlice, F, G, rfl, q5, ⟨hs0, hF, hG, fun j h => h.elim⟩, fun j hj => ⟨(hb j hj).1, by have := (hb j hj).2; have := kk.next; omega⟩⟩⟩
  have hst := put_store (v := .nilSlice) (so' := { so with cells := [.int .i64 fixed, u, t, .nilSlice] }) (k := 3) q1.obj q1.own q1.ver q1.cells (by omega) (by rw [q1.cells]; rfl)
  rw [space_Space_Commit_eq]
  simp -implicitDefEqProofs only [q.c3, q.row.row.len, e1, nonNil_p, ptrAdd_p, loadAt_p, q1.c3, q1.row.row.len, storeAt_p, hst, Option.bind_some, decide_true, decide_false, cond_true, cond_false, seqJ_n, seqJ_r, seqJ_e, headK_c, asB_bool, asI_int, asS_s, asN_int, extrK_0, extrK_1, extrK_2, Bool.not_true, Bool.not_false, Nat.beq_refl]
theorem Mp.less {N M : Nat} {μ : AMem} {x : SV} {n : Nat} {rs : List SV} {wss : List (List Int)} (h : Mp N μ x n rs wss) (hM : M ≤ N) : Mp M μ x n rs wss := by
  obtain ⟨sid, so, lid, lo, ver, hx, hN, hso, hsv, hsc, hN2, hlo, hlv, hlc, hl, hr, hap⟩ := h
  refine ⟨sid, so, lid, lo, ver, hx, by omega, hso, hsv, hsc, by omega, hlo, hlv, hlc, hl, fun j r' ws' hj hws => ?_, hap⟩
  obtain ⟨⟨e, h1⟩, h2⟩ := hr j r' ws' hj hws
  exact ⟨⟨e, h1.less hM⟩, h2⟩
theorem Mz.less {F : Nat → Prop} {N M : Nat} {μ : AMem} {x : SV} {n : Nat} {V : Nat → Bool} (h : Mz F N μ x n V) (hM : M ≤ N) : Mz F M μ x n V := by
  obtain ⟨⟨rs, ws, ⟨wss, hm, hl, h0⟩, hf, hU⟩, hlv⟩ := h
  refine ⟨⟨rs, ws, ⟨wss, hm.less hM, hl, h0⟩, hf, hU⟩, fun j hj => ?_⟩
  obtain ⟨h1, h2⟩ := hlv j hj
  exact ⟨by omega, h2⟩
theorem Tz.less {G : Nat → Prop} {N M : Nat} {μ : AMem} {x : SV} {cs : List Int} (h : Tz G N μ x cs) (hM : M ≤ N) : Tz G M μ x cs := by
  obtain ⟨⟨s, ht, h1, h2⟩, hlv⟩ := h
  refine ⟨⟨s, ht.less hM, h1, h2⟩, fun j hj => ?_⟩
  obtain ⟨h1, h2⟩ := hlv j hj
  exact ⟨by omega, h2⟩
theorem fresh_loop {F G : Nat → Prop} {u t : SV} (hFG : ∀ j, F j → ¬ G j) (hn : n ≤ 5000) (hfx : fixed ≤ n) :
    ∀ (k i : Nat) (μ : AMem), i + k = fixed → WF μ → Mz F N μ u n (fun j => decide (j < i)) → Tz G N μ t cs →
      ∃ μ', space_fresh_L1 [.s u, .s t, .s (.int .i64 fixed)] [.s (.int .i64 i)] μ = some (.exit 0, [.s u, .s t], μ') ∧ Keep F μ μ' ∧ Mz F N μ' u n (fun j => decide (j < fixed)) ∧ Tz G N μ' t cs
  | 0, i, μ, h, hw, hm, ht => by
    obtain rfl : i = fixed := by omega
    refine ⟨μ, ?_, Keep.refl hw, hm, ht⟩
    rw [space_fresh_L1_eq, space_fresh_L1_B_eq]
    simp -implicitDefEqProofs (disch := omega) only [lt_t, lt_f, gt_t, gt_f, le_t, le_f, ge_t, ge_f, ne_t, ne_f, eq_t, eq_f, w64, chk_true, Option.bind_some, decide_true, decide_false, cond_true, cond_false, seqJ_n, seqJ_r, seqJ_e, headK_c, asB_bool, asI_int, asS_s, asN_int, extrK_0, extrK_1, extrK_2, Bool.not_true, Bool.not_false, Nat.beq_refl]
  | k + 1, i, μ, h, hw, hm, ht => by
    obtain ⟨m1, e1, k1, z1, _⟩ := hm.set hw hn (i := i) (by omega) true
    obtain ⟨m2, e2, k2, q2, q3⟩ := fresh_loop hFG hn hfx k (i + 1) m1 (by omega) k1.wf (z1.cong fun j hj => by
      show (if j = i then true else decide (j < i)) = decide (j < i + 1)
      by_cases h1 : j = i
      · rw [if_pos h1, decide_eq_true (by omega)]
      · rw [if_neg h1]
        by_cases h2 : j < i
        · rw [decide_eq_true h2, decide_eq_true (by omega)]
        · rw [decide_eq_false h2, decide_eq_false (by omega)]) (ht.keep k1 hFG)
    rw [nsu] at e2
    have ei : IntKind.wrap .i64 ((i : Int) + 1) = (i : Int) + 1 := wr (by omega)
    refine ⟨m2, ?_, k1.trans k2, q2, q3⟩
    rw [space_fresh_L1_eq, space_fresh_L1_B_eq]
    simp -implicitDefEqProofs only [lt_t (show (i : Int) < (fixed : Int) by omega), e1, ei, Option.bind_some, decide_true, decide_false, cond_true, cond_false, seqJ_n, seqJ_r, seqJ_e, headK_c, asB_bool, asI_int, asS_s, asN_int, extrK_0, extrK_1, extrK_2, Bool.not_true, Bool.not_false, Nat.beq_refl]
    exact e2
theorem fresh_is (hw : WF μ) (h1 : 1 ≤ n) (h2 : n ≤ 4096) (hfx : fixed ≤ n) :
    ∃ u t F G μ', space_fresh [.s (.int .i64 n), .s (.int .i64 fixed)] μ = some (.tuple [.s u, .s t], μ') ∧ Same μ μ' ∧ Mz F μ.next μ' u n (fun j => decide (j < fixed)) ∧ Tz G μ.next μ' t (List.replicate n 0) ∧ ∀ j, F j → ¬ G j := by
  obtain ⟨u, F, m1, e1, k1, z1, f1⟩ := mapNew_z hw h1 h2
  obtain ⟨t, G, m2, e2, k2, z2, f2⟩ := tabNew_z k1.wf ⟨h1, h2⟩
  have hFG : ∀ j, F j → ¬ G j := fun j hF hG => by
    have := f1 j hF
    have := (z2.lives j hG).1
    omega
  obtain ⟨m3, e3, k3, q1, q2⟩ := fresh_loop (N := μ.next) hFG (by omega) hfx fixed 0 m2 (by omega) k2.wf ((z1.keep k2 fun _ h => h.elim).cong fun j hj => by rw [decide_eq_false (by omega)]) (z2.less k1.next)
  rw [n0] at e3
  refine ⟨u, t, F, G, m3, ?_, keepSame hw (k1.trans k2) k3 fun j hj => (z1.lives j hj).1, q1, q2, hFG⟩
  rw [space_fresh_eq]
  simp -implicitDefEqProofs only [e1, e2, e3, Option.bind_some, decide_true, decide_false, cond_true, cond_false, seqJ_n, seqJ_r, seqJ_e, headK_c, asB_bool, asI_int, asS_s, asN_int, extrK_0, extrK_1, extrK_2, Bool.not_true, Bool.not_false, Nat.beq_refl]
theorem spNew_is (hw : WF μ) (h1 : 1 ≤ n) (h2 : n ≤ 4096) (hfx : fixed ≤ n) :
    ∃ x H μ', space_New [.s (.int .i64 n), .s (.int .i64 fixed)] μ = some (.tuple [.s x, .s (.int .i64 0)], μ') ∧ Same μ μ' ∧ Sp H μ.next μ' x fixed n (fun j => decide (j < fixed)) (List.replicate n 0) [] := by
  obtain ⟨m0, hm0⟩ : ∃ m0, m0 = ((μ.bump 4).set (μ.next + 2) (rowObj [.int .i64 fixed, .nilPtr, .nilPtr, .nilSlice] 4 54 (some 1))) := ⟨_, rfl⟩
  have hs0 : Same μ m0 := by rw [hm0]; exact newS (Keep.refl hw) (by omega) _
  have hn0 : m0.next = μ.next + 4 := by rw [hm0]; rfl
  obtain ⟨u, t, F, G, m1, e1, k1, z1, z2, hFG⟩ := fresh_is hs0.wf h1 h2 hfx
  have hso : m1.obj (μ.next + 2) = some (rowObj [.int .i64 fixed, .nilPtr, .nilPtr, .nilSlice] 4 54 (some 1)) := k1.old _ _ (by rw [hm0]; simp) fun h => h
  have hF : ∀ j, F j → μ.next + 4 ≤ j := fun j hj => by have := (z1.lives j hj).1; omega
  have hG : ∀ j, G j → μ.next + 4 ≤ j := fun j hj => by have := (z2.lives j hj).1; omega
  obtain ⟨q5, k5⟩ := Sq.put (N := μ.next) (so' := { rowObj [.int .i64 fixed, .nilPtr, .nilPtr, .nilSlice] 4 54 (some 1) with cells := [.int .i64 fixed, u, t, .nilSlice] }) k1.wf (by omega) hso rfl rfl rfl (z1.less (by omega)) (z2.less (by omega)) (OwnRow.nil _ _ _ _) (fun j hj => ⟨hFG j hj, fun h => h, by have := hF j hj; omega⟩) (fun j hj => ⟨fun h => h, by have := hG j hj; omega⟩) (fun h => h) (by simp)
  refine ⟨.ptr (μ.next + 2) 0 0, fun j => F j ∨ G j ∨ j = μ.next + 2, _, ?_, keepSame hw (hs0.trans k1) k5 fun j hj => by omega, ⟨_, _, u, t, .nilSlice, F, G, rfl, q5, ⟨.inr (.inr rfl), fun j h => .inl h, fun j h => .inr (.inl h), fun j h => h.elim⟩, fun j hj => ?_⟩⟩
  rotate_left
  · have hk1 := k1.next
    rcases hj with h | h | h
    · obtain ⟨g1, o, g2⟩ := z1.lives j h
      have := k1.wf.lt g2
      exact ⟨by omega, by simpa using this⟩
    · obtain ⟨g1, o, g2⟩ := z2.lives j h
      have := k1.wf.lt g2
      exact ⟨by omega, by simpa using this⟩
    · exact ⟨by omega, by simp only [set_next]; omega⟩
  have s1 := put_store (v := u) (so' := { rowObj [.int .i64 fixed, .nilPtr, .nilPtr, .nilSlice] 4 54 (some 1) with cells := [.int .i64 fixed, u, .nilPtr, .nilSlice] }) (k := 1) hso rfl rfl rfl (by omega) rfl
  have s2 := put_store (m := m1.set (μ.next + 2) { rowObj [.int .i64 fixed, .nilPtr, .nilPtr, .nilSlice] 4 54 (some 1) with cells := [.int .i64 fixed, u, .nilPtr, .nilSlice] }) (v := t) (so' := { rowObj [.int .i64 fixed, .nilPtr, .nilPtr, .nilSlice] 4 54 (some 1) with cells := [.int .i64 fixed, u, t, .nilSlice] }) (k := 2) (set_self ..) rfl rfl rfl (by omega) rfl
  rw [set_set] at s2
  rw [space_New_eq]
  simp -implicitDefEqProofs only [lt_f (show (1 : Int) ≤ (n : Int) by omega), gt_f (show (n : Int) ≤ 4096 by omega), lt_f (show (0 : Int) ≤ (fixed : Int) by omega), gt_f (show (fixed : Int) ≤ (n : Int) by omega), ← hm0, e1, s1, s2, Option.bind_some, decide_true, decide_false, cond_true, cond_false, seqJ_n, seqJ_r, seqJ_e, headK_c, asB_bool, asI_int, asS_s, asN_int, extrK_0, extrK_1, extrK_2, Bool.not_true, Bool.not_false, Nat.beq_refl]
end
end Go.Proofs.Ytkikncdhmifkaaa
