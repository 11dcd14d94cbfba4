/- Spaces: what each call answers, and leaves. -/
import Derived.Test.YtkikncdhmifkaaaQSpace
namespace Go.Proofs.Ytkikncdhmifkaaa
open Go Go.Proofs.Ytkikncdhmifkaaa.E
set_option linter.unusedVariables false
set_option linter.unusedSimpArgs false
/-- A space, with its parts: the map u, the table t, the row w of those that wait. -/
structure Sq (N : Nat) (μ : AMem) (sid : Nat) (so : AObj) (u t w : SV) (F G : Nat → Prop) (fixed n : Nat) (V : Nat → Bool) (cs W : List Int) : Prop where
  low : N ≤ sid
  obj : μ.obj sid = some so
  own : so.own = true
  ver : so.ver = 0
  cells : so.cells = [.int .i64 fixed, u, t, w]
  map : Mz F N μ u n V
  tab : Tz G N μ t cs
  row : OwnRow N μ .i64 3 w W
  offF : ∀ j, F j → ¬ G j ∧ ¬ isId w j ∧ j ≠ sid
  offG : ∀ j, G j → ¬ isId w j ∧ j ≠ sid
  offW : ¬ isId w sid
  len : cs.length = n
/-- A space whose objects are of H. -/
def Sp (H : Nat → Prop) (N : Nat) (μ : AMem) (x : SV) (fixed n : Nat) (V : Nat → Bool) (cs W : List Int) : Prop := ∃ sid so u t w F G, x = .ptr sid 0 0 ∧ Sq N μ sid so u t w F G fixed n V cs W ∧
  (H sid ∧ (∀ j, F j → H j) ∧ (∀ j, G j → H j) ∧ ∀ j, isId w j → H j) ∧ ∀ j, H j → N ≤ j ∧ j < μ.next
section
variable {N : Nat} {μ μ' : AMem} {sid : Nat} {so : AObj} {u t w : SV} {F G : Nat → Prop} {fixed n : Nat} {V V' : Nat → Bool} {cs cs' W : List Int}
theorem Sq.c0 (h : Sq N μ sid so u t w F G fixed n V cs W) : μ.cell sid 0 (0 + 0) = some (.int .i64 fixed) := by simp only [AMem.cell, h.obj, Option.bind_some, h.ver, if_true, h.cells]; rfl
theorem Sq.c1 (h : Sq N μ sid so u t w F G fixed n V cs W) : μ.cell sid 0 (0 + 1) = some u := by simp only [AMem.cell, h.obj, Option.bind_some, h.ver, if_true, h.cells]; rfl
theorem Sq.c2 (h : Sq N μ sid so u t w F G fixed n V cs W) : μ.cell sid 0 (0 + 2) = some t := by simp only [AMem.cell, h.obj, Option.bind_some, h.ver, if_true, h.cells]; rfl
theorem Sq.c3 (h : Sq N μ sid so u t w F G fixed n V cs W) : μ.cell sid 0 (0 + 3) = some w := by simp only [AMem.cell, h.obj, Option.bind_some, h.ver, if_true, h.cells]; rfl
theorem Sq.same (h : Sq N μ sid so u t w F G fixed n V cs W) (hs : Same μ μ') : Sq N μ' sid so u t w F G fixed n V cs W :=
  ⟨h.low, hs.old _ _ h.obj fun h => h, h.own, h.ver, h.cells, h.map.keep hs fun _ h => h.elim, h.tab.keep hs fun _ h => h.elim, ownKeep h.row hs fun _ h => h.elim, h.offF, h.offG, h.offW, h.len⟩
theorem Sq.mapped (h : Sq N μ sid so u t w F G fixed n V cs W) (hK : Keep F μ μ') (hm : Mz F N μ' u n V') : Sq N μ' sid so u t w F G fixed n V' cs W :=
  ⟨h.low, hK.old _ _ h.obj fun hf => (h.offF _ hf).2.2 rfl, h.own, h.ver, h.cells, hm, h.tab.keep hK fun j hj => (h.offF j hj).1, ownKeep h.row hK fun j hj => (h.offF j hj).2.1, h.offF, h.offG, h.offW, h.len⟩
theorem Sq.tabbed (h : Sq N μ sid so u t w F G fixed n V cs W) (hK : Keep G μ μ') (ht : Tz G N μ' t cs') (hl : cs'.length = cs.length) : Sq N μ' sid so u t w F G fixed n V cs' W :=
  ⟨h.low, hK.old _ _ h.obj fun hf => (h.offG _ hf).2 rfl, h.own, h.ver, h.cells, h.map.keep hK fun j hj hf => (h.offF j hf).1 hj, ht, ownKeep h.row hK fun j hj => (h.offG j hj).1, h.offF, h.offG, h.offW, hl.trans h.len⟩
theorem Sq.cong (h : Sq N μ sid so u t w F G fixed n V cs W) (hv : ∀ j, j < n → V j = V' j) : Sq N μ sid so u t w F G fixed n V' cs W :=
  ⟨h.low, h.obj, h.own, h.ver, h.cells, h.map.cong hv, h.tab, h.row, h.offF, h.offG, h.offW, h.len⟩
end
section
variable {H : Nat → Prop} {N : Nat} {μ : AMem} {x : SV} {fixed n : Nat} {V : Nat → Bool} {cs W : List Int}
theorem Sp.same {μ' : AMem} (h : Sp H N μ x fixed n V cs W) (hs : Same μ μ') : Sp H N μ' x fixed n V cs W := by
  obtain ⟨sid, so, u, t, w, F, G, e, q, hH, hb⟩ := h
  have := hs.next
  exact ⟨sid, so, u, t, w, F, G, e, q.same hs, hH, fun j hj => ⟨(hb j hj).1, by have := (hb j hj).2; omega⟩⟩
/-- What is written is none of the space's. -/
theorem Sp.off {μ' : AMem} {S : Nat → Prop} (h : Sp H N μ x fixed n V cs W) (hs : Keep S μ μ') (hS : ∀ j, S j → ¬ H j) : Sp H N μ' x fixed n V cs W := by
  obtain ⟨sid, so, u, t, w, F, G, e, q, ⟨h1, h2, h3, h4⟩, hb⟩ := h
  have := hs.next
  exact ⟨sid, so, u, t, w, F, G, e, ⟨q.low, hs.old _ _ q.obj fun h => hS _ h h1, q.own, q.ver, q.cells, q.map.keep hs fun j hj hf => hS j hj (h2 j hf), q.tab.keep hs fun j hj hg => hS j hj (h3 j hg), ownKeep q.row hs fun j hj hi => hS j hj (h4 j hi), q.offF, q.offG, q.offW, q.len⟩, ⟨h1, h2, h3, h4⟩, fun j hj => ⟨(hb j hj).1, by have := (hb j hj).2; omega⟩⟩
theorem Sp.cong {V' : Nat → Bool} (h : Sp H N μ x fixed n V cs W) (hv : ∀ j, j < n → V j = V' j) : Sp H N μ x fixed n V' cs W := by
  obtain ⟨sid, so, u, t, w, F, G, e, q, hH, hb⟩ := h
  exact ⟨sid, so, u, t, w, F, G, e, q.cong hv, hH, hb⟩
theorem Sp.bound (h : Sp H N μ x fixed n V cs W) : ∀ j, H j → N ≤ j ∧ j < μ.next := by
  obtain ⟨sid, so, u, t, w, F, G, e, q, hH, hb⟩ := h
  exact hb
/-- What a call did to the space it did to nothing that lived before the space. -/
theorem Sp.since {μ0 μ' : AMem} (h : Sp H μ0.next μ x fixed n V cs W) (h0 : WF μ0) (hs : Same μ0 μ) (hk : Keep H μ μ') : Same μ0 μ' := keepSame h0 hs hk fun j hj => (h.bound j hj).1
theorem Sp.nn (h : Sp H N μ x fixed n V cs W) : isNil (.s x) = some false := by
  obtain ⟨sid, so, u, t, w, F, G, rfl, q, ⟨hs0, hF, hG, hW0⟩, hb⟩ := h; rfl
theorem Sp.len (h : Sp H N μ x fixed n V cs W) : cs.length = n := by
  obtain ⟨sid, so, u, t, w, F, G, rfl, q, ⟨hs0, hF, hG, hW0⟩, hb⟩ := h; exact q.len
theorem spOf_is (h : Sp H N μ x fixed n V cs W) (i : Int) : space_Space_Of [.s x, .s (.int .i64 i)] μ = some (.s (.int .i64 (ofI cs i)), μ) := by
  obtain ⟨sid, so, u, t, w, F, G, rfl, q, ⟨hs0, hF, hG, hW0⟩, hb⟩ := h
  rw [space_Space_Of_eq]
  simp -implicitDefEqProofs only [q.c2, q.tab.of, Option.bind_some, decide_true, decide_false, cond_true, cond_false, seqJ_n, seqJ_r, seqJ_e, headK_c, asB_bool, asI_int, asS_s, asN_int, extrK_0, extrK_1, extrK_2, Bool.not_true, Bool.not_false, Nat.beq_refl]
def usedI (n : Nat) (V : Nat → Bool) (i : Int) : Bool := !(decide (0 ≤ i) && decide (i < n)) || V i.toNat
theorem usedI_in {n : Nat} {V : Nat → Bool} {i : Nat} (h : i < n) : usedI n V (i : Int) = V i := by
  unfold usedI; rw [decide_eq_true (by omega), decide_eq_true (by omega)]; rfl
theorem spUsed_is (h : Sp H N μ x fixed n V cs W) (i : Int) : space_Space_Used [.s x, .s (.int .i64 i)] μ = some (.s (.bool (usedI n V i)), μ) := by
  obtain ⟨sid, so, u, t, w, F, G, rfl, q, ⟨hs0, hF, hG, hW0⟩, hb⟩ := h
  rw [space_Space_Used_eq]
  simp -implicitDefEqProofs only [q.c1, q.map.used, Option.bind_some, decide_true, decide_false, cond_true, cond_false, seqJ_n, seqJ_r, seqJ_e, headK_c, asB_bool, asI_int, asS_s, asN_int, extrK_0, extrK_1, extrK_2, Bool.not_true, Bool.not_false, Nat.beq_refl]
  rfl
theorem spFree_is (h : Sp H N μ x fixed n V cs W) (hn : n ≤ 5000) : space_Space_Free [.s x] μ = some (.s (.int .i64 (n - cntF V n)), μ) := by
  obtain ⟨sid, so, u, t, w, F, G, rfl, q, ⟨hs0, hF, hG, hW0⟩, hb⟩ := h
  have := cntF_le V n
  rw [space_Space_Free_eq]
  simp -implicitDefEqProofs only [q.c1, mapLen_is q.map, q.map.count hn, w64 (n := (n : Int) - cntF V n) (by omega) (by omega), chk_true, Option.bind_some, decide_true, decide_false, cond_true, cond_false, seqJ_n, seqJ_r, seqJ_e, headK_c, asB_bool, asI_int, asS_s, asN_int, extrK_0, extrK_1, extrK_2, Bool.not_true, Bool.not_false, Nat.beq_refl]
theorem spWaiting_is (hw : WF μ) (h : Sp H N μ x fixed n V cs W) (hl : W.length ≤ 100000) : ∃ y μ', space_Space_Waiting [.s x] μ = some (.s y, μ') ∧ Same μ μ' ∧ OwnRow μ.next μ' .i64 3 y W := by
  obtain ⟨sid, so, u, t, w, F, G, rfl, q, ⟨hs0, hF, hG, hW0⟩, hb⟩ := h
  obtain ⟨y, m, g1, g2, g3⟩ := copyS (e := 3) (B := 8) (b := 4) (n := 6) hw (Keep.refl hw) q.row.row (by omega) (by omega) (by omega)
  refine ⟨y, m, ?_, g2, g3⟩
  rw [space_Space_Waiting_eq]
  simp -implicitDefEqProofs only [bump_cell, q.c3, g1, Option.bind_some, decide_true, decide_false, cond_true, cond_false, seqJ_n, seqJ_r, seqJ_e, headK_c, asB_bool, asI_int, asS_s, asN_int, extrK_0, extrK_1, extrK_2, Bool.not_true, Bool.not_false, Nat.beq_refl]
theorem add_one {G : Nat → Prop} {m : AMem} (hw : WF m) {t : SV} {cs : List Int} (h : Tz G N m t cs) {k a : Nat} (ha : a < k) {v : Int} (hf : fits cs 1) (hv : mayI cs v = true) :
    ∃ m', refs_Table_Add [.s t, .s (.slice (m.next + a) 0 0 1)] ((m.bump k).set (m.next + a) (rowObj [.int .i64 v] 1 3 (some 1))) = some (.s (.bool true), m') ∧ Same m ((m.bump k).set (m.next + a) (rowObj [.int .i64 v] 1 3 (some 1))) ∧ Keep G ((m.bump k).set (m.next + a) (rowObj [.int .i64 v] 1 3 (some 1))) m' ∧ Tz G N m' t (incZ cs v) := by
  have ks := Same.bumpSet hw ha (rowObj [.int .i64 v] 1 3 (some 1))
  have hy : IsRow ((m.bump k).set (m.next + a) (rowObj [.int .i64 v] 1 3 (some 1))) .i64 (.slice (m.next + a) 0 0 1) [v] := IsRow.made (o := rowObj [.int .i64 v] 1 3 (some 1)) (by simp) rfl rfl rfl
  obtain ⟨m', e, k1, t1⟩ := (h.keep ks fun _ h => h.elim).add ks.wf hy (fun j hj hG => by
    obtain ⟨_, o, ho⟩ := h.lives j hG
    have := hw.lt ho
    have : m.next + a = j := hj
    omega) (by simp) (by simpa using hf) (by simp [hv])
  exact ⟨m', e, ks, k1, t1⟩
theorem Same.kn {H : Nat → Prop} {m m' : AMem} (h : Same m m') : Keep H m m' := h.weak0 fun _ h => h.elim
theorem spTake_is (hw : WF μ) (h : Sp H N μ x fixed n V cs W) (hn : n ≤ 5000) (hf : fits cs 1) :
    ((∀ j, j < n → V j = true) → space_Space_Take [.s x] μ = some (.tuple [.s (.int .i64 0), .s (.int .i64 3)], μ)) ∧
    (∀ g : Nat, g < n → V g = false → (∀ j, j < g → V j = true) → ∃ μ', space_Space_Take [.s x] μ = some (.tuple [.s (.int .i64 g), .s (.int .i64 0)], μ') ∧ Keep H μ μ' ∧ Sp H N μ' x fixed n (setV V g true) (incZ cs g) W) := by
  obtain ⟨sid, so, u, t, w, F, G, rfl, q, ⟨hs0, hF, hG, hW0⟩, hb⟩ := h
  obtain ⟨t1, t2⟩ := q.map.take hw hn
  refine ⟨fun ha => ?_, fun g hg hgf hgl => ?_⟩
  · rw [space_Space_Take_eq]
    simp -implicitDefEqProofs only [q.c1, t1 ha, lt_t (show (-1 : Int) < 0 by omega), Option.bind_some, decide_true, decide_false, cond_true, cond_false, seqJ_n, seqJ_r, seqJ_e, headK_c, asB_bool, asI_int, asS_s, asN_int, extrK_0, extrK_1, extrK_2, Bool.not_true, Bool.not_false, Nat.beq_refl]
  · obtain ⟨m1, e1, k1, z1⟩ := t2 g hg hgf hgl
    have q1 := q.mapped k1 z1
    obtain ⟨m2, e2, k2, k3, z2⟩ := add_one k1.wf q1.tab (k := 7) (a := 5) (by omega) (v := (g : Int)) hf (by unfold mayI; rw [q.len, decide_eq_true (by omega), decide_eq_true (by omega)]; rfl)
    have q2 := (q1.same k2).tabbed k3 z2 (incZ_len ..)
    have kk : Keep H μ m2 := (k1.weak0 hF).trans ((Same.kn k2).trans (k3.weak0 hG))
    refine ⟨m2, ?_, kk, ⟨sid, so, u, t, w, F, G, rfl, q2, ⟨hs0, hF, hG, hW0⟩, fun j hj => ⟨(hb j hj).1, by have := (hb j hj).2; have := kk.next; omega⟩⟩⟩
    rw [space_Space_Take_eq]
    simp -implicitDefEqProofs only [q.c1, e1, lt_f (show (0 : Int) ≤ (g : Int) by omega), bump_cell, q1.c2, e2, Option.bind_some, decide_true, decide_false, cond_true, cond_false, seqJ_n, seqJ_r, seqJ_e, headK_c, asB_bool, asI_int, asS_s, asN_int, extrK_0, extrK_1, extrK_2, Bool.not_true, Bool.not_false, Nat.beq_refl]
theorem ofI_may {cs : List Int} {i : Int} (h : ofI cs i ≠ 0) : mayI cs i = true := by
  unfold ofI at h
  cases hm : mayI cs i
  · rw [hm] at h; exact absurd rfl h
  · rfl
theorem ofI_ge {cs : List Int} {k : Nat} (hf : fits cs k) (i : Int) : 0 ≤ ofI cs i ∧ ofI cs i ≤ 1000000 := by
  unfold ofI
  split
  · rename_i hm
    have := mayI_t hm
    have := hf _ (getD_mem (zs := cs) (i := i.toNat) (by omega))
    omega
  · omega
theorem spShare_is (hw : WF μ) (h : Sp H N μ x fixed n V cs W) (hf : fits cs 1) (i : Int) :
    (ofI cs i = 0 → ∃ μ', space_Space_Share [.s x, .s (.int .i64 i)] μ = some (.s (.bool false), μ') ∧ Keep H μ μ' ∧ Sp H N μ' x fixed n V cs W) ∧
    (ofI cs i ≠ 0 → ∃ μ', space_Space_Share [.s x, .s (.int .i64 i)] μ = some (.s (.bool true), μ') ∧ Keep H μ μ' ∧ Sp H N μ' x fixed n V (incZ cs i) W) := by
  obtain ⟨sid, so, u, t, w, F, G, rfl, q, ⟨hs0, hF, hG, hW0⟩, hb⟩ := h
  have hb17 := Keep.bump (S := fun _ => False) hw 17
  have q1 := q.same hb17
  have hge := ofI_ge hf i
  refine ⟨fun h0 => ?_, fun h0 => ?_⟩
  · refine ⟨μ.bump 17, ?_, Same.kn hb17, ⟨sid, so, u, t, w, F, G, rfl, q1, ⟨hs0, hF, hG, hW0⟩, fun j hj => ⟨(hb j hj).1, by have := (hb j hj).2; simp only [bump_next]; omega⟩⟩⟩
    rw [space_Space_Share_eq]
    simp -implicitDefEqProofs only [q1.c2, q1.tab.of, gt_f (show ofI cs i ≤ 0 by omega), Option.bind_some, decide_true, decide_false, cond_true, cond_false, seqJ_n, seqJ_r, seqJ_e, headK_c, asB_bool, asI_int, asS_s, asN_int, extrK_0, extrK_1, extrK_2, Bool.not_true, Bool.not_false, Nat.beq_refl]
  · obtain ⟨m2, e2, k2, k3, z2⟩ := add_one hw q.tab (k := 17) (a := 13) (by omega) (v := i) hf (ofI_may h0)
    have q2 := (q.same k2).tabbed k3 z2 (incZ_len ..)
    have kk : Keep H μ m2 := (Same.kn k2).trans (k3.weak0 hG)
    refine ⟨m2, ?_, kk, ⟨sid, so, u, t, w, F, G, rfl, q2, ⟨hs0, hF, hG, hW0⟩, fun j hj => ⟨(hb j hj).1, by have := (hb j hj).2; have := kk.next; omega⟩⟩⟩
    rw [space_Space_Share_eq]
    simp -implicitDefEqProofs only [q1.c2, q1.tab.of, gt_t (show 0 < ofI cs i by omega), e2, Option.bind_some, decide_true, decide_false, cond_true, cond_false, seqJ_n, seqJ_r, seqJ_e, headK_c, asB_bool, asI_int, asS_s, asN_int, extrK_0, extrK_1, extrK_2, Bool.not_true, Bool.not_false, Nat.beq_refl]
end
end Go.Proofs.Ytkikncdhmifkaaa
