/- What the functions come to. -/
import Derived.Test.YtkikncdhmifkaaaZka
/- The document's space: a copy. -/
namespace Go.Proofs.Ytkikncdhmifkaaa
open Go Go.Proofs.Ytkikncdhmifkaaa.E
set_option linter.unusedVariables false
set_option linter.unusedSimpArgs false
theorem OwnB.copyAt {M N : Nat} {m : AMem} {x : SV} {bs : List Bool} (hw : WF m) (h : OwnB M m x bs) (hp : ¬ bs.length = 0) (hl : bs.length ≤ 1000000) {nid : Nat} (hN : N ≤ nid) (hlt : nid < m.next) (hf : m.obj nid = none) :
    ∃ m', (∀ {R : Type} (K : AV → AMem → Option R), appendA 4 1 1 nid m (.s .nilSlice) (.s x) K = K (.s (.slice nid 0 0 bs.length)) m') ∧ OwnB N m' (.slice nid 0 0 bs.length) bs ∧ WF m' ∧ m'.next = m.next ∧ (∀ id o, m.obj id = some o → m'.obj id = some o) ∧ ∀ id, id ≠ nid → m.obj id = none → m'.obj id = none := by
  obtain ⟨hlen, hrow⟩ := h.row
  refine ⟨m.set nid (rowObj (bs.map .bool) 1 4 none), fun K => ?_, .inr ⟨nid, 0, rowObj (bs.map .bool) 1 4 none, rfl, hN, set_self _ _ _, rfl, rfl, rfl, rfl, fun i b hi => by simp [rowObj, hi]⟩, hw.set hlt, rfl, fun id o ho => ?_, fun id hne hno => by rw [set_obj, if_neg hne]; exact hno⟩
  · simp only [appendA, hlen, Option.bind_some, hrow, appendS]
    rw [if_pos ⟨by omega, by omega⟩, if_neg hp]
  · have : id ≠ nid := fun e => by rw [e, hf] at ho; cases ho
    rw [set_obj, if_neg this]; exact ho
theorem dCopy_is {N sid n fixed : Nat} {μ : AMem} {so : AObj} {s w : SV} {cs : List Int} {bs : List Bool} (hw : WF μ) (h : Dq N μ sid so s w n fixed cs bs) (hn : 1 ≤ n ∧ n ≤ 5000) :
    ∃ sid' so' s' w' m, overdubref10_Space_Copy [.s (.ptr sid 0 0)] μ = some (.s (.ptr sid' 0 0), m) ∧ Same μ m ∧ Dq μ.next m sid' so' s' w' n fixed cs bs := by
  have hlc := h.lc
  have hlb := h.lb
  have kb := bumpS (Keep.refl hw) 21
  have h0 := h.same kb
  obtain ⟨y, m8, a0, a1, a2, a3, a4, a5⟩ := OwnRow.append (B := 8) (nid := μ.next + 12) kb.wf (OwnRow.nil μ.next (μ.bump 21) .i64 3) h0.row.row (by omega) (by simp; omega) (by omega) (by simp) (freshB hw 21 12)
  rw [List.nil_append] at a1
  rw [bump_next] at a3
  have yid : ∀ j, isId y j → j = μ.next + 12 := fun j hj => (a5 j hj).resolve_left fun h => h
  have k8 : Same μ m8 := ⟨a2, by omega, fun id o ho _ => a4.1 id o ho fun h => h, fun id hid hno => a4.2 id (by omega) hno⟩
  have h8 := h.same k8
  have f17 : m8.obj (μ.next + 17) = none := a4.2 _ (by omega) (freshB hw 21 17)
  have f19 : m8.obj (μ.next + 19) = none := a4.2 _ (by omega) (freshB hw 21 19)
  obtain ⟨m11, b0, b1, b2, b3, b4, b5⟩ := h8.brow.copyAt (N := μ.next) a2 (by omega) (by omega) (nid := μ.next + 17) (by omega) (by omega) f17
  have k11 : Same μ m11 := ⟨b2, by omega, fun id o ho _ => b4 id o (k8.old id o ho fun h => h), fun id hid hno => b5 id (by omega) (k8.low id hid hno)⟩
  have h11 := h.same k11
  have f19' : m11.obj (μ.next + 19) = none := b5 _ (by omega) f19
  have hset : ∀ id o, m11.obj id = some o → (m11.set (μ.next + 19) (rowObj [.int .i64 n, .int .i64 fixed, y, .slice (μ.next + 17) 0 0 bs.length] 4 62 (some 1))).obj id = some o := fun id o ho => by
    have : id ≠ μ.next + 19 := fun e => by rw [e, f19'] at ho; cases ho
    rw [set_obj, if_neg this]; exact ho
  refine ⟨μ.next + 19, rowObj [.int .i64 n, .int .i64 fixed, y, .slice (μ.next + 17) 0 0 bs.length] 4 62 (some 1), y, .slice (μ.next + 17) 0 0 bs.length, _, ?_, Keep.setS hw k11 (by omega) (by omega), ⟨by omega, set_self _ _ _, rfl, rfl, rfl, a1.old fun id o ho _ => hset _ _ (b4 _ _ ho), b1.old fun id o ho _ => hset _ _ ho, h.lc, h.lb, fun hj => ?_, fun hj => ?_, fun j hj hj2 => ?_⟩⟩
  · rw [overdubref10_Space_Copy_eq]
    simp -implicitDefEqProofs only [h0.c0, h0.c1, h0.c2, h0.c3, a0, h8.c3, h8.c1, h8.c0, chk_rfl, b0, h11.c1, h11.c0, f19', chk_true, Option.bind_some, Option.bind_some, decide_true, decide_false, cond_true, cond_false, seqJ_n, seqJ_r, seqJ_e, headK_c, asB_bool, asI_int, asS_s, asN_int, extrK_0, extrK_1, extrK_2, Bool.not_true, Bool.not_false, Nat.beq_refl]
  · have := yid _ hj
    omega
  · have : μ.next + 17 = μ.next + 19 := hj
    omega
  · have a := yid _ hj
    have b : μ.next + 17 = j := hj2
    omega
end Go.Proofs.Ytkikncdhmifkaaa
/- Spaces: what waits, plain. -/
namespace Go.Proofs.Ytkikncdhmifkaaa
open Go Go.Proofs.Ytkikncdhmifkaaa.E
set_option linter.unusedVariables false
set_option linter.unusedSimpArgs false
theorem cutK_at {A B : List Int} {i : Int} (hA : ∀ v ∈ A, v ≤ i) (hB : ∀ v ∈ B, i < v) : ∀ m, m ≤ B.length → cutK (A ++ B) i (A.length + m) = A.length
  | 0, _ => by
    rcases hk : A.length with _ | k
    · rfl
    · have hle := hA _ (getD_mem (zs := A) (i := k) (by omega))
      have hg : (A ++ B).getD k 0 = A.getD k 0 := by rw [List.getD_eq_getElem?_getD, List.getElem?_append_left (by omega), ← List.getD_eq_getElem?_getD]
      show cutK (A ++ B) i (k + 1) = k + 1
      rw [cutK, hg, if_neg (by omega)]
  | m + 1, h => by
    have hb := hB _ (getD_mem (zs := B) (i := m) (by omega))
    have hg : (A ++ B).getD (A.length + m) 0 = B.getD m 0 := by rw [List.getD_eq_getElem?_getD, List.getElem?_append_right (by omega), show A.length + m - A.length = m by omega, ← List.getD_eq_getElem?_getD]
    show cutK (A ++ B) i (A.length + m + 1) = A.length
    rw [cutK, hg, if_pos (by omega)]
    exact cutK_at hA hB m (by omega)
theorem insK_at {A B : List Int} {i : Int} (hA : ∀ v ∈ A, v ≤ i) (hB : ∀ v ∈ B, i < v) : insK (A ++ B) i = A ++ i :: B := by
  unfold insK
  rw [List.length_append, cutK_at hA hB B.length (Nat.le_refl _), List.take_left', List.drop_left'] <;> rfl
theorem waitF_app (bs : List Bool) : ∀ k m a : Nat, waitF bs (k + m) a = waitF bs k a ++ waitF bs m (a + k)
  | 0, m, a => by simp [waitF]
  | k + 1, m, a => by
    rw [show k + 1 + m = (k + m) + 1 by omega, waitF, waitF, waitF_app bs k m (a + 1), show a + 1 + k = a + (k + 1) by omega]
    split <;> rfl
theorem waitF_mem (bs : List Bool) : ∀ (k a : Nat) (v : Int), v ∈ waitF bs k a ↔ ∃ j : Nat, v = j ∧ a ≤ j ∧ j < a + k ∧ bs.getD j false = true
  | 0, a, v => by
    constructor
    · intro h; cases h
    · intro ⟨j, _, h1, h2, _⟩; omega
  | k + 1, a, v => by
    have ih := waitF_mem bs k (a + 1) v
    rw [waitF]
    constructor
    · intro h
      split at h
      · rename_i hb
        rcases List.mem_cons.mp h with h | h
        · exact ⟨a, h, Nat.le_refl _, by omega, hb⟩
        · obtain ⟨j, h1, h2, h3, h4⟩ := ih.mp h
          exact ⟨j, h1, by omega, by omega, h4⟩
      · obtain ⟨j, h1, h2, h3, h4⟩ := ih.mp h
        exact ⟨j, h1, by omega, by omega, h4⟩
    · intro ⟨j, h1, h2, h3, h4⟩
      by_cases hj : j = a
      · subst hj
        rw [if_pos h4, h1]
        exact List.mem_cons_self ..
      · have := ih.mpr ⟨j, h1, by omega, by omega, h4⟩
        split
        · exact List.mem_cons_of_mem _ this
        · exact this
theorem waitF_congr {bs cs : List Bool} : ∀ k a : Nat, (∀ j, a ≤ j → j < a + k → bs.getD j false = cs.getD j false) → waitF bs k a = waitF cs k a
  | 0, a, _ => rfl
  | k + 1, a, h => by rw [waitF, waitF, h a (Nat.le_refl _) (by omega), waitF_congr k (a + 1) fun j h1 h2 => h j (by omega) (by omega)]
theorem getB_set {bs : List Bool} {i : Nat} (hi : i < bs.length) (v : Bool) (j : Nat) : (bs.set i v).getD j false = if j = i then v else bs.getD j false := by
  rw [List.getD_eq_getElem?_getD, List.getElem?_set]
  by_cases h : i = j
  · subst h; rw [if_pos rfl, if_pos hi, if_pos rfl]; rfl
  · rw [if_neg h, if_neg (fun e => h e.symm), List.getD_eq_getElem?_getD]
/-- One more waits. -/
theorem waitF_ins {bs : List Bool} {n i : Nat} (hn : bs.length = n) (hi : i < n) (hb : bs.getD i false = false) : waitF (bs.set i true) n 0 = insK (waitF bs n 0) (i : Int) := by
  have hsplit : ∀ c : List Bool, waitF c n 0 = waitF c i 0 ++ waitF c ((n - i - 1) + 1) i := fun c => by
    have := waitF_app c i ((n - i - 1) + 1) 0
    rw [show i + (n - i - 1 + 1) = n by omega, Nat.zero_add] at this
    exact this
  have e1 : waitF (bs.set i true) i 0 = waitF bs i 0 := waitF_congr i 0 fun j h1 h2 => by rw [getB_set (by omega), if_neg (by omega)]
  have e2 : waitF (bs.set i true) (n - i - 1) (i + 1) = waitF bs (n - i - 1) (i + 1) := waitF_congr _ _ fun j h1 h2 => by rw [getB_set (by omega), if_neg (by omega)]
  rw [hsplit (bs.set i true), hsplit bs, waitF, waitF, getB_set (by omega), if_pos rfl, if_pos rfl, hb, e1, e2]
  simp only [Bool.false_eq_true, if_false]
  refine (insK_at (fun v hv => ?_) (fun v hv => ?_)).symm
  · obtain ⟨j, h1, _, h3, _⟩ := (waitF_mem bs i 0 v).mp hv
    omega
  · obtain ⟨j, h1, h2, _, _⟩ := (waitF_mem bs _ _ v).mp hv
    omega
theorem waitF_none : ∀ k a n : Nat, waitF (List.replicate n false) k a = []
  | 0, a, n => rfl
  | k + 1, a, n => by
    have : (List.replicate n false).getD a false = false := by
      rw [List.getD_eq_getElem?_getD, List.getElem?_replicate]
      split <;> rfl
    rw [waitF, this]
    simp only [Bool.false_eq_true, if_false]
    exact waitF_none k (a + 1) n
end Go.Proofs.Ytkikncdhmifkaaa
/- A map's clone. -/
namespace Go.Proofs.Ytkikncdhmifkaaa
open Go Go.Proofs.Ytkikncdhmifkaaa.E
set_option linter.unusedVariables false
set_option linter.unusedSimpArgs false
theorem clone_body {N : Nat} {μ : AMem} (hw : WF μ) (hN : N ≤ μ.next) {sid n : Nat} {X : SV} {rs : List SV} {wss : List (List Int)} (h : Mq N μ sid n X rs wss) {r L : SV} {ws : List Int} {i len : Nat} {q : AV} (hrow : IsRow μ .u64 r ws) (hok : ∀ w ∈ ws, w64ok w) (hwl : ws.length ≤ 10000) (hr : rs.length ≤ 10) (hi : i < len) (hlen : len ≤ 100)
    (hind : ∀ {R : Type} (K : AV → Option R), indS 1 (.s L) (i : Int) K = K q) (hld : ∀ {R : Type} (K : AV → Option R), loadAt μ q K = K (.s r)) :
    ∃ X' y μ', Mq N μ' sid n X' (rs ++ [y]) (wss ++ [ws]) ∧ Keep (fun j => N ≤ j) μ μ' ∧
      bitmap_Map_Clone_L1_B [.s (.ptr sid 0 0), .s L, .s (.int .i64 (len : Int))] [.s (.int .i64 (i : Int))] μ = some (.normal, [.s (.int .i64 ((i + 1 : Nat) : Int))], μ') := by
  obtain ⟨g1, ⟨so, g2, g3, g4, g5⟩, g6, g7, g8, g9, g10⟩ := h
  have hsl := hw.lt g2
  have hs1 : Same μ (μ.bump 12) := Keep.bump hw 12
  obtain ⟨y, m2, o1, o2, o3, o4, o5, o6⟩ := OwnRow.append (B := 8) (nid := μ.next + 6) hs1.wf (OwnRow.nil μ.next (μ.bump 12) .u64 78) (hrow.same hs1) (by omega) (by simp; omega) (by omega) (by simp) (freshB hw 12 6)
  rw [List.nil_append] at o2
  simp only [bump_next] at o4
  have oid : ∀ id, isId y id → id = μ.next + 6 := fun id hid => (o6 id hid).resolve_left fun h => h
  have hs2 : Same μ m2 := ⟨o3, by omega, fun id o ho _ => o5.1 id o ho fun h => h, fun id hid hno => o5.2 id (by omega) hno⟩
  have hso2 : m2.obj sid = some so := hs2.old _ _ g2 fun h => h
  have hfree : ∀ j, j < 12 → j ≠ 6 → m2.obj (μ.next + j) = none := fun j hj hj6 => o5.2 _ (by omega) (freshB hw 12 j)
  have hlt3 : μ.next + 7 < m2.next := by omega
  obtain ⟨m3, hm3⟩ : ∃ m3, m3 = m2.set (μ.next + 7) (rowObj [y] 1 79 (some 1)) := ⟨_, rfl⟩
  have hs3 : Same μ m3 := by rw [hm3]; exact Keep.setS hw hs2 (by omega) hlt3
  have hk3 : ∀ id o, m2.obj id = some o → m3.obj id = some o := fun id o ho => by
    have : id ≠ μ.next + 7 := fun e => by rw [e, hfree 7 (by omega) (by omega)] at ho; cases ho
    rw [hm3, set_obj, if_neg this]; exact ho
  have hX3 : OwnV N m3 79 X rs := g6.keep fun id o ho _ => hs3.old id o ho fun h => h
  obtain ⟨X', m4, a1, a2, a3, a4, a5, a6⟩ := hX3.push hs3.wf (y := y) (B := 24) (lit := μ.next + 7) (nid := μ.next + 8) (by omega) (by omega) (by omega) (by rw [hm3, set_next]; omega) (by rw [hm3, set_obj, if_neg (by omega)]; exact hfree 8 (by omega) (by omega)) (q := some 1) (by rw [hm3]; simp)
  have hso4 : m4.obj sid = some so := a5.1 _ _ (hk3 _ _ hso2) g7
  obtain ⟨m5, hm5⟩ : ∃ m5, m5 = m4.set sid { so with cells := [.int .i64 n, X'] } := ⟨_, rfl⟩
  have hst : m4.store sid 0 (0 + 1) [X'] = some m5 := by
    simp only [AMem.store, hso4, Option.bind_some]
    rw [if_pos ⟨g3, g4, by rw [g5]; simp⟩, hm5, g5]; rfl
  have hX'sid : ¬ isId X' sid := fun h => by
    rcases a6 sid h with h3 | h3
    · exact g7 h3
    · omega
  have hk5 : ∀ id o, m4.obj id = some o → id ≠ sid → m5.obj id = some o := fun id o ho hne => by rw [hm5, set_obj, if_neg hne]; exact ho
  have hX5 : OwnV N m5 79 X' (rs ++ [y]) := a2.keep fun id o ho hi => hk5 id o ho fun e => hX'sid (e ▸ hi)
  have hysid : ¬ isId y sid := fun h => by have := oid _ h; omega
  have hyX : Apart y X := fun id hi hx => by
    have := oid _ hi
    obtain ⟨_, o, ho⟩ := g6.lives hx
    have := hw.lt ho
    omega
  have hyX' : Apart y X' := fun id hi hx => by
    rcases a6 id hx with h3 | h3
    · exact hyX id hi h3
    · have := oid _ hi; omega
  have hy5 : OwnRow N m5 .u64 78 y ws := ((o2.less (M := N) (by omega)).old fun id o ho hi => hk5 id o (a5.1 id o (hk3 id o ho) (hyX id hi)) fun e => hysid (e ▸ hi))
  have hkeep : Keep (fun j => N ≤ j) μ m5 := by
    have hw5 : WF m5 := by rw [hm5]; exact a3.set (a3.lt hso4)
    have hn5 : m5.next = m2.next := by rw [hm5, set_next, a4, hm3, set_next]
    refine ⟨hw5, by omega, fun id o ho hns => ?_, fun id hi hno => ?_⟩
    · refine hk5 id o (a5.1 id o (hs3.old id o ho fun h => h) fun hx => hns ((g6.lives hx).1)) fun e => hns (e ▸ g1)
    · have h3 : m3.obj id = none := hs3.low id hi hno
      have h4 : m4.obj id = none := a5.2 id (by omega) h3
      have : id ≠ sid := fun e => by rw [e, hso4] at h4; cases h4
      rw [hm5, set_obj, if_neg this]; exact h4
  refine ⟨X', y, m5, ⟨g1, ⟨{ so with cells := [.int .i64 n, X'] }, by rw [hm5]; simp, g3, g4, rfl⟩, hX5, hX'sid, by simp; exact g8, fun j r ws' hj hws => ?_, fun i j r r' hij hi hj => ?_⟩, hkeep, ?_⟩
  · rw [List.getElem?_append] at hj hws
    by_cases hjl : j < rs.length
    · rw [if_pos hjl] at hj
      rw [if_pos (by omega)] at hws
      obtain ⟨⟨e, q1⟩, q2, q3, q4⟩ := g9 j r ws' hj hws
      refine ⟨⟨e, q1.old fun id o ho hi => hk5 id o (a5.1 id o (hs3.old id o ho fun h => h) (q4 id hi)) fun e => q3 (e ▸ hi)⟩, q2, q3, fun id hi hx => ?_⟩
      rcases a6 id hx with h3 | h3
      · exact q4 id hi h3
      · obtain ⟨_, o, ho⟩ := own_lives q1 hi
        have := hw.lt ho
        omega
    · rw [if_neg hjl] at hj
      rw [if_neg (by omega)] at hws
      have hj0 : j - rs.length = 0 := by have := (List.getElem?_eq_some_iff.mp hj).1; simp at this; omega
      have hw0 : j - wss.length = 0 := by omega
      rw [hj0] at hj
      rw [hw0] at hws
      cases hj
      cases hws
      exact ⟨⟨78, hy5⟩, hok, hysid, hyX'⟩
  · have hyr : ∀ (j : Nat) r, rs[j]? = some r → Apart y r := fun j r hj id hi hx => by
      have hjl := (List.getElem?_eq_some_iff.mp hj).1
      obtain ⟨⟨e, q1⟩, _⟩ := g9 j r _ hj (List.getElem?_eq_getElem (by omega))
      obtain ⟨_, o, ho⟩ := own_lives q1 hx
      have := hw.lt ho
      have := oid _ hi
      omega
    have hlast : ∀ (j : Nat) r, ¬ j < rs.length → (rs ++ [y])[j]? = some r → j = rs.length ∧ r = y := fun j r hjl hj => by
      rw [List.getElem?_append, if_neg hjl] at hj
      have hj0 : j - rs.length = 0 := by have := (List.getElem?_eq_some_iff.mp hj).1; simp at this; omega
      rw [hj0] at hj
      cases hj
      exact ⟨by omega, rfl⟩
    by_cases hi1 : i < rs.length
    · have hi2 := hi
      rw [List.getElem?_append, if_pos hi1] at hi2
      by_cases hj1 : j < rs.length
      · rw [List.getElem?_append, if_pos hj1] at hj
        exact g10 i j r r' hij hi2 hj
      · obtain ⟨_, rfl⟩ := hlast j r' hj1 hj
        exact (hyr i r hi2).symm
    · obtain ⟨hi3, rfl⟩ := hlast i r hi1 hi
      by_cases hj1 : j < rs.length
      · rw [List.getElem?_append, if_pos hj1] at hj
        exact hyr j r' hj
      · obtain ⟨hj3, _⟩ := hlast j r' hj1 hj
        omega
  · have c1 : (μ.bump 12).cell sid 0 (0 + 1) = some X := by
      simp only [AMem.cell, bump_obj, g2, Option.bind_some, g4, if_true, g5]; rfl
    have c2 : m2.cell sid 0 (0 + 1) = some X := by
      simp only [AMem.cell, hso2, Option.bind_some, g4, if_true, g5]; rfl
    have ei : IntKind.wrap .i64 ((i : Int) + 1) = ((i + 1 : Nat) : Int) := by rw [wr (by omega)]; rfl
    rw [bitmap_Map_Clone_L1_B_eq]
    simp -implicitDefEqProofs only [lt_t (show (i : Int) < (len : Int) by omega), hind, hld, c1, o1, c2, hfree 7 (by omega) (by omega), chk_true, chk_rfl, Option.bind_some, decide_true, decide_false, cond_true, cond_false, seqJ_n, seqJ_r, seqJ_e, headK_c, asB_bool, asI_int, asS_s, asN_int, extrK_0, extrK_1, extrK_2, Bool.not_true, Bool.not_false, Nat.beq_refl]
    rw [← hm3]
    simp -implicitDefEqProofs only [a1, hst, ei, Option.bind_some, decide_true, decide_false, cond_true, cond_false, seqJ_n, seqJ_r, seqJ_e, headK_c, asB_bool, asI_int, asS_s, asN_int, extrK_0, extrK_1, extrK_2, Bool.not_true, Bool.not_false, Nat.beq_refl]
theorem clone_loop {N0 : Nat} {μ0 : AMem} (h0 : WF μ0) {x L : SV} {n sid : Nat} {rs0 : List SV} {wss : List (List Int)} (hm : Mp N0 μ0 x n rs0 wss) (hL : ∀ p, x = .ptr p 0 0 → μ0.cell p 0 (0 + 1) = some L) (hl100 : wss.length ≤ 10) (hws : ∀ (k : Nat) ws, wss[k]? = some ws → ws.length ≤ 10000) :
    ∀ (k i : Nat) (m : AMem) (X : SV) (rs : List SV), i + k = wss.length → Same μ0 m → Mq μ0.next m sid n X rs (wss.take i) →
      ∃ X' rs' m', bitmap_Map_Clone_L1 [.s (.ptr sid 0 0), .s L, .s (.int .i64 (wss.length : Int))] [.s (.int .i64 (i : Int))] m = some (.exit 0, [.s (.ptr sid 0 0)], m') ∧ Same μ0 m' ∧ Mq μ0.next m' sid n X' rs' wss
  | 0, i, m, X, rs, hi, hs, h => by
    obtain rfl : i = wss.length := by omega
    refine ⟨X, rs, m, ?_, hs, by rw [List.take_of_length_le (Nat.le_refl _)] at h; exact h⟩
    rw [bitmap_Map_Clone_L1_eq, bitmap_Map_Clone_L1_B_eq]
    simp -implicitDefEqProofs only [lt_f (Int.le_refl (wss.length : Int)), Option.bind_some, decide_true, decide_false, cond_true, cond_false, seqJ_n, seqJ_r, seqJ_e, headK_c, asB_bool, asI_int, asS_s, asN_int, extrK_0, extrK_1, extrK_2, Bool.not_true, Bool.not_false, Nat.beq_refl]
  | k + 1, i, m, X, rs, hi, hs, h => by
    have hil : i < wss.length := by omega
    have hwi := List.getElem?_eq_getElem hil
    have hm1 : Mp N0 m x n rs0 wss := hm.keep (S := fun _ => False) hs
    obtain ⟨p, r, L', q, hx, hr, hc0, hc1, hLl, hind, hld, ⟨e, ho⟩, hok⟩ := hm1.level hwi
    obtain ⟨p2, r2, L2, q2, hx2, hr2, hd0, hd1, _⟩ := hm.level hwi
    rw [hx] at hx2
    cases hx2
    have hLL : L' = L := by
      have h1 := hL p hx
      obtain ⟨sid2, so, lid, lo, ver, hxx, hN, hso, hsv, hsc, _⟩ := hm
      rw [hx] at hxx
      cases hxx
      have hso' := hs.old _ _ hso fun h => h
      simp only [AMem.cell, hso, Option.bind_some, hsv, if_true, hsc] at h1
      simp only [AMem.cell, hso', Option.bind_some, hsv, if_true, hsc] at hc1
      rw [h1] at hc1
      exact (Option.some.inj hc1).symm
    subst hLL
    have hrl : rs.length = i := by
      have := h.2.2.2.2.1
      rw [List.length_take] at this
      omega
    obtain ⟨X1, y, m1, q1, k1, b1⟩ := clone_body hs.wf hs.next h ho.row hok (hws i _ hwi) (by omega) hil (by omega) hind hld
    have ht : wss.take i ++ [wss[i]] = wss.take (i + 1) := by rw [List.take_add_one, hwi]; rfl
    rw [ht] at q1
    obtain ⟨X2, rs2, m2, r1, r2, r3⟩ := clone_loop h0 hm hL hl100 hws k (i + 1) m1 X1 _ (by omega) (keepSame h0 hs k1 fun j hj => hj) q1
    refine ⟨X2, rs2, m2, ?_, r2, r3⟩
    rw [bitmap_Map_Clone_L1_eq, b1]
    simp -implicitDefEqProofs only [Option.bind_some, decide_true, decide_false, cond_true, cond_false, seqJ_n, seqJ_r, seqJ_e, headK_c, asB_bool, asI_int, asS_s, asN_int, extrK_0, extrK_1, extrK_2, Bool.not_true, Bool.not_false, Nat.beq_refl]
    exact r1
theorem mapClone_is {N : Nat} {μ : AMem} (hw : WF μ) {x : SV} {n : Nat} {rs : List SV} {ws : List Int} (h : Mw N μ x n rs ws) (hn : n ≤ 5000) :
    ∃ q rs' μ', bitmap_Map_Clone [.s x] μ = some (.s (.ptr q 0 0), μ') ∧ Same μ μ' ∧ Mw μ.next μ' (.ptr q 0 0) n rs' ws := by
  obtain ⟨wss, hm, hlens, h0⟩ := h.ex
  obtain ⟨hl1, hl100, hl2, hl3⟩ := hlens
  obtain ⟨p, r, L, q, hx, hr, hc0, hc1, hLl, _⟩ := hm.level h0
  have hw0 := hl2 ws h0
  have k1 : Same μ ((μ.bump 7).set (μ.next + 5) (rowObj [.int .i64 (n : Int), .nilSlice] 2 77 (some 1))) := Same.bumpSet hw (by omega) _
  have hq0 : Mq μ.next ((μ.bump 7).set (μ.next + 5) (rowObj [.int .i64 (n : Int), .nilSlice] 2 77 (some 1))) (μ.next + 5) n .nilSlice [] (wss.take 0) := ⟨by omega, ⟨rowObj [.int .i64 n, .nilSlice] 2 77 (some 1), by simp, rfl, rfl, rfl⟩, .inl ⟨rfl, rfl⟩, fun h => h, rfl, fun k r ws hk => by simp at hk, fun i j r r' _ hi => by simp at hi⟩
  obtain ⟨X, rs', m', e1, k2, hq⟩ := clone_loop (sid := μ.next + 5) hw hm (fun p' hp' => by rw [hx] at hp'; cases hp'; exact hc1) (by omega) (fun k us hk => by
    match k, hk with
    | 0, hk => rw [h0] at hk; cases hk; omega
    | 1, hk => have := (hl3 0 ws us h0 hk).1; omega
    | k + 2, hk => have := (List.getElem?_eq_some_iff.mp hk).1; omega) wss.length 0 _ .nilSlice [] (Nat.zero_add _) k1 hq0
  rw [n0] at e1
  have hne : rs' ≠ [] := fun h => by
    have := hq.2.2.2.2.1
    rw [h] at this
    simp at this
    omega
  have hp : p < μ.next := by
    obtain ⟨sid2, so, lid, lo, ver, hxx, hN, hso, _⟩ := hm
    rw [hx] at hxx
    cases hxx
    exact hw.lt hso
  have hc1' : ((μ.bump 7).set (μ.next + 5) (rowObj [.int .i64 (n : Int), .nilSlice] 2 77 (some 1))).cell p 0 (0 + 1) = some L := by
    simp only [AMem.cell] at hc1 ⊢
    rw [set_obj, if_neg (by omega)]
    exact hc1
  subst hx
  refine ⟨μ.next + 5, rs', m', ?_, k2, ⟨wss, hq.mp hne, ⟨hl1, hl100, hl2, hl3⟩, h0⟩⟩
  rw [bitmap_Map_Clone_eq]
  simp -implicitDefEqProofs only [bump_cell, hc0, hc1', hLl, e1, Option.bind_some, decide_true, decide_false, cond_true, cond_false, seqJ_n, seqJ_r, seqJ_e, headK_c, asB_bool, asI_int, asS_s, asN_int, extrK_0, extrK_1, extrK_2, Bool.not_true, Bool.not_false, Nat.beq_refl]
end Go.Proofs.Ytkikncdhmifkaaa
/- A space's clone. -/
namespace Go.Proofs.Ytkikncdhmifkaaa
open Go Go.Proofs.Ytkikncdhmifkaaa.E
set_option linter.unusedVariables false
set_option linter.unusedSimpArgs false
theorem Mz.old {F : Nat → Prop} {N : Nat} {m m' : AMem} {x : SV} {n : Nat} {V : Nat → Bool} (h : Mz F N m x n V) (hk : ∀ id o, m.obj id = some o → m'.obj id = some o) : Mz F N m' x n V := by
  obtain ⟨⟨rs, ws, ⟨wss, hm, hl, h0⟩, hf, hU⟩, hlv⟩ := h
  obtain ⟨sid, so, lid, lo, ver, hx, hN, hso, hsv, hsc, hN2, hlo, hlv2, hlc, hlen, hr, hap⟩ := hm
  refine ⟨⟨rs, ws, ⟨wss, ⟨sid, so, lid, lo, ver, hx, hN, hk _ _ hso, hsv, hsc, hN2, hk _ _ hlo, hlv2, hlc, hlen, fun k r us hr1 hw1 => ?_, hap⟩, hl, h0⟩, ⟨hf.1, fun j hj => ⟨(hf.2 j hj).1, fun so' id v l h1 h2 => ?_⟩⟩, hU⟩, fun j hj => ?_⟩
  · obtain ⟨⟨e, h1⟩, h2⟩ := hr k r us hr1 hw1
    exact ⟨⟨e, h1.old fun id o ho _ => hk id o ho⟩, h2⟩
  · have : sid = j := by rw [hx] at hj; cases hj; rfl
    subst this
    rw [hk _ _ hso] at h1
    exact (hf.2 sid hj).2 so' id v l (by rw [hso]; exact h1) h2
  · obtain ⟨h1, o, ho⟩ := hlv j hj
    exact ⟨h1, o, hk _ _ ho⟩
theorem Tz.old {G : Nat → Prop} {N : Nat} {m m' : AMem} {x : SV} {cs : List Int} (h : Tz G N m x cs) (hk : ∀ id o, m.obj id = some o → m'.obj id = some o) : Tz G N m' x cs := by
  obtain ⟨⟨s, ht, h1, h2⟩, hlv⟩ := h
  obtain ⟨id, o, hx, hN, ho, hv, hc, hr, hi⟩ := ht
  refine ⟨⟨s, ⟨id, o, hx, hN, hk _ _ ho, hv, hc, hr.old fun id o ho _ => hk id o ho, hi⟩, h1, h2⟩, fun j hj => ?_⟩
  obtain ⟨h1, o, ho⟩ := hlv j hj
  exact ⟨h1, o, hk _ _ ho⟩
theorem tabClone_is {m : AMem} (hw : WF m) {N : Nat} {x s : SV} {cs : List Int} (ht : Tab N m x s cs) (hl : cs.length ≤ 5000) :
    ∃ q y m', refs_Table_Clone [.s x] m = some (.s (.ptr q 0 0), m') ∧ Same m m' ∧ Tab m.next m' (.ptr q 0 0) y cs := by
  obtain ⟨p, o, rfl, hN, ho, hv, hc, hr, hi⟩ := ht
  have hcell : (m.bump 8).cell p 0 (0 + 0) = some s := by
    rw [bump_cell]
    simp only [AMem.cell, ho, Option.bind_some, hv, if_true]; exact hc
  obtain ⟨y, m1, g1, g2, g3, hnx, g4⟩ := copyI (e := 3) (B := 8) (b := 4) (n := 8) hw (Keep.refl hw) hr.row (by omega) (by omega) (by omega)
  have hy6 : ¬ isId y (m.next + 6) := fun h => by have := g4 _ h; omega
  have ks : Same m (m1.set (m.next + 6) (rowObj [y] 1 74 (some 1))) := Keep.setS hw g2 (by omega) (by omega)
  refine ⟨m.next + 6, y, m1.set (m.next + 6) (rowObj [y] 1 74 (some 1)), ?_, ks, ⟨m.next + 6, _, rfl, by omega, set_self _ _ _, rfl, rfl, g3.old fun id o ho hid => ?_, hy6⟩⟩
  · rw [refs_Table_Clone_eq]
    simp -implicitDefEqProofs only [hcell, g1, Option.bind_some, decide_true, decide_false, cond_true, cond_false, seqJ_n, seqJ_r, seqJ_e, headK_c, asB_bool, asI_int, asS_s, asN_int, extrK_0, extrK_1, extrK_2, Bool.not_true, Bool.not_false, Nat.beq_refl]
  · rw [set_obj, if_neg (fun (h : id = m.next + 6) => hy6 (by rw [← h]; exact hid))]; exact ho
theorem spClone_is {H : Nat → Prop} {N : Nat} {μ : AMem} {x : SV} {fixed n : Nat} {V : Nat → Bool} {cs W : List Int} (hw : WF μ) (h : Sp H N μ x fixed n V cs W) (hn : n ≤ 5000) (hl : W.length ≤ 100000) :
    ∃ q H' μ', space_Space_Clone [.s x] μ = some (.s (.ptr q 0 0), μ') ∧ Same μ μ' ∧ Sp H' μ.next μ' (.ptr q 0 0) fixed n V cs W ∧ ∀ j, H' j → μ.next ≤ j := by
  obtain ⟨sid, so, u, t, w, F, G, rfl, q, hH, hb⟩ := h
  have kb := bumpS (Keep.refl hw) 19
  have q0 := q.same kb
  obtain ⟨⟨rs, ws, hmw, hf, hU⟩, hlv⟩ := q0.map
  obtain ⟨p1, rs1, m1, e1, k1, hm1⟩ := mapClone_is kb.wf hmw hn
  have hn1 := k1.next
  rw [bump_next] at hn1
  have q1 := q0.same k1
  obtain ⟨⟨s, ht, _, _⟩, _⟩ := q1.tab
  obtain ⟨p2, y2, m2, e2, k2, ht2⟩ := tabClone_is k1.wf ht (by have := q.len; omega)
  have hn2 := k2.next
  have q2 := q1.same k2
  have hSp2 : Sp H N m2 (.ptr sid 0 0) fixed n V cs W := ⟨sid, so, u, t, w, F, G, rfl, q2, hH, fun j hj => ⟨(hb j hj).1, by have := (hb j hj).2; omega⟩⟩
  obtain ⟨y3, m3, e3, k3, o3⟩ := spWaiting_is k2.wf hSp2 hl
  have hn3 := k3.next
  have q3 := q2.same k3
  have k13 := k1.trans (k2.trans k3)
  have hfree : m3.obj (μ.next + 17) = none := k13.low _ (by simp) (freshB hw 19 17)
  have hk4 : ∀ id o, m3.obj id = some o → (m3.set (μ.next + 17) (rowObj [.int .i64 fixed, .ptr p1 0 0, .ptr p2 0 0, y3] 4 54 (some 1))).obj id = some o := fun id o ho => by
    have : id ≠ μ.next + 17 := fun e => by rw [e, hfree] at ho; cases ho
    rw [set_obj, if_neg this]; exact ho
  have km : Same μ (m3.set (μ.next + 17) (rowObj [.int .i64 fixed, .ptr p1 0 0, .ptr p2 0 0, y3] 4 54 (some 1))) := Keep.setS hw (kb.trans k13) (by omega) (by omega)
  obtain ⟨wss, hmp, _, _⟩ := hm1.ex
  obtain ⟨sid1, so1, lid1, lo1, ver1, L1, hx1, hN1, hso1, hc1, hN2, hlo1, hof1⟩ := hmp.off
  cases hx1
  have hMz : Mz (fun j => (μ.bump 19).next ≤ j ∧ ∃ o, m1.obj j = some o) (μ.bump 19).next m1 (.ptr p1 0 0) n V := ⟨⟨rs1, ws, hm1, ⟨fun j hj => hmp.ids hj, fun j hj => by
    cases hj
    refine ⟨⟨hN1, so1, hso1⟩, fun so' id v l h3 h4 => ?_⟩
    rw [hso1] at h3
    cases h3
    rw [hc1] at h4
    cases h4
    exact ⟨hN2, lo1, hlo1⟩⟩, hU⟩, fun j hj => hj⟩
  have hTz : Tz (fun j => m1.next ≤ j ∧ ∃ o, m2.obj j = some o) m1.next m2 (.ptr p2 0 0) cs := by
    refine ⟨⟨y2, ht2, fun j hj => own_lives ht2.row hj, fun j hj => ?_⟩, fun j hj => hj⟩
    obtain ⟨id, o, hx, h1, h2, _⟩ := ht2
    rw [hx] at hj
    cases hj
    exact ⟨h1, o, h2⟩
  have hMz4 : Mz (fun j => (μ.bump 19).next ≤ j ∧ ∃ o, m1.obj j = some o) μ.next (m3.set (μ.next + 17) (rowObj [.int .i64 fixed, .ptr p1 0 0, .ptr p2 0 0, y3] 4 54 (some 1))) (.ptr p1 0 0) n V := (hMz.old fun id o ho => hk4 _ _ ((k2.trans k3).old _ _ ho fun h => h)).less (by simp)
  have hTz4 : Tz (fun j => m1.next ≤ j ∧ ∃ o, m2.obj j = some o) μ.next (m3.set (μ.next + 17) (rowObj [.int .i64 fixed, .ptr p1 0 0, .ptr p2 0 0, y3] 4 54 (some 1))) (.ptr p2 0 0) cs := (hTz.old fun id o ho => hk4 _ _ (k3.old _ _ ho fun h => h)).less (by omega)
  have hw3 : ∀ j, isId y3 j → m2.next ≤ j ∧ j < m3.next := fun j hj => by
    obtain ⟨a, o, ho⟩ := own_lives o3 hj
    exact ⟨a, k3.wf.lt ho⟩
  refine ⟨μ.next + 17, fun j => μ.next ≤ j ∧ j < m3.next, _, ?_, km, ⟨μ.next + 17, rowObj [.int .i64 fixed, .ptr p1 0 0, .ptr p2 0 0, y3] 4 54 (some 1), .ptr p1 0 0, .ptr p2 0 0, y3, _, _, rfl, ⟨by omega, set_self _ _ _, rfl, rfl, rfl, hMz4, hTz4, (o3.less (M := μ.next) (by omega)).old fun id o ho _ => hk4 _ _ ho, fun j hj => ?_, fun j hj => ?_, fun h => ?_, q.len⟩, ⟨⟨by omega, by omega⟩, fun j hj => ?_, fun j hj => ?_, fun j hj => ?_⟩, fun j hj => by simpa using hj⟩, fun j hj => hj.1⟩
  · have c2 := q1.c2
    have c0 := q1.c0
    rw [space_Space_Clone_eq]
    simp -implicitDefEqProofs only [q0.c0, q0.c1, q0.c2, e1, q1.c2, q1.c0, chk_rfl, e2, q2.c0, e3, q3.c0, hfree, chk_true, Option.bind_some, Option.bind_some, decide_true, decide_false, cond_true, cond_false, seqJ_n, seqJ_r, seqJ_e, headK_c, asB_bool, asI_int, asS_s, asN_int, extrK_0, extrK_1, extrK_2, Bool.not_true, Bool.not_false, Nat.beq_refl]
  · obtain ⟨h1, o, ho⟩ := hj
    have := k1.wf.lt ho
    rw [bump_next] at h1
    refine ⟨fun h => by omega, fun h => by have := (hw3 j h).1; omega, by omega⟩
  · obtain ⟨h1, o, ho⟩ := hj
    have := k2.wf.lt ho
    refine ⟨fun h => by have := (hw3 j h).1; omega, by omega⟩
  · have := (hw3 _ h).1
    omega
  · obtain ⟨h1, o, ho⟩ := hj
    have := k1.wf.lt ho
    rw [bump_next] at h1
    exact ⟨by omega, by omega⟩
  · obtain ⟨h1, o, ho⟩ := hj
    have := k2.wf.lt ho
    exact ⟨by omega, by omega⟩
  · have := hw3 j hj
    exact ⟨by omega, by omega⟩
end Go.Proofs.Ytkikncdhmifkaaa
/- Two spaces alike: the program's and the document's. -/
namespace Go.Proofs.Ytkikncdhmifkaaa
open Go Go.Proofs.Ytkikncdhmifkaaa.E
set_option linter.unusedVariables false
set_option linter.unusedSimpArgs false
structure Al (H : Nat → Prop) (N : Nat) (μ : AMem) (x : SV) (sid : Nat) (so : AObj) (s w : SV) (n fixed : Nat) (V : Nat → Bool) (cs W : List Int) (bs : List Bool) : Prop where
  sp : Sp H N μ x fixed n V cs W
  d : Dq N μ sid so s w n fixed cs bs
  one : 1 ≤ n ∧ n ≤ 4096
  fx : fixed ≤ n
  v : ∀ j, j < n → V j = usedD fixed cs bs j
  wt : W = waitF bs n 0
  i1 : ∀ j, bs.getD j false = true → cs.getD j 0 = 0 ∧ fixed ≤ j
  i2 : ∀ j, cs.getD j 0 ≠ 0 → fixed ≤ j
  off : ∀ j, H j → ¬ Dh sid s w j
/-- Both spaces, with all that they hold. -/
def Both (T : Nat → Prop) (N : Nat) (μ : AMem) (x : SV) (sid n fixed : Nat) (cs : List Int) (bs : List Bool) : Prop :=
  ∃ H so s w V W, Al H N μ x sid so s w n fixed V cs W bs ∧ ∀ j, T j ↔ H j ∨ Dh sid s w j
theorem waitF_len (bs : List Bool) : ∀ k a : Nat, (waitF bs k a).length ≤ k
  | 0, a => Nat.le_refl _
  | k + 1, a => by
    have := waitF_len bs k (a + 1)
    rw [waitF]
    split
    · simp; omega
    · omega
/-- A share keeps both alike. -/
theorem both_share {T : Nat → Prop} {N : Nat} {μ : AMem} {x : SV} {sid n fixed : Nat} {cs : List Int} {bs : List Bool} (hw : WF μ) (h : Both T N μ x sid n fixed cs bs) {k : Nat} (hf : fits cs (k + 1)) (hk : k + 1 ≤ 1000000) (i : Int) :
    ∃ b μ1 μ2 cs', space_Space_Share [.s x, .s (.int .i64 i)] μ = some (.s (.bool b), μ1) ∧ overdubref10_Space_Share [.s (.ptr sid 0 0), .s (.int .i64 i)] μ1 = some (.s (.bool b), μ2) ∧ Keep T μ μ1 ∧ Keep T μ μ2 ∧ Both T N μ2 x sid n fixed cs' bs ∧ fits cs' k := by
  obtain ⟨H, so, s, w, V, W, a, hT⟩ := h
  have hlc := a.d.lc
  obtain ⟨p1, p2⟩ := spShare_is hw a.sp (fits_less hf (by omega)) i
  by_cases h0 : ofI cs i = 0
  · obtain ⟨m1, e1, k1, s1⟩ := p1 h0
    have d1 := a.d.keep k1 fun j hj => by
      have := a.off j hj
      unfold Dh at this
      exact ⟨fun h => this (.inl h), fun h => this (.inr (.inl h)), fun h => this (.inr (.inr h))⟩
    have e2 := (dShare_is k1.wf d1 (fits_less hf (by omega)) i).1 h0
    exact ⟨false, m1, m1, cs, e1, e2, k1.weak0 fun j hj => (hT j).mpr (.inl hj), k1.weak0 fun j hj => (hT j).mpr (.inl hj), ⟨H, so, s, w, V, W, ⟨s1, d1, a.one, a.fx, a.v, a.wt, a.i1, a.i2, a.off⟩, hT⟩, fits_less hf (by omega)⟩
  · obtain ⟨m1, e1, k1, s1⟩ := p2 h0
    have d1 := a.d.keep k1 fun j hj => by
      have := a.off j hj
      unfold Dh at this
      exact ⟨fun h => this (.inl h), fun h => this (.inr (.inl h)), fun h => this (.inr (.inr h))⟩
    obtain ⟨m2, e2, k2, d2⟩ := (dShare_is k1.wf d1 (fits_less hf (by omega)) i).2 h0
    have hm := ofI_may h0
    have hin := mayI_t hm
    obtain ⟨j0, rfl⟩ : ∃ j : Nat, i = j := ⟨i.toNat, by omega⟩
    have hof : ofI cs (j0 : Int) = cs.getD j0 0 := by unfold ofI; rw [hm]; rfl
    have hg := getD_fit hf hk j0
    have hgi : ∀ j, (incZ cs (j0 : Int)).getD j 0 = if j = j0 then cs.getD j0 0 + 1 else cs.getD j 0 := fun j => by
      unfold incZ
      rw [nat_toNat]
      by_cases hj : j = j0
      · subst hj; rw [if_pos rfl, getD_set_self (by omega)]
      · rw [if_neg hj, getD_set_ne (fun e => hj e.symm)]
    have s2 := s1.off k2 fun j hj hh => a.off j hh hj
    refine ⟨true, m1, m2, _, e1, e2, k1.weak0 fun j hj => (hT j).mpr (.inl hj), (k1.weak0 fun j hj => (hT j).mpr (.inl hj)).trans (k2.weak0 fun j hj => (hT j).mpr (.inr hj)), ⟨H, so, s, w, V, W, ⟨s2, d2, a.one, a.fx, fun j hj => ?_, a.wt, fun j hj => ?_, fun j hj => ?_, a.off⟩, hT⟩, incZ_fit hf hk _⟩
    · rw [a.v j hj]
      unfold usedD
      rw [hgi j]
      by_cases hjj : j = j0
      · subst hjj
        rw [if_pos rfl, decide_eq_true (p := cs.getD j 0 > 0) (by omega), decide_eq_true (p := cs.getD j 0 + 1 > 0) (by omega)]
      · rw [if_neg hjj]
    · obtain ⟨h1, h2⟩ := a.i1 j hj
      rw [hgi j]
      by_cases hjj : j = j0
      · subst hjj; omega
      · rw [if_neg hjj]; exact ⟨h1, h2⟩
    · rw [hgi j] at hj
      by_cases hjj : j = j0
      · subst hjj; exact a.i2 j (by omega)
      · rw [if_neg hjj] at hj; exact a.i2 j hj
end Go.Proofs.Ytkikncdhmifkaaa
/- Two spaces alike: a take, a drop. -/
namespace Go.Proofs.Ytkikncdhmifkaaa
open Go Go.Proofs.Ytkikncdhmifkaaa.E
set_option linter.unusedVariables false
set_option linter.unusedSimpArgs false
/-- A take keeps both alike. -/
theorem both_take {T : Nat → Prop} {N : Nat} {μ : AMem} {x : SV} {sid n fixed : Nat} {cs : List Int} {bs : List Bool} (hw : WF μ) (h : Both T N μ x sid n fixed cs bs) {k : Nat} (hf : fits cs (k + 1)) (hk : k + 1 ≤ 1000000) :
    ∃ g e μ1 μ2 cs', space_Space_Take [.s x] μ = some (.tuple [.s (.int .i64 g), .s (.int .i64 e)], μ1) ∧ overdubref10_Space_Take [.s (.ptr sid 0 0)] μ1 = some (.tuple [.s (.int .i64 g), .s (.int .i64 e)], μ2) ∧ (e = 0 ∨ e = 3) ∧ Keep T μ μ2 ∧ Both T N μ2 x sid n fixed cs' bs ∧ fits cs' k := by
  obtain ⟨H, so, s, w, V, W, a, hT⟩ := h
  have hlc := a.d.lc
  have hn := a.one
  obtain ⟨p1, p2⟩ := spTake_is hw a.sp (by omega) (fits_less hf (by omega))
  rcases dTake_is hw a.d (by omega) with ⟨e1, hu⟩ | ⟨g, m, hg, hfr, hu, e2, k2, d2⟩
  · have e0 := p1 fun j hj => by rw [a.v j hj]; exact hu j hj
    exact ⟨0, 3, μ, μ, cs, e0, e1, .inr rfl, (Keep.refl hw), ⟨H, so, s, w, V, W, a, hT⟩, fits_less hf (by omega)⟩
  · obtain ⟨m1, e1, k1, s1⟩ := p2 g hg (by rw [a.v g hg]; exact hfr) fun j hj => by rw [a.v j (by omega)]; exact hu j hj
    have d1 := a.d.keep k1 fun j hj => by
      have := a.off j hj
      unfold Dh at this
      exact ⟨fun h => this (.inl h), fun h => this (.inr (.inl h)), fun h => this (.inr (.inr h))⟩
    have hgv := getD_fit hf hk g
    have hfr' := hfr
    unfold usedD at hfr'
    simp only [Bool.or_eq_false_iff, decide_eq_false_iff_not] at hfr'
    obtain ⟨⟨f1, f2⟩, f3⟩ := hfr'
    have hz : cs.getD g 0 = 0 := by omega
    have hinc : incZ cs (g : Int) = cs.set g 1 := by unfold incZ; rw [nat_toNat, hz]; rfl
    rcases dTake_is k1.wf d1 (by omega) with ⟨e3, hu3⟩ | ⟨g2, m2, hg2, hfr2, hu2, e4, k4, d4⟩
    · have := hu3 g hg
      rw [hfr] at this; cases this
    · have hgg : g2 = g := by
        rcases Nat.lt_trichotomy g2 g with h | h | h
        · have := hu g2 h; rw [hfr2] at this; cases this
        · exact h
        · have := hu2 g h; rw [hfr] at this; cases this
      subst hgg
      have s2 := s1.off k4 fun j hj hh => a.off j hh hj
      have hgi : ∀ j, (incZ cs (g2 : Int)).getD j 0 = if j = g2 then 1 else cs.getD j 0 := fun j => by
        rw [hinc]
        by_cases hj : j = g2
        · subst hj; rw [if_pos rfl, getD_set_self (by omega)]
        · rw [if_neg hj, getD_set_ne (fun e => hj e.symm)]
      rw [← hinc] at d4
      refine ⟨g2, 0, m1, m2, _, e1, e4, .inl rfl, (k1.weak0 fun j hj => (hT j).mpr (.inl hj)).trans (k4.weak0 fun j hj => (hT j).mpr (.inr hj)), ⟨H, so, s, w, _, W, ⟨s2, d4, a.one, a.fx, fun j hj => ?_, a.wt, fun j hj => ?_, fun j hj => ?_, a.off⟩, hT⟩, incZ_fit hf hk _⟩
      · unfold usedD setV
        rw [hgi j]
        by_cases hjj : j = g2
        · subst hjj
          rw [if_pos rfl, if_pos rfl]
          simp
        · rw [if_neg hjj, if_neg hjj, a.v j hj]; rfl
      · obtain ⟨h1, h2⟩ := a.i1 j hj
        rw [hgi j]
        by_cases hjj : j = g2
        · subst hjj; rw [f3] at hj; cases hj
        · rw [if_neg hjj]; exact ⟨h1, h2⟩
      · rw [hgi j] at hj
        by_cases hjj : j = g2
        · subst hjj; omega
        · rw [if_neg hjj] at hj; exact a.i2 j hj
end Go.Proofs.Ytkikncdhmifkaaa
/- Two spaces alike: a drop. -/
namespace Go.Proofs.Ytkikncdhmifkaaa
open Go Go.Proofs.Ytkikncdhmifkaaa.E
set_option linter.unusedVariables false
set_option linter.unusedSimpArgs false
theorem dh_live {N sid n fixed : Nat} {μ : AMem} {so : AObj} {s w : SV} {cs : List Int} {bs : List Bool} (hw : WF μ) (d : Dq N μ sid so s w n fixed cs bs) {j : Nat} (h : Dh sid s w j) : j < μ.next := by
  rcases h with rfl | h | h
  · exact hw.lt d.obj
  · obtain ⟨_, o, ho⟩ := own_lives d.row h
    exact hw.lt ho
  · obtain ⟨_, o, ho⟩ := d.brow.lives h
    exact hw.lt ho
theorem decZ_fit {cs : List Int} {k : Nat} (hf : fits cs k) (hk : k ≤ 1000000) {j : Nat} (h1 : 1 ≤ cs.getD j 0) : fits (decZ cs (j : Int)) k := by
  intro v hv
  unfold decZ at hv
  rw [nat_toNat] at hv
  have hg := getD_fit hf hk j
  rcases List.mem_or_eq_of_mem_set hv with h | h
  · exact hf v h
  · subst h; omega
/-- A drop keeps both alike. -/
theorem both_drop {T : Nat → Prop} {N : Nat} {μ : AMem} {x : SV} {sid n fixed : Nat} {cs : List Int} {bs : List Bool} (hw : WF μ) (hN : N ≤ μ.next) (h : Both T N μ x sid n fixed cs bs) {k : Nat} (hf : fits cs k) (hk : k ≤ 1000000) (i : Int) :
    ∃ b μ1 μ2 T' cs' bs', space_Space_Drop [.s x, .s (.int .i64 i)] μ = some (.s (.bool b), μ1) ∧ overdubref10_Space_Drop [.s (.ptr sid 0 0), .s (.int .i64 i)] μ1 = some (.s (.bool b), μ2) ∧ Keep T μ μ1 ∧ Keep T μ μ2 ∧ (∀ j, T' j → T j ∨ μ.next ≤ j) ∧ Both T' N μ2 x sid n fixed cs' bs' ∧ fits cs' k := by
  obtain ⟨H, so, s, w, V, W, a, hT⟩ := h
  have hlc := a.d.lc
  have hlb := a.d.lb
  have hn := a.one
  have hwl := waitF_len bs n 0
  obtain ⟨p1, p2⟩ := spDrop_is hw hN a.sp (fits_less hf (by omega)) (by rw [a.wt]; omega) i
  have hoff : ∀ j, H j → j ≠ sid ∧ ¬ isId s j ∧ ¬ isId w j := fun j hj => by
    have := a.off j hj
    unfold Dh at this
    exact ⟨fun h => this (.inl h), fun h => this (.inr (.inl h)), fun h => this (.inr (.inr h))⟩
  by_cases h0 : ofI cs i = 0
  · have e1 := p1 h0
    have e2 := (dDrop_is hw a.d (fits_less hf (by omega)) i).1 h0
    exact ⟨false, μ, μ, T, cs, bs, e1, e2, (Keep.refl hw), (Keep.refl hw), fun j hj => .inl hj, ⟨H, so, s, w, V, W, a, hT⟩, hf⟩
  · obtain ⟨m1, H', e1, k1, hH, s1⟩ := p2 h0
    have d1 := a.d.keep k1 hoff
    obtain ⟨m2, e2, k2, d2⟩ := (dDrop_is k1.wf d1 (fits_less hf (by omega)) i).2 h0
    have hm := ofI_may h0
    have hin := mayI_t hm
    obtain ⟨j0, rfl⟩ : ∃ j : Nat, i = j := ⟨i.toNat, by omega⟩
    have hof : ofI cs (j0 : Int) = cs.getD j0 0 := by unfold ofI; rw [hm]; rfl
    have hg := getD_fit hf hk j0
    rw [nat_toNat] at d2
    have hb0 : bs.getD j0 false = false := by
      cases hb : bs.getD j0 false
      · rfl
      · have := (a.i1 j0 hb).1; omega
    have hfx : fixed ≤ j0 := a.i2 j0 (by omega)
    have hgi : ∀ j, (decZ cs (j0 : Int)).getD j 0 = if j = j0 then cs.getD j0 0 - 1 else cs.getD j 0 := fun j => by
      unfold decZ
      rw [nat_toNat]
      by_cases hj : j = j0
      · subst hj; rw [if_pos rfl, getD_set_self (by omega)]
      · rw [if_neg hj, getD_set_ne (fun e => hj e.symm)]
    have hbi := fun b j => getB_set (bs := bs) (i := j0) (by omega) b j
    have hoff' : ∀ j, H' j → ¬ Dh sid s w j := fun j hj hd => by
      rcases hH j hj with h | h
      · exact a.off j h hd
      · have := dh_live hw a.d hd; omega
    have s2 := s1.off k2 fun j hj hh => hoff' j hh hj
    refine ⟨true, m1, m2, fun j => H' j ∨ Dh sid s w j, _, _, e1, e2, k1.weak0 fun j hj => (hT j).mpr (.inl hj), (k1.weak0 fun j hj => (hT j).mpr (.inl hj)).trans (k2.weak0 fun j hj => (hT j).mpr (.inr hj)), fun j hj => ?_, ⟨H', so, s, w, V, _, ⟨s2, d2, a.one, a.fx, fun j hj => ?_, ?_, fun j hj => ?_, fun j hj => ?_, hoff'⟩, fun j => Iff.rfl⟩, decZ_fit hf hk (by omega)⟩
    · rcases hj with hj | hj
      · rcases hH j hj with h | h
        · exact .inl ((hT j).mpr (.inl h))
        · exact .inr h
      · exact .inl ((hT j).mpr (.inr hj))
    · rw [a.v j hj]
      unfold usedD
      rw [hgi j, hbi _ j]
      by_cases hjj : j = j0
      · subst hjj
        rw [if_pos rfl, if_pos rfl, hb0, decide_eq_true (p := cs.getD j 0 > 0) (by omega)]
        by_cases h1 : cs.getD j 0 = 1
        · rw [h1]; simp
        · rw [decide_eq_true (p := cs.getD j 0 - 1 > 0) (by omega)]; simp
      · rw [if_neg hjj, if_neg hjj]
    · rw [hof, a.wt]
      by_cases h1 : cs.getD j0 0 = 1
      · rw [if_pos h1, h1]
        exact (waitF_ins hlb (by omega) hb0).symm
      · rw [if_neg h1, eq_f (show cs.getD j0 0 - 1 ≠ 0 by omega)]
        refine waitF_congr _ _ fun j _ _ => ?_
        rw [hbi]
        by_cases hjj : j = j0
        · subst hjj; rw [if_pos rfl, hb0]
        · rw [if_neg hjj]
    · rw [hbi] at hj
      rw [hgi j]
      by_cases hjj : j = j0
      · subst hjj
        rw [if_pos rfl] at hj ⊢
        have : cs.getD j 0 - 1 = 0 := by simpa using hj
        exact ⟨this, hfx⟩
      · rw [if_neg hjj] at hj ⊢
        exact a.i1 j hj
    · rw [hgi j] at hj
      by_cases hjj : j = j0
      · subst hjj; exact hfx
      · rw [if_neg hjj] at hj; exact a.i2 j hj
end Go.Proofs.Ytkikncdhmifkaaa
/- Two spaces alike: a commit. -/
namespace Go.Proofs.Ytkikncdhmifkaaa
open Go Go.Proofs.Ytkikncdhmifkaaa.E
set_option linter.unusedVariables false
set_option linter.unusedSimpArgs false
theorem repF (n j : Nat) : (List.replicate n false).getD j false = false := by
  rw [List.getD_eq_getElem?_getD, List.getElem?_replicate]
  split <;> rfl
/-- A commit keeps both alike. -/
theorem both_commit {T : Nat → Prop} {N : Nat} {μ : AMem} {x : SV} {sid n fixed : Nat} {cs : List Int} {bs : List Bool} (hw : WF μ) (hN : N ≤ μ.next) (h : Both T N μ x sid n fixed cs bs) :
    ∃ v μ1 μ2 T', space_Space_Commit [.s x] μ = some (.s (.int .i64 v), μ1) ∧ overdubref10_Space_Commit [.s (.ptr sid 0 0)] μ1 = some (.s (.int .i64 v), μ2) ∧ Keep T μ μ2 ∧ (∀ j, T' j → T j ∨ μ.next ≤ j) ∧ Both T' N μ2 x sid n fixed cs (List.replicate n false) := by
  obtain ⟨H, so, s, w, V, W, a, hT⟩ := h
  have hlc := a.d.lc
  have hlb := a.d.lb
  have hn := a.one
  have hwl := waitF_len bs n 0
  have hmem := fun v => waitF_mem bs n 0 v
  have hoff : ∀ j, H j → j ≠ sid ∧ ¬ isId s j ∧ ¬ isId w j := fun j hj => by
    have := a.off j hj
    unfold Dh at this
    exact ⟨fun h => this (.inl h), fun h => this (.inr (.inl h)), fun h => this (.inr (.inr h))⟩
  obtain ⟨m1, e1, k1, s1⟩ := spCommit_is hw a.sp (by omega) (by rw [a.wt]; omega) fun v hv => by
    rw [a.wt] at hv
    obtain ⟨j, h1, _, h3, _⟩ := (hmem v).mp hv
    omega
  have d1 := a.d.keep k1 hoff
  obtain ⟨m2, so', w', e2, k2, d2, hw'⟩ := dCommit_is k1.wf (Nat.le_trans hN k1.next) d1 (by omega)
  rw [a.wt] at e1
  have hoff' : ∀ j, H j → ¬ Dh sid s w' j := fun j hj hd => by
    rcases hd with hd | hd | hd
    · exact (hoff j hj).1 hd
    · exact (hoff j hj).2.1 hd
    · have h1 := hw' j hd
      have h2 := (a.sp.bound j hj).2
      have := k1.next
      omega
  have s2 := s1.off k2 fun j hj hh => (hoff j hh).1 hj
  have k1n := k1.next
  refine ⟨_, m1, m2, fun j => H j ∨ Dh sid s w' j, e1, e2, (k1.weak0 fun j hj => (hT j).mpr (.inl hj)).trans (k2.weak0 fun j hj => (hT j).mpr (.inr (.inl hj))), fun j hj => ?_, ⟨H, so', s, w', _, _, ⟨s2, d2, a.one, a.fx, fun j hj => ?_, (waitF_none n 0 n).symm, fun j hj => ?_, a.i2, hoff'⟩, fun j => Iff.rfl⟩⟩
  · rcases hj with hj | hj | hj | hj
    · exact .inl ((hT j).mpr (.inl hj))
    · exact .inl ((hT j).mpr (.inr (.inl hj)))
    · exact .inl ((hT j).mpr (.inr (.inr (.inl hj))))
    · have := hw' j hj
      exact .inr (by omega)
  · rw [putV_is false W V j fun v hv => by
      rw [a.wt] at hv
      obtain ⟨j, h1, _, _, _⟩ := (hmem v).mp hv
      omega]
    unfold usedD
    rw [repF]
    by_cases hb : bs.getD j false = true
    · obtain ⟨h1, h2⟩ := a.i1 j hb
      rw [if_pos (by rw [a.wt]; exact (hmem _).mpr ⟨j, rfl, Nat.zero_le _, by omega, hb⟩), h1, decide_eq_false (p := j < fixed) (by omega)]
      rfl
    · have hb : bs.getD j false = false := by simpa using hb
      rw [if_neg (fun hv => by
        rw [a.wt] at hv
        obtain ⟨j', h1, _, _, h4⟩ := (hmem _).mp hv
        obtain rfl : j = j' := by omega
        rw [hb] at h4; cases h4), a.v j hj]
      unfold usedD
      rw [hb]
  · rw [repF] at hj; cases hj
end Go.Proofs.Ytkikncdhmifkaaa
/- Two spaces alike: a keep. -/
namespace Go.Proofs.Ytkikncdhmifkaaa
open Go Go.Proofs.Ytkikncdhmifkaaa.E
set_option linter.unusedVariables false
set_option linter.unusedSimpArgs false
theorem addZ_pos (j : Nat) : ∀ (l c : List Int), (∀ v ∈ l, 0 ≤ v ∧ v < c.length) → (∀ i, 0 ≤ c.getD i 0) → 0 ≤ (addZ c l).getD j 0 ∧ ((addZ c l).getD j 0 > 0 ↔ c.getD j 0 > 0 ∨ (j : Int) ∈ l)
  | [], c, _, h0 => ⟨h0 j, by show c.getD j 0 > 0 ↔ _; simp⟩
  | v :: l, c, hl, h0 => by
    have hv := hl v (List.mem_cons_self ..)
    obtain ⟨g, rfl⟩ : ∃ g : Nat, v = g := ⟨v.toNat, by omega⟩
    have hgi : ∀ i, (incZ c (g : Int)).getD i 0 = if i = g then c.getD g 0 + 1 else c.getD i 0 := fun i => by
      unfold incZ
      rw [nat_toNat]
      by_cases hj : i = g
      · subst hj; rw [if_pos rfl, getD_set_self (by omega)]
      · rw [if_neg hj, getD_set_ne (fun e => hj e.symm)]
    obtain ⟨a1, a2⟩ := addZ_pos j l (incZ c (g : Int)) (fun v hv => by rw [incZ_len]; exact hl v (List.mem_cons_of_mem _ hv)) fun i => by
      rw [hgi i]
      have h1 := h0 i
      have h2 := h0 g
      split <;> omega
    refine ⟨a1, ?_⟩
    show (addZ (incZ c (g : Int)) l).getD j 0 > 0 ↔ _
    rw [a2, hgi j, List.mem_cons]
    have h2 := h0 g
    by_cases hj : j = g
    · subst hj
      rw [if_pos rfl]
      exact ⟨fun _ => .inr (.inl rfl), fun _ => .inl (by omega)⟩
    · rw [if_neg hj]
      have : ¬ ((j : Int) = g) := by omega
      simp only [this, false_or]
/-- A keep keeps both alike. -/
theorem both_keep {T : Nat → Prop} {N : Nat} {μ : AMem} {x : SV} {sid n fixed : Nat} {cs : List Int} {bs : List Bool} (hw : WF μ) (hN : N ≤ μ.next) (h : Both T N μ x sid n fixed cs bs) {k : Nat} {y : SV} {ls : List Int} (hf : fits cs k) (hk : ls.length + k ≤ 1000000) (hy : IsRow μ .i64 y ls) (hyT : ∀ j, isId y j → ¬ T j) (hl : ls.length ≤ 10000) :
    ∃ b μ1 μ2 T' cs' bs', space_Space_Keep [.s x, .s y] μ = some (.s (.bool b), μ1) ∧ overdubref10_Space_Keep [.s (.ptr sid 0 0), .s y] μ1 = some (.s (.bool b), μ2) ∧ Keep T μ μ2 ∧ (∀ j, T' j → T j ∨ μ.next ≤ j) ∧ Both T' N μ2 x sid n fixed cs' bs' ∧ fits cs' k := by
  obtain ⟨H, so, s, w, V, W, a, hT⟩ := h
  have hn := a.one
  have hoff : ∀ j, H j → j ≠ sid ∧ ¬ isId s j ∧ ¬ isId w j := fun j hj => by
    have := a.off j hj
    unfold Dh at this
    exact ⟨fun h => this (.inl h), fun h => this (.inr (.inl h)), fun h => this (.inr (.inr h))⟩
  have hysid : ¬ isId y sid := fun h => hyT sid h ((hT sid).mpr (.inr (.inl rfl)))
  obtain ⟨p1, p2⟩ := spKeep_is hw hN a.sp hn.1 hn.2 a.fx hy (fun j hj hh => hyT j hj ((hT j).mpr (.inl hh))) hl
  cases ha : ls.all (keepOk fixed n)
  · have e1 := p1 ha
    have e2 := (dKeep_is hw hN a.d (by omega) hy hl hysid).1 ha
    exact ⟨false, μ, μ, T, cs, bs, e1, e2, (Keep.refl hw), fun j hj => .inl hj, ⟨H, so, s, w, V, W, a, hT⟩, hf⟩
  · obtain ⟨m1, H', e1, k1, hH, s1⟩ := p2 ha
    have d1 := a.d.keep k1 hoff
    have hy1 := rowKeep hy k1 fun j hj hh => hyT j hh ((hT j).mpr (.inl hj))
    have k1n := k1.next
    obtain ⟨m2, so', s', w', e2, k2, d2, hw'⟩ := (dKeep_is k1.wf (Nat.le_trans hN k1n) d1 (by omega) hy1 hl hysid).2 ha
    have hsl := hw.lt a.d.obj
    have hall : ∀ v ∈ ls, (fixed : Int) ≤ v ∧ v < (n : Int) := fun v hv => by
      have := List.all_eq_true.mp ha v hv
      simpa only [keepOk, Bool.and_eq_true, decide_eq_true_eq] using this
    have hz : ∀ i, (List.replicate n (0 : Int)).getD i 0 = 0 := fun i => by
      rw [List.getD_eq_getElem?_getD, List.getElem?_replicate]
      split <;> rfl
    have hpos := fun j => addZ_pos j ls (List.replicate n 0) (fun v hv => by have := hall v hv; rw [List.length_replicate]; omega) fun i => by rw [hz i]; omega
    have hHs : ¬ H' sid := fun hj => by
      rcases hH sid hj with h | h
      · exact (hoff sid h).1 rfl
      · omega
    have hoff' : ∀ j, H' j → ¬ Dh sid s' w' j := fun j hj hd => by
      have hb := (s1.bound j hj).2
      rcases hd with hd | hd | hd
      · rw [hd] at hj; exact hHs hj
      · have := hw' j (.inl hd); omega
      · have := hw' j (.inr hd); omega
    have s2 := s1.off k2 fun j hj hh => hHs (hj ▸ hh)
    refine ⟨true, m1, m2, fun j => H' j ∨ Dh sid s' w' j, _, _, e1, e2, (k1.weak0 fun j hj => (hT j).mpr (.inl hj)).trans (k2.weak0 fun j hj => (hT j).mpr (.inr (.inl hj))), fun j hj => ?_, ⟨H', so', s', w', _, _, ⟨s2, d2, a.one, a.fx, fun j hj => ?_, (waitF_none n 0 n).symm, fun j hj => ?_, fun j hj => ?_, hoff'⟩, fun j => Iff.rfl⟩, fits_add ls _ (fits_zero n _ hk) hk⟩
    · rcases hj with hj | hj | hj | hj
      · rcases hH j hj with h | h
        · exact .inl ((hT j).mpr (.inl h))
        · exact .inr h
      · exact .inl ((hT j).mpr (.inr (.inl hj)))
      · have := hw' j (.inl hj)
        exact .inr (by omega)
      · have := hw' j (.inr hj)
        exact .inr (by omega)
    · obtain ⟨q1, q2⟩ := hpos j
      rw [putV_is true ls _ j fun v hv => by have := hall v hv; omega]
      unfold usedD
      rw [hz j] at q2
      rw [repF]
      by_cases hm : (j : Int) ∈ ls
      · rw [if_pos hm, decide_eq_true (q2.mpr (.inr hm))]; simp
      · rw [if_neg hm, decide_eq_false (p := (addZ (List.replicate n 0) ls).getD j 0 > 0) (fun h => by
          rcases q2.mp h with h | h
          · omega
          · exact hm h)]; simp
    · rw [repF] at hj; cases hj
    · obtain ⟨q1, q2⟩ := hpos j
      rw [hz j] at q2
      rcases q2.mp (by omega) with h | h
      · omega
      · have := hall _ h; omega
end Go.Proofs.Ytkikncdhmifkaaa
/- Two spaces alike: they look alike. -/
namespace Go.Proofs.Ytkikncdhmifkaaa
open Go Go.Proofs.Ytkikncdhmifkaaa.E
set_option linter.unusedVariables false
set_option linter.unusedSimpArgs false
theorem cntF_alike {V W : Nat → Bool} : ∀ n : Nat, (∀ j, j < n → V j = W j) → cntF V n = cntF W n
  | 0, _ => rfl
  | n + 1, h => by rw [cntF, cntF, h n (by omega), cntF_alike n fun j hj => h j (by omega)]
theorem usedI_cong {n : Nat} {V W : Nat → Bool} (h : ∀ j, j < n → V j = W j) (i : Int) : usedI n V i = usedI n W i := by
  unfold usedI
  by_cases h0 : 0 ≤ i
  · by_cases h1 : i < (n : Int)
    · rw [h i.toNat (by omega)]
    · rw [decide_eq_false h1]; simp
  · rw [decide_eq_false h0]; simp
section
variable {T : Nat → Prop} {N : Nat} {μ : AMem} {x : SV} {sid n fixed : Nat} {cs : List Int} {bs : List Bool}
theorem both_ptr (h : Both T N μ x sid n fixed cs bs) : ∃ s0, x = .ptr s0 0 0 := by
  obtain ⟨H, so, s, w, V, W, a, hT⟩ := h
  obtain ⟨s0, _, _, _, _, _, _, e, _⟩ := a.sp
  exact ⟨s0, e⟩
theorem both_size (h : Both T N μ x sid n fixed cs bs) : μ.cell sid 0 (0 + 0) = some (.int .i64 n) ∧ 1 ≤ n ∧ n ≤ 4096 := by
  obtain ⟨H, so, s, w, V, W, a, hT⟩ := h
  exact ⟨a.d.c0, a.one⟩
theorem both_used (h : Both T N μ x sid n fixed cs bs) (i : Int) : ∃ b, space_Space_Used [.s x, .s (.int .i64 i)] μ = some (.s (.bool b), μ) ∧ overdubref10_Space_Used [.s (.ptr sid 0 0), .s (.int .i64 i)] μ = some (.s (.bool b), μ) := by
  obtain ⟨H, so, s, w, V, W, a, hT⟩ := h
  refine ⟨_, spUsed_is a.sp i, ?_⟩
  rw [usedI_cong a.v i]
  exact dUsed_is a.d i
theorem both_of (h : Both T N μ x sid n fixed cs bs) (i : Int) : ∃ v, space_Space_Of [.s x, .s (.int .i64 i)] μ = some (.s (.int .i64 v), μ) ∧ overdubref10_Space_Of [.s (.ptr sid 0 0), .s (.int .i64 i)] μ = some (.s (.int .i64 v), μ) := by
  obtain ⟨H, so, s, w, V, W, a, hT⟩ := h
  exact ⟨_, spOf_is a.sp i, dOf_is a.d i⟩
theorem both_free (h : Both T N μ x sid n fixed cs bs) : ∃ v, space_Space_Free [.s x] μ = some (.s (.int .i64 v), μ) ∧ overdubref10_Space_Free [.s (.ptr sid 0 0)] μ = some (.s (.int .i64 v), μ) := by
  obtain ⟨H, so, s, w, V, W, a, hT⟩ := h
  have hn := a.one
  refine ⟨_, spFree_is a.sp (by omega), ?_⟩
  rw [cntF_alike n a.v]
  exact dFree_is a.d (by omega)
theorem both_same {μ' : AMem} (h : Both T N μ x sid n fixed cs bs) (hs : Same μ μ') : Both T N μ' x sid n fixed cs bs := by
  obtain ⟨H, so, s, w, V, W, a, hT⟩ := h
  exact ⟨H, so, s, w, V, W, ⟨a.sp.same hs, a.d.same hs, a.one, a.fx, a.v, a.wt, a.i1, a.i2, a.off⟩, hT⟩
theorem both_waiting (hw : WF μ) (h : Both T N μ x sid n fixed cs bs) : ∃ y z m1 m2 ws, space_Space_Waiting [.s x] μ = some (.s y, m1) ∧ overdubref10_Space_Waiting [.s (.ptr sid 0 0)] m1 = some (.s z, m2) ∧ Same μ m1 ∧ Same m1 m2 ∧ IsRow m2 .i64 y ws ∧ IsRow m2 .i64 z ws ∧ ws.length ≤ 4096 := by
  have hb := h
  obtain ⟨H, so, s, w, V, W, a, hT⟩ := h
  have hn := a.one
  have hwl := waitF_len bs n 0
  obtain ⟨y, m1, e1, k1, o1⟩ := spWaiting_is hw a.sp (by rw [a.wt]; omega)
  obtain ⟨z, m2, e2, k2, o2⟩ := dWaiting_is k1.wf (a.d.same k1) (by omega)
  rw [a.wt] at o1
  exact ⟨y, z, m1, m2, _, e1, e2, k1, k2, rowKeep o1.row k2 fun j hj => hj.elim, o2.row, by omega⟩
end
end Go.Proofs.Ytkikncdhmifkaaa
/- Spaces: the play's looks. -/
namespace Go.Proofs.Ytkikncdhmifkaaa
open Go Go.Proofs.Ytkikncdhmifkaaa.E
set_option linter.unusedVariables false
set_option linter.unusedSimpArgs false
theorem looks_loop {T : Nat → Prop} {N : Nat} {μ : AMem} {s0 : Nat} {sid n fixed : Nat} {cs : List Int} {bs : List Bool} (h : Both T N μ (.ptr s0 0 0) sid n fixed cs bs) (y : SV) (q : Int) :
    ∀ (k : Nat) (i : Int), i + k = n + 1 → -1 ≤ i → overdublaw13_play_L2 [.s (.ptr s0 0 0), .s (.ptr sid 0 0), .s y, .s (.int .i64 q)] [.s (.int .i64 i)] μ = some (.exit 3, [.s (.ptr s0 0 0), .s (.ptr sid 0 0), .s y, .s (.int .i64 q)], μ)
  | 0, i, hi, hl => by
    obtain ⟨c0, h1, h2⟩ := both_size h
    rw [overdublaw13_play_L2_eq, overdublaw13_play_L2_B_eq]
    simp -implicitDefEqProofs only [c0, decide_eq_false (p := i ≤ (n : Int)) (by omega), Option.bind_some, decide_true, decide_false, cond_true, cond_false, seqJ_n, seqJ_r, seqJ_e, headK_c, asB_bool, asI_int, asS_s, asN_int, extrK_0, extrK_1, extrK_2, Bool.not_true, Bool.not_false, Nat.beq_refl]
  | k + 1, i, hi, hl => by
    obtain ⟨c0, h1, h2⟩ := both_size h
    obtain ⟨b, u1, u2⟩ := both_used h i
    obtain ⟨v, o1, o2⟩ := both_of h i
    have ih := looks_loop h y q k (i + 1) (by omega) (by omega)
    have ei : IntKind.wrap .i64 (i + 1) = i + 1 := wr (by omega)
    have ev : (v != v) = false := by simp
    rw [overdublaw13_play_L2_eq, overdublaw13_play_L2_B_eq]
    simp -implicitDefEqProofs only [c0, decide_eq_true (p := i ≤ (n : Int)) (by omega), u1, u2, o1, o2, ei, ev, BEq.rfl, Option.bind_some, decide_true, decide_false, cond_true, cond_false, seqJ_n, seqJ_r, seqJ_e, headK_c, asB_bool, asI_int, asS_s, asN_int, extrK_0, extrK_1, extrK_2, Bool.not_true, Bool.not_false, Nat.beq_refl]
    exact ih
end Go.Proofs.Ytkikncdhmifkaaa
/- Rows of records of numbers. -/
namespace Go.Proofs.Ytkikncdhmifkaaa
open Go Go.Proofs.Ytkikncdhmifkaaa.E
set_option linter.unusedVariables false
set_option linter.unusedSimpArgs false
/-- x is a row of len records of m numbers, all of them zs. -/
def IsRecs (μ : AMem) (k : IntKind) (m : Nat) (x : SV) (zs : List Int) (len : Nat) : Prop :=
  zs.length = len * m ∧ ((x = .nilSlice ∧ len = 0) ∨ ∃ id ver off o, x = .slice id ver off len ∧ μ.obj id = some o ∧ o.ver = ver ∧ ∀ (i : Nat) n, zs[i]? = some n → o.cells[off + i]? = some (.int k n))
def plcR (m : Nat) (x : SV) (i : Int) : AV :=
  match x with
  | .slice id ver off _ => .s (.ptr id ver (off + i.toNat * m))
  | _ => .unk
def plcF (m : Nat) (x : SV) (i : Int) (f : Nat) : AV :=
  match x with
  | .slice id ver off _ => .s (.ptr id ver (off + i.toNat * m + f))
  | _ => .unk
theorem IsRecs.lenS {μ : AMem} {k : IntKind} {m : Nat} {x : SV} {zs : List Int} {len : Nat} (h : IsRecs μ k m x zs len) : lenS (.s x) = some len := by
  rcases h with ⟨_, ⟨rfl, rfl⟩ | ⟨id, ver, off, o, rfl, _⟩⟩ <;> rfl
theorem IsRecs.ind {μ : AMem} {k : IntKind} {m : Nat} {x : SV} {zs : List Int} {len : Nat} (h : IsRecs μ k m x zs len) {i : Int} (h0 : 0 ≤ i) (h1 : i < len) {R : Type} (K : AV → Option R) : indS m (.s x) i K = K (plcR m x i) := by
  rcases h with ⟨_, ⟨rfl, rfl⟩ | ⟨id, ver, off, o, rfl, _⟩⟩
  · omega
  · simp [indS, plcR, h0, h1]
theorem IsRecs.add {μ : AMem} {k : IntKind} {m : Nat} {x : SV} {zs : List Int} {len : Nat} (h : IsRecs μ k m x zs len) {i : Int} (h0 : 0 ≤ i) (h1 : i < len) (f : Nat) {R : Type} (K : AV → Option R) : ptrAdd f (plcR m x i) K = K (plcF m x i f) := by
  rcases h with ⟨_, ⟨rfl, rfl⟩ | ⟨id, ver, off, o, rfl, _⟩⟩
  · omega
  · rfl
theorem IsRecs.load {μ : AMem} {k : IntKind} {m : Nat} {x : SV} {zs : List Int} {len : Nat} (h : IsRecs μ k m x zs len) {i : Nat} (h1 : i < len) {f : Nat} (hf : f < m) {R : Type} (K : AV → Option R) : loadAt μ (plcF m x (i : Int) f) K = K (.s (.int k (zs.getD (i * m + f) 0))) := by
  obtain ⟨hl, ⟨rfl, rfl⟩ | ⟨id, ver, off, o, rfl, ho, hv, hc⟩⟩ := h
  · omega
  · have hlt : i * m + f < zs.length := by
      rw [hl]
      calc i * m + f < i * m + m := by omega
        _ = (i + 1) * m := by rw [Nat.add_mul]; simp
        _ ≤ len * m := Nat.mul_le_mul_right _ (by omega)
    have hg := hc (i * m + f) _ (List.getElem?_eq_getElem hlt)
    have e : off + ((i : Nat) : Int).toNat * m + f = off + (i * m + f) := by rw [nat_toNat, Nat.add_assoc]
    simp only [plcF, loadAt, AMem.cell, ho, Option.bind_some, hv, if_true, e, hg]
    rw [List.getD_eq_getElem?_getD, List.getElem?_eq_getElem hlt]; rfl
theorem IsRecs.same {μ μ' : AMem} {k : IntKind} {m : Nat} {x : SV} {zs : List Int} {len : Nat} (h : IsRecs μ k m x zs len) (hs : Same μ μ') : IsRecs μ' k m x zs len := by
  obtain ⟨hl, h0 | ⟨id, ver, off, o, rfl, ho, r⟩⟩ := h
  · exact ⟨hl, .inl h0⟩
  · exact ⟨hl, .inr ⟨id, ver, off, o, rfl, hs.old id o ho fun h => h, r⟩⟩
theorem IsRecs.wf {μ : AMem} {k : IntKind} {m : Nat} {x : SV} {zs : List Int} {len : Nat} (h : IsRecs μ k m x zs len) (hz : ∀ n ∈ zs, (Lit.int k n).wf = true) {i : Nat} (h1 : i < len) {f : Nat} (hf : f < m) : (Lit.int k (zs.getD (i * m + f) 0)).wf = true := by
  have hlt : i * m + f < zs.length := by
    rw [h.1]
    calc i * m + f < i * m + m := by omega
      _ = (i + 1) * m := by rw [Nat.add_mul]; simp
      _ ≤ len * m := Nat.mul_le_mul_right _ (by omega)
  rw [getD_lt hlt]
  exact hz _ (List.getElem_mem hlt)
theorem IsRecs.arg {k : IntKind} {m : Nat} {zs : List Int} {len : Nat} {l : List Arg} {j : Nat} {a : Arg} (h : Arg.isRecs k zs len a) (hq : zs.length = len * m) (hj : l[j]? = some a) : ∃ x, a.val j = .s x ∧ IsRecs (argMem l) k m x zs len := by
  cases a with
  | nil =>
    obtain ⟨rfl, rfl⟩ := h
    exact ⟨.nilSlice, rfl, hq, .inl ⟨rfl, rfl⟩⟩
  | rs k' zs' len' =>
    obtain ⟨rfl, rfl, rfl⟩ := h
    exact ⟨_, rfl, hq, .inr ⟨j, 0, 0, rowA (zs'.map (.int k')), rfl, by simp [argMem, hj, Arg.obj], rfl, fun i n hi => by rw [Nat.zero_add]; simp [rowA, hi]⟩⟩
  | _ => exact h.elim
end Go.Proofs.Ytkikncdhmifkaaa
/- A record that is copied into a box. -/
namespace Go.Proofs.Ytkikncdhmifkaaa
open Go Go.Proofs.Ytkikncdhmifkaaa.E
set_option linter.unusedVariables false
set_option linter.unusedSimpArgs false
theorem set_set (μ : AMem) (i : Nat) (o o' : AObj) : (μ.set i o).set i o' = μ.set i o' := by
  unfold AMem.set
  congr 1
  funext j
  dsimp only
  split <;> rfl
theorem box3 {R : Type} (M : AMem) (i T : Nat) (q : Option Nat) (z1 z2 z3 a b c : SV) (K : AMem → Option R) :
    storeAt 3 (M.set i (rowObj [z1, z2, z3] 3 T q)) (.s (.ptr i 0 0)) (.agg [a, b, c]) K = K (M.set i (rowObj [a, b, c] 3 T q)) := by
  simp only [storeAt, AV.cells, List.length_cons, List.length_nil, AMem.store, set_self, Option.bind_some, rowObj, if_true, true_and, Nat.zero_add]
  rw [if_pos (Nat.le_refl _), Option.bind_some, set_set]
  rfl
theorem box3_0 (M : AMem) (i T : Nat) (q : Option Nat) (a b c : SV) : (M.set i (rowObj [a, b, c] 3 T q)).cell i 0 (0 + 0) = some a := by
  simp [AMem.cell, rowObj]
theorem box3_1 (M : AMem) (i T : Nat) (q : Option Nat) (a b c : SV) : (M.set i (rowObj [a, b, c] 3 T q)).cell i 0 (0 + 1) = some b := by
  simp [AMem.cell, rowObj]
theorem box3_2 (M : AMem) (i T : Nat) (q : Option Nat) (a b c : SV) : (M.set i (rowObj [a, b, c] 3 T q)).cell i 0 (0 + 2) = some c := by
  simp [AMem.cell, rowObj]
theorem loadN3 {μ : AMem} {id ver off : Nat} {a b c : SV} (h0 : μ.cell id ver off = some a) (h1 : μ.cell id ver (off + 1) = some b) (h2 : μ.cell id ver (off + 2) = some c) : μ.loadN id ver off 3 = some [a, b, c] := by
  simp only [AMem.loadN, h0, h1, h2, Option.bind_some, Option.map_some]
/-- A record of three numbers. -/
theorem rec3 {μ : AMem} {k : IntKind} {x : SV} {zs : List Int} {len : Nat} (h : IsRecs μ k 3 x zs len) {i : Nat} (h1 : i < len) {R : Type} (K : AV → Option R) :
    loadsAt μ 3 (plcR 3 x (i : Int)) K = K (.agg [.int k (zs.getD (i * 3 + 0) 0), .int k (zs.getD (i * 3 + 1) 0), .int k (zs.getD (i * 3 + 2) 0)]) := by
  obtain ⟨hl, ⟨rfl, rfl⟩ | ⟨id, ver, off, o, rfl, ho, hv, hc⟩⟩ := h
  · omega
  · have hg : ∀ f, f < 3 → μ.cell id ver (off + i * 3 + f) = some (.int k (zs.getD (i * 3 + f) 0)) := fun f hf => by
      have hlt : i * 3 + f < zs.length := by omega
      have := hc _ _ (List.getElem?_eq_getElem hlt)
      simp only [AMem.cell, ho, Option.bind_some, hv, if_true, Nat.add_assoc, this, getD_lt hlt]
    have e0 := hg 0 (by omega)
    have e1 := hg 1 (by omega)
    have e2 := hg 2 (by omega)
    rw [Nat.add_zero] at e0
    simp only [loadsAt, plcR, nat_toNat, loadN3 e0 e1 e2, Option.bind_some]
end Go.Proofs.Ytkikncdhmifkaaa
/- Rows of acts: two numbers and a row each. -/
namespace Go.Proofs.Ytkikncdhmifkaaa
open Go Go.Proofs.Ytkikncdhmifkaaa.E
set_option linter.unusedVariables false
set_option linter.unusedSimpArgs false
/-- x is a row of len acts. -/
def IsActs (μ : AMem) (x : SV) (len : Nat) : Prop :=
  (x = .nilSlice ∧ len = 0) ∨ ∃ id o, x = .slice id 0 0 len ∧ μ.obj id = some o ∧ o.ver = 0 ∧ ∀ i, i < len → ∃ d n r zs, o.cells[i * 3 + 0]? = some (.int .i64 d) ∧ o.cells[i * 3 + 1]? = some (.int .i64 n) ∧ o.cells[i * 3 + 2]? = some r ∧
    (Lit.int .i64 d).wf = true ∧ (Lit.int .i64 n).wf = true ∧ IsRow μ .i64 r zs ∧ ∀ v ∈ zs, (Lit.int .i64 v).wf = true
theorem IsActs.lenS {μ : AMem} {x : SV} {len : Nat} (h : IsActs μ x len) : lenS (.s x) = some len := by
  rcases h with ⟨rfl, rfl⟩ | ⟨id, o, rfl, _⟩ <;> rfl
theorem IsActs.ind {μ : AMem} {x : SV} {len : Nat} (h : IsActs μ x len) {i : Int} (h0 : 0 ≤ i) (h1 : i < len) {R : Type} (K : AV → Option R) : indS 3 (.s x) i K = K (plcR 3 x i) := by
  rcases h with ⟨rfl, rfl⟩ | ⟨id, o, rfl, _⟩
  · omega
  · simp [indS, plcR, h0, h1]
theorem IsActs.act {μ : AMem} {x : SV} {len : Nat} (h : IsActs μ x len) {i : Nat} (h1 : i < len) :
    ∃ d n r zs, (∀ {R : Type} (μ' : AMem) (K : AV → Option R), Same μ μ' → loadsAt μ' 3 (plcR 3 x (i : Int)) K = K (.agg [.int .i64 d, .int .i64 n, r])) ∧ (Lit.int .i64 d).wf = true ∧ (Lit.int .i64 n).wf = true ∧ IsRow μ .i64 r zs ∧ ∀ v ∈ zs, (Lit.int .i64 v).wf = true := by
  rcases h with ⟨rfl, rfl⟩ | ⟨id, o, rfl, ho, hv, hc⟩
  · omega
  · obtain ⟨d, n, r, zs, c0, c1, c2, w1, w2, hr, hz⟩ := hc i h1
    refine ⟨d, n, r, zs, fun {R} μ' K hs => ?_, w1, w2, hr, hz⟩
    have ho' := hs.old id o ho fun h => h
    have e0 : μ'.cell id 0 (0 + i * 3) = some (.int .i64 d) := by
      rw [Nat.add_zero] at c0
      simp only [AMem.cell, ho', Option.bind_some, hv, if_true, Nat.zero_add, c0]
    have e1 : μ'.cell id 0 (0 + i * 3 + 1) = some (.int .i64 n) := by
      simp only [AMem.cell, ho', Option.bind_some, hv, if_true, Nat.zero_add, c1]
    have e2 : μ'.cell id 0 (0 + i * 3 + 2) = some r := by
      simp only [AMem.cell, ho', Option.bind_some, hv, if_true, Nat.zero_add, c2]
    simp only [loadsAt, plcR, nat_toNat, loadN3 e0 e1 e2, Option.bind_some]
theorem IsActs.same {μ μ' : AMem} {x : SV} {len : Nat} (h : IsActs μ x len) (hs : Same μ μ') : IsActs μ' x len := by
  rcases h with h0 | ⟨id, o, rfl, ho, hv, hc⟩
  · exact .inl h0
  · refine .inr ⟨id, o, rfl, hs.old id o ho fun h => h, hv, fun i hi => ?_⟩
    obtain ⟨d, n, r, zs, c0, c1, c2, w1, w2, hr, hz⟩ := hc i hi
    exact ⟨d, n, r, zs, c0, c1, c2, w1, w2, hr.same hs, hz⟩
/-- The row of a cell inside an argument. -/
theorem inner_row {al : List ArgN} {j q : Nat} {cs : List Cell} {len : Nat} (ha : al[j]? = some (.recs cs len)) {c : Cell} (hq : cs[q]? = some c) {k : IntKind} (hc : CellOK (.r k) c) :
    ∃ zs, IsRow (argMemN al) k (c.sv (al.length + before al j + q)) zs ∧ ∀ n ∈ zs, (Lit.int k n).wf = true := by
  rcases hc with rfl | ⟨zs, rfl, hz, _⟩
  · exact ⟨[], .inl ⟨rfl, rfl⟩, fun n hn => by cases hn⟩
  · refine ⟨zs, ?_, hz⟩
    have hi := inner_get al j (.recs cs len) q _ ha hq
    have ho : (argMemN al).obj (al.length + (before al j + q)) = some (rowA (zs.map (.int k))) := by
      rw [objN_inner, hi]; rfl
    rw [← Nat.add_assoc] at ho
    exact IsRow.made ho (by simp) rfl rfl
theorem IsActs.arg {al : List ArgN} {j : Nat} {a : ArgN} {cs : List Cell} {len : Nat} (h : ArgN.isRecs cs len a) (hq : CellsOK [.i .i64, .i .i64, .r .i64] cs len) (hj : al[j]? = some a) : ∃ x, a.val j = .s x ∧ IsActs (argMemN al) x len := by
  cases a with
  | cell c =>
    obtain ⟨rfl, rfl, rfl⟩ := h
    exact ⟨.nilSlice, rfl, .inl ⟨rfl, rfl⟩⟩
  | recs cs' len' =>
    obtain ⟨rfl, rfl⟩ := h
    refine ⟨_, rfl, .inr ⟨j, rowA (cellsAt (al.length + before al j) cs'), rfl, by rw [objN_arg hj]; rfl, rfl, fun i hi => ?_⟩⟩
    have each := hq.2 i
    obtain ⟨c0, h0, d, rfl, w0⟩ := each 0 hi (.i .i64) rfl
    obtain ⟨c1, h1, n, rfl, w1⟩ := each 1 hi (.i .i64) rfl
    obtain ⟨c2, h2, hr⟩ := each 2 hi (.r .i64) rfl
    obtain ⟨zs, hrow, hz⟩ := inner_row hj h2 hr
    have g : ∀ (q : Nat) (c : Cell), cs'[q]? = some c → (rowA (cellsAt (al.length + before al j) cs')).cells[q]? = some (c.sv (al.length + before al j + q)) := fun q c hc => by
      show (cellsAt _ _)[q]? = _
      rw [cellsAt_get, hc]; rfl
    exact ⟨d, n, _, zs, g _ _ h0, g _ _ h1, g _ _ h2, w0, w1, hrow, hz⟩
/-- A row's front, wherever it is read. -/
theorem cutC_is {μ : AMem} {x : SV} {zs : List Int} (h : IsRow μ .i64 x zs) (n : Nat) : ∃ y, (∀ μ', Same μ μ' → overdubkeep_Cut_int [.s x, .s (.int .i64 n)] μ' = some (.s y, μ')) ∧ IsRow μ .i64 y (zs.take n) := by
  have e : (if ((n : Nat) : Int) < ((zs.length : Nat) : Int) then ((n : Nat) : Int) else ((zs.length : Nat) : Int)) = ((min n zs.length : Nat) : Int) := by split <;> omega
  refine ⟨cutV x 0 ((min n zs.length : Nat) : Int), fun μ' hs => ?_, ?_⟩
  · have h' := h.same hs
    rw [overdubkeep_Cut_int_eq, h'.len]
    simp only [Option.bind_some]
    rw [e, h'.cut (by omega) (by omega) (by omega)]
  · have := h.cutRow (a := 0) (b := ((min n zs.length : Nat) : Int)) (by omega) (by omega) (by omega)
    have e2 : (zs.take (((min n zs.length : Nat) : Int)).toNat).drop (0 : Int).toNat = zs.take n := by
      simp only [Int.toNat_zero, List.drop_zero]
      rw [show (((min n zs.length : Nat) : Int)).toNat = min n zs.length by omega]
      rcases Nat.le_total n zs.length with hl | hl
      · rw [Nat.min_eq_left hl]
      · rw [Nat.min_eq_right hl, List.take_of_length_le (Nat.le_refl _), List.take_of_length_le hl]
    rw [e2] at this
    exact this
end Go.Proofs.Ytkikncdhmifkaaa
/- What Within comes to. -/
namespace Go.Proofs.Ytkikncdhmifkaaa
open Go Go.Proofs.Ytkikncdhmifkaaa.E
set_option linter.unusedVariables false
set_option linter.unusedSimpArgs false
theorem within_is (p n : Int) (hp : -9223372036854775808 ≤ p ∧ p ≤ 9223372036854775807) (hn : 1 ≤ n) (hn2 : n ≤ 4611686018427387904) (μ : AMem) :
    overdubkeep_Within [.s (.int .i64 p), .s (.int .i64 n)] μ = some (.s (.int .i64 (p % n)), μ) := by
  rw [overdubkeep_Within_eq]
  have h1 : ¬ n < 1 := by omega
  have h2 : ¬ n = 0 := by omega
  have hlt := Int.emod_lt_of_pos p (show 0 < n by omega)
  have hge := Int.emod_nonneg p h2
  have ht : Int.tmod p n = if 0 ≤ p ∨ p % n = 0 then p % n else p % n - n := by
    rw [Int.tmod_eq_emod]
    by_cases h : 0 ≤ p
    · simp [h]
    · by_cases h3 : p % n = 0
      · have : n ∣ p := Int.dvd_of_emod_eq_zero h3
        simp [h3, this]
      · have : ¬ n ∣ p := fun hd => h3 (Int.emod_eq_zero_of_dvd hd)
        simp [h, this, h3]; omega
  rw [ht]
  by_cases h : 0 ≤ p ∨ p % n = 0
  · have : ¬ p % n < 0 := by omega
    simp [h1, h2, h, this]
  · have h4 : p % n - n < 0 := by omega
    simp only [h, if_false, h4, h1, h2, decide_true, decide_false, cond_true, cond_false, seqJ_n, headK_c, asI_int]
    rw [wr (by omega)]
    congr 4; omega
end Go.Proofs.Ytkikncdhmifkaaa
/- What Same comes to. -/
namespace Go.Proofs.Ytkikncdhmifkaaa
open Go Go.Proofs.Ytkikncdhmifkaaa.E
set_option linter.unusedVariables false
set_option linter.unusedSimpArgs false
theorem same_loop {μ : AMem} {x y : SV} {zs ws : List Int} (hx : IsRow μ .i64 x zs) (hy : IsRow μ .i64 y ws) (hl : zs.length = ws.length) (hb : zs.length ≤ 4611686018427387904) :
    ∀ k i : Nat, i + k = zs.length → overdubkeep_Same_int_L1 [.s x, .s y] [.s (.int .i64 i)] μ = if zs.drop i = ws.drop i then some (.exit 0, [], μ) else some (.ret, [.s (.bool false)], μ)
  | 0, i, h => by
    have h1 : ¬ (i : Int) < (zs.length : Int) := by omega
    rw [overdubkeep_Same_int_L1_eq, overdubkeep_Same_int_L1_B_eq, hx.len]
    rw [List.drop_eq_nil_of_le (by omega), List.drop_eq_nil_of_le (by omega), if_pos rfl]
    simp only [h1, Option.bind_some, decide_true, decide_false, cond_true, cond_false, seqJ_n, seqJ_r, seqJ_e, headK_c, asB_bool, asI_int, asS_s, asN_int, Bool.not_true, Bool.not_false, Nat.beq_refl]
  | k + 1, i, h => by
    have ih := same_loop hx hy hl hb k (i + 1) (by omega)
    have h1 : (i : Int) < (zs.length : Int) := by omega
    have e1 : IntKind.wrap .i64 ((i : Int) + 1) = ((i + 1 : Nat) : Int) := by rw [wr (by omega)]; omega
    have e3 : (((i : Nat) : Int)).toNat = i := by omega
    have hi : i < zs.length := by omega
    have hi2 : i < ws.length := by omega
    rw [overdubkeep_Same_int_L1_eq, overdubkeep_Same_int_L1_B_eq, hx.len]
    simp only [h1, Option.bind_some, decide_true, decide_false, cond_true, cond_false, seqJ_n, seqJ_r, seqJ_e, headK_c, asB_bool, asI_int, asS_s, asN_int, Bool.not_true, Bool.not_false, Nat.beq_refl]
    rw [hx.ind (by omega) h1, hx.load (by omega) h1, asI_int, hy.ind (by omega) (by omega), hy.load (by omega) (by omega), asI_int, e3]
    rw [List.drop_eq_getElem_cons hi, List.drop_eq_getElem_cons hi2]
    have g1 : zs.getD i 0 = zs[i] := by rw [List.getD_eq_getElem?_getD, List.getElem?_eq_getElem hi]; rfl
    have g2 : ws.getD i 0 = ws[i] := by rw [List.getD_eq_getElem?_getD, List.getElem?_eq_getElem hi2]; rfl
    rw [g1, g2]
    by_cases he : zs[i] = ws[i]
    · have hb1 : (zs[i] != ws[i]) = false := by simp [he]
      have hb2 : (ws[i] != ws[i]) = false := by simp
      simp only [hb2, e1, he, List.cons.injEq, true_and, Option.bind_some, decide_true, decide_false, cond_true, cond_false, seqJ_n, seqJ_r, seqJ_e, headK_c, asB_bool, asI_int, asS_s, asN_int, Bool.not_true, Bool.not_false, Nat.beq_refl]
      exact ih
    · have hb1 : (zs[i] != ws[i]) = true := by simp [he]
      simp only [hb1, he, List.cons.injEq, false_and, if_false, Option.bind_some, decide_true, decide_false, cond_true, cond_false, seqJ_n, seqJ_r, seqJ_e, headK_c, asB_bool, asI_int, asS_s, asN_int, Bool.not_true, Bool.not_false, Nat.beq_refl]
theorem same_is {μ : AMem} {x y : SV} {zs ws : List Int} (hx : IsRow μ .i64 x zs) (hy : IsRow μ .i64 y ws) (hb : zs.length ≤ 4611686018427387904) :
    overdubkeep_Same_int [.s x, .s y] μ = some (.s (.bool (decide (zs = ws))), μ) := by
  rw [overdubkeep_Same_int_eq, hx.len, hy.len]
  by_cases hl : zs.length = ws.length
  · have h1 : ((zs.length : Int) != (ws.length : Int)) = false := by simp [hl]
    have := same_loop hx hy hl hb _ 0 (Nat.zero_add _)
    simp only [h1, Option.bind_some, decide_true, decide_false, cond_true, cond_false, seqJ_n, seqJ_r, seqJ_e, headK_c, asB_bool, asI_int, asS_s, asN_int, Bool.not_true, Bool.not_false, Nat.beq_refl]
    rw [show overdubkeep_Same_int_L1 [.s x, .s y] [.s (.int .i64 0)] μ = _ from this]
    simp only [List.drop_zero]
    by_cases he : zs = ws
    · simp only [he, if_true, Option.bind_some, decide_true, decide_false, cond_true, cond_false, seqJ_n, seqJ_r, seqJ_e, headK_c, asB_bool, asI_int, asS_s, asN_int, Bool.not_true, Bool.not_false, Nat.beq_refl]
    · simp only [he, if_false, Option.bind_some, decide_true, decide_false, cond_true, cond_false, seqJ_n, seqJ_r, seqJ_e, headK_c, asB_bool, asI_int, asS_s, asN_int, Bool.not_true, Bool.not_false, Nat.beq_refl]
  · have h1 : ((zs.length : Int) != (ws.length : Int)) = true := by simp; omega
    have he : ¬ zs = ws := fun h => hl (by rw [h])
    simp only [h1, he, Option.bind_some, decide_true, decide_false, cond_true, cond_false, seqJ_n, seqJ_r, seqJ_e, headK_c, asB_bool, asI_int, asS_s, asN_int, Bool.not_true, Bool.not_false, Nat.beq_refl]
end Go.Proofs.Ytkikncdhmifkaaa
/- Spaces: the play. -/
namespace Go.Proofs.Ytkikncdhmifkaaa
open Go Go.Proofs.Ytkikncdhmifkaaa.E
set_option linter.unusedVariables false
set_option linter.unusedSimpArgs false
theorem keepOn {S S1 : Nat → Prop} {μ μ1 μ2 : AMem} (hw : WF μ) (h : Keep S μ μ1) (hS : ∀ j, S1 j → S j ∨ μ.next ≤ j) (k : Keep S1 μ1 μ2) : Keep S μ μ2 :=
  ⟨k.wf, Nat.le_trans h.next k.next, fun id o ho hs => k.old id o (h.old id o ho hs) fun h1 => by
    rcases hS id h1 with h2 | h2
    · exact hs h2
    · have := hw.lt ho; omega, fun id hi hn => k.low id (Nat.lt_of_lt_of_le hi h.next) (h.low id hi hn)⟩
theorem both_low {T : Nat → Prop} {N : Nat} {μ : AMem} {x : SV} {sid n fixed : Nat} {cs : List Int} {bs : List Bool} (hw : WF μ) (h : Both T N μ x sid n fixed cs bs) {j : Nat} (hj : T j) : N ≤ j ∧ j < μ.next := by
  obtain ⟨H, so, s, w, V, W, a, hT⟩ := h
  rcases (hT j).mp hj with h | h
  · exact a.sp.bound j h
  · refine ⟨?_, dh_live hw a.d h⟩
    rcases h with rfl | h | h
    · exact a.d.low
    · exact (own_lives a.d.row h).1
    · exact (a.d.brow.lives h).1
theorem cellq {m : AMem} {i T : Nat} {q : Option Nat} {a b c : SV} (h : m.obj i = some (rowObj [a, b, c] 3 T q)) : m.cell i 0 (0 + 0) = some a ∧ m.cell i 0 (0 + 1) = some b ∧ m.cell i 0 (0 + 2) = some c := by
  simp [AMem.cell, h, rowObj]
theorem play_loop {M : AMem} (h0 : WF M) {acts : SV} {s0 sid len n fixed : Nat} (ha : IsActs M acts len) :
    ∀ (k i : Nat) (μ : AMem) (T : Nat → Prop) (cs : List Int) (bs : List Bool) (r : Nat), i + k = min 40 len → Same M μ → Both T M.next μ (.ptr s0 0 0) sid n fixed cs bs → fits cs (k + r) → r ≤ 900000 →
      ∃ μ' T' cs' bs', overdublaw13_play_L1 [.s (.ptr s0 0 0), .s (.ptr sid 0 0), .s acts] [.s (.int .i64 (i : Int))] μ = some (.exit 0, [], μ') ∧ Keep T μ μ' ∧ (∀ j, T' j → T j ∨ μ.next ≤ j) ∧ Both T' M.next μ' (.ptr s0 0 0) sid n fixed cs' bs' ∧ fits cs' r
  | 0, i, μ, T, cs, bs, r, h, hs, hb, hf, hr => by
    obtain rfl : i = min 40 len := by omega
    refine ⟨μ, T, cs, bs, ?_, Keep.refl hs.wf, fun j hj => .inl hj, hb, by simpa using hf⟩
    rw [overdublaw13_play_L1_eq, overdublaw13_play_L1_B_eq, (ha.same hs).lenS]
    by_cases h1 : ((min 40 len : Nat) : Int) < (len : Int)
    · simp -implicitDefEqProofs only [lt_t h1, lt_f (show (40 : Int) ≤ ((min 40 len : Nat) : Int) by omega), Option.bind_some, decide_true, decide_false, cond_true, cond_false, seqJ_n, seqJ_r, seqJ_e, headK_c, asB_bool, asI_int, asS_s, asN_int, extrK_0, extrK_1, extrK_2, Bool.not_true, Bool.not_false, Nat.beq_refl]
    · simp -implicitDefEqProofs only [lt_f (show (len : Int) ≤ ((min 40 len : Nat) : Int) by omega), Option.bind_some, decide_true, decide_false, cond_true, cond_false, seqJ_n, seqJ_r, seqJ_e, headK_c, asB_bool, asI_int, asS_s, asN_int, extrK_0, extrK_1, extrK_2, Bool.not_true, Bool.not_false, Nat.beq_refl]
  | k + 1, i, μ, T, cs, bs, r, h, hs, hb, hf, hr => by
    have hi : i < len := by omega
    obtain ⟨d, nn, rw', zs, hload, wd, wn, hrow, hz⟩ := ha.act hi
    have k2 : Same μ ((μ.bump 6).set (μ.next + 4) (rowObj [.int .i64 d, .int .i64 nn, rw'] 3 64 (some 1))) := Same.bumpSet hs.wf (by omega) _
    have hbox : ((μ.bump 6).set (μ.next + 4) (rowObj [.int .i64 d, .int .i64 nn, rw'] 3 64 (some 1))).obj (μ.next + 4) = some (rowObj [.int .i64 d, .int .i64 nn, rw'] 3 64 (some 1)) := set_self _ _ _
    have e1 := fun {R : Type} (K : AV → Option R) => hload (μ.bump 6) K (bumpS hs 6)
    have e2 := fun {R : Type} (K : AMem → Option R) => box3 (μ.bump 6) (μ.next + 4) 64 (some 1) (.int .i64 0) (.int .i64 0) .nilSlice (.int .i64 d) (.int .i64 nn) rw' K
    have g0 := fun {R : Type} (K : AV → Option R) => (ha.same hs).ind (i := (i : Int)) (by omega) (by omega) K
    generalize (μ.bump 6).set (μ.next + 4) (rowObj [.int .i64 d, .int .i64 nn, rw'] 3 64 (some 1)) = M2 at *
    obtain ⟨b0, b1, b2⟩ := cellq hbox
    have hs2 := hs.trans k2
    have hb2 := both_same hb k2
    have hnT : ¬ T (μ.next + 4) := fun hh => by have := (both_low hs.wf hb hh).2; omega
    have hNN := hs2.next
    have c1 := lt_t (show (i : Int) < (len : Int) by omega)
    have c2 := lt_t (show (i : Int) < 40 by omega)
    have ei : IntKind.wrap .i64 ((i : Int) + 1) = ((i + 1 : Nat) : Int) := by rw [wr (by omega)]; rfl
    have wi := within_is d 9 (wf64 wd) (by omega) (by omega) M2
    have hf1 : fits cs ((k + r) + 1) := fits_less hf (by omega)
    have k2n := k2.next
    -- what comes behind an act
    have rest : ∀ (m : AMem) (T1 : Nat → Prop) (cs1 : List Int) (bs1 : List Bool), Keep T M2 m → (∀ j, T1 j → T j ∨ M2.next ≤ j) → Both T1 M.next m (.ptr s0 0 0) sid n fixed cs1 bs1 → fits cs1 (k + r) →
        ∃ v y z m4 m5 μ' T' cs' bs', space_Space_Free [.s (.ptr s0 0 0)] m = some (.s (.int .i64 v), m) ∧ overdubref10_Space_Free [.s (.ptr sid 0 0)] m = some (.s (.int .i64 v), m) ∧
          space_Space_Waiting [.s (.ptr s0 0 0)] m = some (.s y, m4) ∧ overdubref10_Space_Waiting [.s (.ptr sid 0 0)] m4 = some (.s z, m5) ∧ overdubkeep_Same_int [.s y, .s z] m5 = some (.s (.bool true), m5) ∧
          overdublaw13_play_L2 [.s (.ptr s0 0 0), .s (.ptr sid 0 0), .s acts, .s (.int .i64 (i : Int))] [.s (.int .i64 (-1))] m5 = some (.exit 3, [.s (.ptr s0 0 0), .s (.ptr sid 0 0), .s acts, .s (.int .i64 (i : Int))], m5) ∧
          overdublaw13_play_L1 [.s (.ptr s0 0 0), .s (.ptr sid 0 0), .s acts] [.s (.int .i64 ((i + 1 : Nat) : Int))] m5 = some (.exit 0, [], μ') ∧ Keep T μ μ' ∧ (∀ j, T' j → T j ∨ μ.next ≤ j) ∧ Both T' M.next μ' (.ptr s0 0 0) sid n fixed cs' bs' ∧ fits cs' r := by
      intro m T1 cs1 bs1 hk hT1 hbm hfm
      obtain ⟨v, f1, f2⟩ := both_free hbm
      obtain ⟨y, z, m4, m5, ws, f3, f4, k4, k5, r1, r2, hwl⟩ := both_waiting hk.wf hbm
      have f5 := same_is r1 r2 (by omega)
      rw [decide_eq_true (p := ws = ws) rfl] at f5
      have hb5 := both_same (both_same hbm k4) k5
      have f6 := looks_loop hb5 acts (i : Int) (n + 2) (-1) (by omega) (by omega)
      have hk5 : Keep T μ m5 := (k2.weak0 fun _ h => h.elim).trans (hk.trans ((k4.weak0 fun _ h => h.elim).trans (k5.weak0 fun _ h => h.elim)))
      have hs5 : Same M m5 := keepSame h0 hs hk5 fun j hj => (both_low hs.wf hb hj).1
      obtain ⟨μ', T', cs', bs', q1, q2, q3, q4, q5⟩ := play_loop h0 ha k (i + 1) m5 T1 cs1 bs1 r (by omega) hs5 hb5 hfm hr
      have hT2 : ∀ j, T1 j → T j ∨ μ.next ≤ j := fun j hj => by
        rcases hT1 j hj with h | h
        · exact .inl h
        · exact .inr (by omega)
      have h5n := hk5.next
      exact ⟨v, y, z, m4, m5, μ', T', cs', bs', f1, f2, f3, f4, f5, f6, q1, keepOn hs.wf hk5 hT2 q2, fun j hj => by
        rcases q3 j hj with h | h
        · exact hT2 j h
        · exact .inr (by omega), q4, q5⟩
    by_cases c4 : d % 9 = 4
    · obtain ⟨b, m1, m2, T1, cs1, bs1, e3, e4, kk1, kk2, hT1, hb3, hf3⟩ := both_drop k2.wf hNN hb2 (k := k + r) (fits_less hf1 (by omega)) (by omega) nn
      obtain ⟨_, x1, _⟩ := cellq (kk1.old _ _ hbox hnT)
      obtain ⟨v, y, z, m4, m5, μ', T', cs', bs', f1, f2, f3, f4, f5, f6, q1, q2⟩ := rest m2 T1 cs1 bs1 kk2 hT1 hb3 hf3
      refine ⟨μ', T', cs', bs', ?_, q2⟩
      rw [overdublaw13_play_L1_eq, overdublaw13_play_L1_B_eq, (ha.same hs).lenS]
      simp -implicitDefEqProofs only [c1, c2, g0, e1, e2, b0, b1, b2, wi, eq_t c4, e3, x1, chk_true, e4, f1, f2, f3, f4, f5, f6, ne_f (rfl : v = v), BEq.rfl, ei, Option.bind_some, decide_true, decide_false, cond_true, cond_false, seqJ_n, seqJ_r, seqJ_e, headK_c, asB_bool, asI_int, asS_s, asN_int, extrK_0, extrK_1, extrK_2, Bool.not_true, Bool.not_false, Nat.beq_refl]
      exact q1
    by_cases c5 : d % 9 = 5
    · obtain ⟨b, m1, m2, T1, cs1, bs1, e3, e4, kk1, kk2, hT1, hb3, hf3⟩ := both_drop k2.wf hNN hb2 (k := k + r) (fits_less hf1 (by omega)) (by omega) nn
      obtain ⟨_, x1, _⟩ := cellq (kk1.old _ _ hbox hnT)
      obtain ⟨v, y, z, m4, m5, μ', T', cs', bs', f1, f2, f3, f4, f5, f6, q1, q2⟩ := rest m2 T1 cs1 bs1 kk2 hT1 hb3 hf3
      refine ⟨μ', T', cs', bs', ?_, q2⟩
      rw [overdublaw13_play_L1_eq, overdublaw13_play_L1_B_eq, (ha.same hs).lenS]
      simp -implicitDefEqProofs only [c1, c2, g0, e1, e2, b0, b1, b2, wi, eq_f c4, eq_t c5, e3, x1, chk_true, e4, f1, f2, f3, f4, f5, f6, ne_f (rfl : v = v), BEq.rfl, ei, Option.bind_some, decide_true, decide_false, cond_true, cond_false, seqJ_n, seqJ_r, seqJ_e, headK_c, asB_bool, asI_int, asS_s, asN_int, extrK_0, extrK_1, extrK_2, Bool.not_true, Bool.not_false, Nat.beq_refl]
      exact q1
    by_cases c6 : d % 9 = 6
    · obtain ⟨b, m1, m2, cs1, e3, e4, kk1, kk2, hb3, hf3⟩ := both_share k2.wf hb2 (k := k + r) hf1 (by omega) nn
      obtain ⟨_, x1, _⟩ := cellq (kk1.old _ _ hbox hnT)
      obtain ⟨v, y, z, m4, m5, μ', T', cs', bs', f1, f2, f3, f4, f5, f6, q1, q2⟩ := rest m2 T cs1 bs kk2 (fun j hj => .inl hj) hb3 hf3
      refine ⟨μ', T', cs', bs', ?_, q2⟩
      rw [overdublaw13_play_L1_eq, overdublaw13_play_L1_B_eq, (ha.same hs).lenS]
      simp -implicitDefEqProofs only [c1, c2, g0, e1, e2, b0, b1, b2, wi, eq_f c4, eq_f c5, eq_t c6, e3, x1, chk_true, e4, f1, f2, f3, f4, f5, f6, ne_f (rfl : v = v), BEq.rfl, ei, Option.bind_some, decide_true, decide_false, cond_true, cond_false, seqJ_n, seqJ_r, seqJ_e, headK_c, asB_bool, asI_int, asS_s, asN_int, extrK_0, extrK_1, extrK_2, Bool.not_true, Bool.not_false, Nat.beq_refl]
      exact q1
    by_cases c7 : d % 9 = 7
    · obtain ⟨b, m1, m2, T1, e3, e4, kk2, hT1, hb3⟩ := both_commit k2.wf hNN hb2
      obtain ⟨v, y, z, m4, m5, μ', T', cs', bs', f1, f2, f3, f4, f5, f6, q1, q2⟩ := rest m2 T1 cs _ kk2 hT1 hb3 (fits_less hf1 (by omega))
      refine ⟨μ', T', cs', bs', ?_, q2⟩
      rw [overdublaw13_play_L1_eq, overdublaw13_play_L1_B_eq, (ha.same hs).lenS]
      simp -implicitDefEqProofs only [c1, c2, g0, e1, e2, b0, b1, b2, wi, eq_f c4, eq_f c5, eq_f c6, eq_t c7, e3, e4, f1, f2, f3, f4, f5, f6, ne_f (rfl : v = v), BEq.rfl, ei, Option.bind_some, decide_true, decide_false, cond_true, cond_false, seqJ_n, seqJ_r, seqJ_e, headK_c, asB_bool, asI_int, asS_s, asN_int, extrK_0, extrK_1, extrK_2, Bool.not_true, Bool.not_false, Nat.beq_refl]
      exact q1
    by_cases c8 : d % 9 = 8
    · obtain ⟨l, hcut, hlr⟩ := cutC_is hrow 8
      have e5 := hcut M2 hs2
      rw [show ((8 : Nat) : Int) = 8 from rfl] at e5
      have hl8 : (zs.take 8).length ≤ 8 := by simp; omega
      have hl2 := hlr.same hs2
      have hlT : ∀ j, isId l j → ¬ T j := fun j hj hh => by
        have h1 := (both_low hs.wf hb hh).1
        have h2 : j < M.next := by
          rcases hlr with ⟨rfl, _⟩ | ⟨id, ver, off, o, rfl, ho, _⟩
          · exact hj.elim
          · have e : id = j := hj
            rw [← e]; exact h0.lt ho
        omega
      obtain ⟨b, m1, m2, T1, cs1, bs1, e3, e4, kk2, hT1, hb3, hf3⟩ := both_keep k2.wf hNN hb2 (k := k + r) (fits_less hf1 (by omega)) (by omega) hl2 hlT (by omega)
      obtain ⟨v, y, z, m4, m5, μ', T', cs', bs', f1, f2, f3, f4, f5, f6, q1, q2⟩ := rest m2 T1 cs1 bs1 kk2 hT1 hb3 hf3
      refine ⟨μ', T', cs', bs', ?_, q2⟩
      rw [overdublaw13_play_L1_eq, overdublaw13_play_L1_B_eq, (ha.same hs).lenS]
      simp -implicitDefEqProofs only [c1, c2, g0, e1, e2, b0, b1, b2, wi, eq_f c4, eq_f c5, eq_f c6, eq_f c7, eq_t c8, e5, e3, e4, f1, f2, f3, f4, f5, f6, ne_f (rfl : v = v), BEq.rfl, ei, Option.bind_some, decide_true, decide_false, cond_true, cond_false, seqJ_n, seqJ_r, seqJ_e, headK_c, asB_bool, asI_int, asS_s, asN_int, extrK_0, extrK_1, extrK_2, Bool.not_true, Bool.not_false, Nat.beq_refl]
      exact q1
    · obtain ⟨g, e, m1, m2, cs1, e3, e4, he, kk2, hb3, hf3⟩ := both_take k2.wf hb2 (k := k + r) hf1 (by omega)
      obtain ⟨v, y, z, m4, m5, μ', T', cs', bs', f1, f2, f3, f4, f5, f6, q1, q2⟩ := rest m2 T cs1 bs kk2 (fun j hj => .inl hj) hb3 hf3
      refine ⟨μ', T', cs', bs', ?_, q2⟩
      rw [overdublaw13_play_L1_eq, overdublaw13_play_L1_B_eq, (ha.same hs).lenS]
      simp -implicitDefEqProofs only [c1, c2, g0, e1, e2, b0, b1, b2, wi, eq_f c4, eq_f c5, eq_f c6, eq_f c7, eq_f c8, e3, e4, f1, f2, f3, f4, f5, f6, ne_f (rfl : v = v), BEq.rfl, ei, Option.bind_some, decide_true, decide_false, cond_true, cond_false, seqJ_n, seqJ_r, seqJ_e, headK_c, asB_bool, asI_int, asS_s, asN_int, extrK_0, extrK_1, extrK_2, Bool.not_true, Bool.not_false, Nat.beq_refl]
      exact q1
theorem play_is {M : AMem} (h0 : WF M) {acts : SV} {s0 sid len n fixed : Nat} (ha : IsActs M acts len) {μ : AMem} {T : Nat → Prop} {cs : List Int} {bs : List Bool} {r : Nat} (hs : Same M μ) (hb : Both T M.next μ (.ptr s0 0 0) sid n fixed cs bs) (hf : fits cs (40 + r)) (hr : r ≤ 900000) :
    ∃ μ' T' cs' bs', overdublaw13_play [.s (.ptr s0 0 0), .s (.ptr sid 0 0), .s acts] μ = some (.s (.bool true), μ') ∧ Keep T μ μ' ∧ (∀ j, T' j → T j ∨ μ.next ≤ j) ∧ Both T' M.next μ' (.ptr s0 0 0) sid n fixed cs' bs' ∧ fits cs' r := by
  obtain ⟨μ', T', cs', bs', q1, q2⟩ := play_loop h0 ha (min 40 len) 0 μ T cs bs r (Nat.zero_add _) hs hb (fits_less hf (by omega)) hr
  rw [n0] at q1
  refine ⟨μ', T', cs', bs', ?_, q2⟩
  rw [overdublaw13_play_eq]
  simp -implicitDefEqProofs only [q1, Option.bind_some, decide_true, decide_false, cond_true, cond_false, seqJ_n, seqJ_r, seqJ_e, headK_c, asB_bool, asI_int, asS_s, asN_int, extrK_0, extrK_1, extrK_2, Bool.not_true, Bool.not_false, Nat.beq_refl]
end Go.Proofs.Ytkikncdhmifkaaa
/- Two spaces alike: made, copied. -/
namespace Go.Proofs.Ytkikncdhmifkaaa
open Go Go.Proofs.Ytkikncdhmifkaaa.E
set_option linter.unusedVariables false
set_option linter.unusedSimpArgs false
theorem Dq.lower {N N' sid n fixed : Nat} {μ : AMem} {so : AObj} {s w : SV} {cs : List Int} {bs : List Bool} (h : Dq N μ sid so s w n fixed cs bs) (hN : N' ≤ N) : Dq N' μ sid so s w n fixed cs bs := by
  refine ⟨Nat.le_trans hN h.low, h.obj, h.own, h.ver, h.cells, h.row.less hN, ?_, h.lc, h.lb, h.ss, h.wws, h.sw⟩
  rcases h.brow with hb | ⟨id, ver, o, h1, h2, h3⟩
  · exact .inl hb
  · exact .inr ⟨id, ver, o, h1, Nat.le_trans hN h2, h3⟩
theorem both_new {μ : AMem} (hw : WF μ) {n f : Nat} (h1 : 1 ≤ n) (h2 : n ≤ 4096) (hf : f ≤ n) :
    ∃ x sid m1 m2 T, space_New [.s (.int .i64 n), .s (.int .i64 f)] μ = some (.tuple [.s x, .s (.int .i64 0)], m1) ∧ overdubref10_NewSpace [.s (.int .i64 n), .s (.int .i64 f)] m1 = some (.tuple [.s (.ptr sid 0 0), .s (.bool true)], m2) ∧ Same μ m2 ∧ Both T μ.next m2 x sid n f (List.replicate n 0) (List.replicate n false) := by
  obtain ⟨x, H, m1, e1, k1, s1⟩ := spNew_is hw h1 h2 hf
  obtain ⟨sid, so, s, w, m2, e2, k2, d2⟩ := dNew_is k1.wf h1 h2 hf
  have k1n := k1.next
  have hz : ∀ i, (List.replicate n (0 : Int)).getD i 0 = 0 := fun i => by
    rw [List.getD_eq_getElem?_getD, List.getElem?_replicate]
    split <;> rfl
  refine ⟨x, sid, m1, m2, fun j => H j ∨ Dh sid s w j, e1, e2, k1.trans k2, H, so, s, w, _, _, ⟨s1.same k2, d2.lower k1n, ⟨h1, h2⟩, hf, fun j hj => ?_, (waitF_none n 0 n).symm, fun j hj => ?_, fun j hj => ?_, fun j hj hd => ?_⟩, fun j => Iff.rfl⟩
  · unfold usedD
    rw [hz, repF]; simp
  · rw [repF] at hj; cases hj
  · rw [hz] at hj; exact absurd rfl hj
  · have hb := (s1.bound j hj).2
    rcases hd with hd | hd | hd
    · have := d2.low; omega
    · have := (own_lives d2.row hd).1; omega
    · have := (d2.brow.lives hd).1; omega
theorem both_copy {μ : AMem} (hw : WF μ) {T : Nat → Prop} {N : Nat} {x : SV} {sid n fixed : Nat} {cs : List Int} {bs : List Bool} (h : Both T N μ x sid n fixed cs bs) :
    ∃ q sid' m1 m2 T', space_Space_Clone [.s x] μ = some (.s (.ptr q 0 0), m1) ∧ overdubref10_Space_Copy [.s (.ptr sid 0 0)] m1 = some (.s (.ptr sid' 0 0), m2) ∧ Same μ m1 ∧ Same μ m2 ∧ Both T' μ.next m2 (.ptr q 0 0) sid' n fixed cs bs := by
  obtain ⟨H, so, s, w, V, W, a, hT⟩ := h
  have hn := a.one
  have hwl := waitF_len bs n 0
  obtain ⟨q, H', m1, e1, k1, s1, _⟩ := spClone_is hw a.sp (by omega) (by rw [a.wt]; omega)
  obtain ⟨sid', so', s', w', m2, e2, k2, d2⟩ := dCopy_is k1.wf (a.d.same k1) (by omega)
  have k1n := k1.next
  refine ⟨q, sid', m1, m2, fun j => H' j ∨ Dh sid' s' w' j, e1, e2, k1, k1.trans k2, H', so', s', w', _, _, ⟨s1.same k2, d2.lower k1n, a.one, a.fx, a.v, a.wt, a.i1, a.i2, fun j hj hd => ?_⟩, fun j => Iff.rfl⟩
  have hb := (s1.bound j hj).2
  rcases hd with hd | hd | hd
  · have := d2.low; omega
  · have := (own_lives d2.row hd).1; omega
  · have := (d2.brow.lives hd).1; omega
end Go.Proofs.Ytkikncdhmifkaaa
/- The example of the document holds. -/
namespace Go.Proofs.Ytkikncdhmifkaaa
open Go Go.Proofs.Ytkikncdhmifkaaa.E
set_option linter.unusedVariables false
set_option linter.unusedSimpArgs false
theorem fits_get {c : List Int} {k : Nat} (h : ∀ v ∈ c, 0 ≤ v ∧ v ≤ 1000) (hk : k ≤ 1000) : fits c k := fun v hv => by have := h v hv; omega
theorem row_set {m : AMem} {k : IntKind} {y : SV} {zs : List Int} (hy : IsRow m k y zs) {i : Nat} {o : AObj} (h : ¬ isId y i) : IsRow (m.set i o) k y zs := by
  rcases hy with ⟨rfl, rfl⟩ | ⟨id, ver, off, ob, rfl, ho, r⟩
  · exact .inl ⟨rfl, rfl⟩
  · exact .inr ⟨id, ver, off, ob, rfl, by rw [set_obj, if_neg (show ¬ id = i from h)]; exact ho, r⟩
theorem wakes_is (μ : AMem) (hw : WF μ) : ∃ μ', overdublaw13_wakes [] μ = some (.s (.bool true), μ') := by
  obtain ⟨x, H, m1, e1, k1, s1⟩ := spNew_is hw (n := 4) (fixed := 2) (by omega) (by omega) (by omega)
  rw [show ((4 : Nat) : Int) = 4 from rfl, show ((2 : Nat) : Int) = 2 from rfl] at e1
  obtain ⟨m2, e2, k2, s2⟩ := (spTake_is k1.wf s1 (by omega) (fits_zero _ _ (by omega))).2 2 (by omega) rfl (by decide)
  rw [show ((2 : Nat) : Int) = 2 from rfl] at e2 s2
  have k2' := s1.since hw k1 k2
  obtain ⟨m3, H3, e3, k3, _, s3⟩ := (spDrop_is k2.wf k2'.next s2 (fits_get (by decide) (by omega)) (by simp) 2).2 (by decide)
  rw [if_pos (by decide)] at s3
  have e4 := spFree_is s3 (by omega)
  rw [show ((4 : Nat) : Int) - cntF (setV (fun j => decide (j < 2)) 2 true) 4 = 1 by decide] at e4
  obtain ⟨m5, e5, k5, s5⟩ := spCommit_is k3.wf s3 (by omega) (by decide) (by decide)
  rw [show (((insK [] 2).length : Nat) : Int) = 1 by decide] at e5
  have e6 := spFree_is s5 (by omega)
  rw [show ((4 : Nat) : Int) - cntF (putV false (setV (fun j => decide (j < 2)) 2 true) (insK [] 2)) 4 = 2 by decide] at e6
  refine ⟨m5, ?_⟩
  rw [overdublaw13_wakes_eq]
  simp -implicitDefEqProofs only [e1, s1.nn, e2, e3, e4, e5, e6, ne_f (rfl : (0 : Int) = 0), eq_t (rfl : (0 : Int) = 0), eq_t (rfl : (1 : Int) = 1), eq_t (rfl : (2 : Int) = 2), Option.bind_some, decide_true, decide_false, cond_true, cond_false, seqJ_n, seqJ_r, seqJ_e, headK_c, asB_bool, asI_int, asS_s, asN_int, extrK_0, extrK_1, extrK_2, Bool.not_true, Bool.not_false, Nat.beq_refl]
end Go.Proofs.Ytkikncdhmifkaaa
