/- Spaces: drop, commit, new ones. -/
import Derived.Test.YtkikncdhmifkaaaQSpace2
namespace Go.Proofs.Ytkikncdhmifkaaa
open Go Go.Proofs.Ytkikncdhmifkaaa.E
set_option linter.unusedVariables false
set_option linter.unusedSimpArgs false
/-- Behind how many of the first k it belongs. -/
def cutK (W : List Int) (i : Int) : Nat → Nat
  | 0 => 0
  | k + 1 => if W.getD k 0 > i then cutK W i k else k + 1
theorem cutK_le (W : List Int) (i : Int) : ∀ k, cutK W i k ≤ k
  | 0 => Nat.le_refl _
  | k + 1 => by rw [cutK]; split; exact Nat.le_succ_of_le (cutK_le W i k); exact Nat.le_refl _
def insK (W : List Int) (i : Int) : List Int := W.take (cutK W i W.length) ++ i :: W.drop (cutK W i W.length)
section
variable {N : Nat} {μ : AMem} {sid : Nat} {so : AObj} {u t w : SV} {F G : Nat → Prop} {fixed n : Nat} {V : Nat → Bool} {cs W : List Int}
theorem drop_look (q : Sq N μ sid so u t w F G fixed n V cs W) (hl : W.length ≤ 100000) (i : Int) (b : Bool) :
    ∀ k : Nat, k ≤ W.length → space_Space_Drop_L1 [.s (.ptr sid 0 0), .s (.int .i64 i), .s (.bool b)] [.s (.int .i64 k)] μ = some (.exit 0, [.s (.ptr sid 0 0), .s (.int .i64 i), .s (.bool b), .s (.int .i64 (cutK W i k))], μ)
  | 0, _ => by
    rw [space_Space_Drop_L1_eq, space_Space_Drop_L1_B_eq]
    simp -implicitDefEqProofs (disch := omega) only [lt_t, lt_f, gt_t, gt_f, le_t, le_f, ge_t, ge_f, ne_t, ne_f, eq_t, eq_f, w64, chk_true, Option.bind_some, decide_true, decide_false, cond_true, cond_false, seqJ_n, seqJ_r, seqJ_e, headK_c, asB_bool, asI_int, asS_s, asN_int, extrK_0, extrK_1, extrK_2, Bool.not_true, Bool.not_false, Nat.beq_refl]
    rfl
  | k + 1, hk => by
    have hr := q.row.row
    have e1 : IntKind.wrap .i64 (((k + 1 : Nat) : Int) - 1) = (k : Int) := by rw [wr (by omega)]; omega
    have a1 := fun {R : Type} (K : AV → Option R) => hr.ind (i := (k : Int)) (by omega) (by omega) K
    have a2 := fun {R : Type} (K : AV → Option R) => hr.load (i := (k : Int)) (by omega) (by omega) K
    rw [nat_toNat] at a2
    rw [space_Space_Drop_L1_eq, space_Space_Drop_L1_B_eq, cutK]
    by_cases hc : W.getD k 0 > i
    · rw [if_pos hc]
      have ih := drop_look q hl i b k (by omega)
      simp -implicitDefEqProofs only [gt_t (show (0 : Int) < ((k + 1 : Nat) : Int) by omega), q.c3, e1, a1, a2, gt_t (show i < W.getD k 0 by omega), Option.bind_some, decide_true, decide_false, cond_true, cond_false, seqJ_n, seqJ_r, seqJ_e, headK_c, asB_bool, asI_int, asS_s, asN_int, extrK_0, extrK_1, extrK_2, Bool.not_true, Bool.not_false, Nat.beq_refl]
      exact ih
    · rw [if_neg hc]
      simp -implicitDefEqProofs only [gt_t (show (0 : Int) < ((k + 1 : Nat) : Int) by omega), q.c3, e1, a1, a2, gt_f (show W.getD k 0 ≤ i by omega), Option.bind_some, decide_true, decide_false, cond_true, cond_false, seqJ_n, seqJ_r, seqJ_e, headK_c, asB_bool, asI_int, asS_s, asN_int, extrK_0, extrK_1, extrK_2, Bool.not_true, Bool.not_false, Nat.beq_refl]
/-- A cell of the box is written. -/
theorem Sq.put {so' : AObj} (hw : WF μ) (low : N ≤ sid) (hobj : μ.obj sid = some so) (hown : so.own = true) (hver : so.ver = 0) {u' t' w' : SV} {F' G' : Nat → Prop} {V' : Nat → Bool} {cs' W' : List Int} (hso : so' = { so with cells := [.int .i64 fixed, u', t', w'] })
    (hm : Mz F' N μ u' n V') (ht : Tz G' N μ t' cs') (hr : OwnRow N μ .i64 3 w' W') (h1 : ∀ j, F' j → ¬ G' j ∧ ¬ isId w' j ∧ j ≠ sid) (h2 : ∀ j, G' j → ¬ isId w' j ∧ j ≠ sid) (h3 : ¬ isId w' sid) (h4 : cs'.length = n) :
    Sq N (μ.set sid so') sid so' u' t' w' F' G' fixed n V' cs' W' ∧ Keep (fun j => j = sid) μ (μ.set sid so') := by
  have hk : Keep (fun j => j = sid) μ (μ.set sid so') := Keep.set hw hobj rfl
  subst hso
  exact ⟨⟨low, by simp, hown, hver, rfl, hm.keep hk (fun j hj hf => (h1 j hf).2.2 hj), ht.keep hk (fun j hj hf => (h2 j hf).2 hj), ownKeep hr hk (fun j hj hi => h3 (hj ▸ hi)), h1, h2, h3, h4⟩, hk⟩
end
section
variable {H : Nat → Prop} {N : Nat} {μ : AMem} {x : SV} {fixed n : Nat} {V : Nat → Bool} {cs W : List Int}
theorem spDrop_is (hw : WF μ) (hN : N ≤ μ.next) (h : Sp H N μ x fixed n V cs W) (hf : fits cs 0) (hl : W.length ≤ 10000) (i : Int) :
    (ofI cs i = 0 → space_Space_Drop [.s x, .s (.int .i64 i)] μ = some (.s (.bool false), μ)) ∧
    (ofI cs i ≠ 0 → ∃ μ' H', space_Space_Drop [.s x, .s (.int .i64 i)] μ = some (.s (.bool true), μ') ∧ Keep H μ μ' ∧ (∀ j, H' j → H j ∨ μ.next ≤ j) ∧ Sp H' N μ' x fixed n V (decZ cs i) (if ofI cs i = 1 then insK W i else W)) := by
  obtain ⟨sid, so, u, t, w, F, G, rfl, q, ⟨hs0, hF, hG, hW0⟩, hb⟩ := h
  obtain ⟨d1, d2⟩ := q.tab.drop hw hf i
  refine ⟨fun h0 => ?_, fun h0 => ?_⟩
  · rw [space_Space_Drop_eq]
    simp -implicitDefEqProofs only [q.c2, d1 h0, Option.bind_some, decide_true, decide_false, cond_true, cond_false, seqJ_n, seqJ_r, seqJ_e, headK_c, asB_bool, asI_int, asS_s, asN_int, extrK_0, extrK_1, extrK_2, Bool.not_true, Bool.not_false, Nat.beq_refl]
  · obtain ⟨m1, e1, k1, z1⟩ := d2 h0
    have q1 := q.tabbed k1 z1 (decZ_len ..)
    by_cases h1 : ofI cs i = 1
    · rw [if_pos h1]
      have hlk := drop_look q1 (by omega) i true W.length (Nat.le_refl _)
      obtain ⟨k, hk⟩ : ∃ k, cutK W i W.length = k := ⟨_, rfl⟩
      have hkl : k ≤ W.length := hk ▸ cutK_le W i W.length
      rw [hk] at hlk
      have hw1 : WF m1 := k1.wf
      have hn1 := k1.next
      -- the literal, and what is behind it
      have ks := Same.bumpSet hw1 (n := 20) (a := 8) (by omega) (rowObj [.int .i64 i] 1 3 (some 1))
      obtain ⟨m2, hm2⟩ : ∃ m2, m2 = (m1.bump 20).set (m1.next + 8) (rowObj [.int .i64 i] 1 3 (some 1)) := ⟨_, rfl⟩
      rw [← hm2] at ks
      have q2 := q1.same ks
      have hn2 : m2.next = m1.next + 20 := by rw [hm2]; rfl
      have hlit : OwnRow N m2 .i64 3 (.slice (m1.next + 8) 0 0 1) [i] := OwnRow.new (o := rowObj [.int .i64 i] 1 3 (some 1)) (by rw [hm2]; simp) (by omega) rfl rfl rfl rfl rfl rfl
      have hfree : ∀ a, a < 20 → a ≠ 8 → m2.obj (m1.next + a) = none := fun a ha hne => by rw [hm2, set_obj, if_neg (by omega)]; exact hw1 _ (by omega)
      obtain ⟨y, c1, c2⟩ := q1.row.row.front hkl
      obtain ⟨z, c3, c4⟩ := q1.row.row.back hkl
      obtain ⟨x43, m3, a1, a2, a3, a4, a5, a6⟩ := hlit.append (B := 8) (nid := m1.next + 15) ks.wf (c4.same ks) (by omega) (by simp; omega) (by omega) (by omega) (hfree 15 (by omega) (by omega))
      have hwl : ∀ j, isId w j → j < m1.next := fun j hj => by
        obtain ⟨_, o, ho⟩ := own_lives q1.row hj
        exact hw1.lt ho
      have hwlit : ∀ j, isId w j → ¬ isId (.slice (m1.next + 8) 0 0 1) j := fun j hj h => by
        have := hwl j hj
        have : m1.next + 8 = j := h
        omega
      have hk3 : Same m1 m3 := ⟨a3, by omega, fun id o ho _ => a5.1 id o (ks.old id o ho fun h => h) fun h => by
        have := hw1.lt ho
        have : m1.next + 8 = id := h
        omega, fun id hid hno => a5.2 id (by omega) (ks.low id hid hno)⟩
      have q3 := q1.same hk3
      have hfr3 : m3.obj (m1.next + 16) = none := a5.2 _ (by omega) (hfree 16 (by omega) (by omega))
      -- what is ahead of it
      have hy3 : OwnRow N m3 .i64 3 y (W.take k) := by
        rcases q3.row with ⟨hw0, hW⟩ | ⟨id, ver, o, hw0, b1, b2, b3, b4, b5, b6, b7⟩
        · have := c1 (R := AV) some
          rw [hw0] at this
          have hk0 : k = 0 := by rw [hW] at hkl; simpa using hkl
          subst hk0
          simp only [cutS, n0] at this
          simp at this
          rw [← this]
          exact .inl ⟨rfl, by simp⟩
        · have := c1 (R := AV) some
          rw [hw0] at this
          simp only [cutS] at this
          rw [if_pos (by omega)] at this
          simp at this
          rw [← this]
          refine .inr ⟨id, ver, o, by simp; omega, b1, b2, b3, b4, b5, b6, fun j v hj => b7 j v ?_⟩
          rw [List.getElem?_take] at hj
          split at hj
          · exact hj
          · cases hj
      have hyid : ∀ j, isId y j → isId w j := fun j hj => by
        rcases q3.row with ⟨hw0, hW⟩ | ⟨id, ver, o, hw0, b1, b2, b3, b4, b5, b6, b7⟩
        · have := c1 (R := AV) some
          rw [hw0] at this
          have hk0 : k = 0 := by rw [hW] at hkl; simpa using hkl
          subst hk0
          simp only [cutS, n0] at this
          simp at this
          rw [← this] at hj
          exact hj.elim
        · have := c1 (R := AV) some
          rw [hw0] at this
          simp only [cutS] at this
          rw [if_pos (by omega)] at this
          simp at this
          rw [← this] at hj
          rw [hw0]; exact hj
      obtain ⟨x46, m4, f1, f2, f3, f4, f5, f6⟩ := hy3.append (B := 8) (nid := m1.next + 16) a3 a2.row (by omega) (by simp; omega) (by omega) (by omega) hfr3
      have hid46 : ∀ j, isId x46 j → isId w j ∨ j = m1.next + 16 := fun j hj => (f6 j hj).imp (hyid j) fun h => h
      have hFW : ∀ j, F j → ¬ isId x46 j := fun j hj hi => by
        rcases hid46 j hi with h3 | h3
        · exact (q1.offF j hj).2.1 h3
        · obtain ⟨_, o, ho⟩ := q1.map.lives j hj
          have := hw1.lt ho
          omega
      have hGW : ∀ j, G j → ¬ isId x46 j := fun j hj hi => by
        rcases hid46 j hi with h3 | h3
        · exact (q1.offG j hj).1 h3
        · obtain ⟨_, o, ho⟩ := q1.tab.lives j hj
          have := hw1.lt ho
          omega
      have hsW : ¬ isId x46 sid := fun hi => by
        rcases hid46 sid hi with h3 | h3
        · exact q1.offW h3
        · have := hw1.lt q1.obj
          omega
      -- all but the row that waits
      have hk4 : Keep (fun j => isId w j) m1 m4 := ⟨f3, by omega, fun id o ho hne => f5.1 id o (hk3.old id o ho fun h => h) fun h => hne (hyid id h), fun id hid hno => f5.2 id (by omega) (hk3.low id hid hno)⟩
      have hso4 : m4.obj sid = some so := hk4.old _ _ q1.obj q1.offW
      have f2' : OwnRow N m4 .i64 3 x46 (insK W i) := by unfold insK; rw [hk]; exact f2
      obtain ⟨q5, k5⟩ := Sq.put (so' := { so with cells := [.int .i64 fixed, u, t, x46] }) f3 q.low hso4 q.own q.ver rfl (q1.map.keep hk4 fun j hj hf => (q1.offF j hf).2.1 hj) (q1.tab.keep hk4 fun j hj hf => (q1.offG j hf).1 hj) f2' (fun j hj => ⟨(q1.offF j hj).1, hFW j hj, (q1.offF j hj).2.2⟩) (fun j hj => ⟨hGW j hj, (q1.offG j hj).2⟩) hsW q1.len
      have kk : Keep H μ (m4.set sid { so with cells := [.int .i64 fixed, u, t, x46] }) := (k1.weak0 hG).trans ((hk4.weak0 hW0).trans (k5.weak0 fun j hj => hj ▸ hs0))
      have kn := kk.next
      have hn4 : (m4.set sid { so with cells := [.int .i64 fixed, u, t, x46] }).next = m1.next + 20 := by rw [set_next, f4, a4, hn2]
      refine ⟨_, fun j => H j ∨ j = m1.next + 16, ?_, kk, fun j hj => hj.imp (fun h => h) fun h => by omega, ⟨sid, _, u, t, x46, F, G, rfl, q5, ⟨.inl hs0, fun j hj => .inl (hF j hj), fun j hj => .inl (hG j hj), fun j hj => (hid46 j hj).imp (hW0 j) fun h => h⟩, fun j hj => ?_⟩⟩
      rotate_left
      · rcases hj with hj | hj
        · exact ⟨(hb j hj).1, by have := (hb j hj).2; omega⟩
        · exact ⟨by omega, by omega⟩
      have hst : m4.store sid 0 (0 + 3) [x46] = some (m4.set sid { so with cells := [.int .i64 fixed, u, t, x46] }) := by
        simp only [AMem.store, hso4, Option.bind_some]
        rw [if_pos ⟨q.own, q.ver, by rw [q.cells]; simp⟩, q.cells]; rfl
      have hn : nonNil (R := Res) (.s (.ptr sid 0 0)) = fun K => K := by funext K; rfl
      have hfr1 : (m1.bump 20).obj (m1.next + 8) = none := freshB hw1 20 8
      rw [space_Space_Drop_eq]
      simp -implicitDefEqProofs only [q.c2, e1, eq_t (show ofI cs i - 1 = 0 by omega), q1.c3, q1.row.row.len, hlk, hn, ptrAdd_p, loadAt_p, bump_cell, c1, hfr1, c3, chk_true, Option.bind_some, decide_true, decide_false, cond_true, cond_false, seqJ_n, seqJ_r, seqJ_e, headK_c, asB_bool, asI_int, asS_s, asN_int, extrK_0, extrK_1, extrK_2, Bool.not_true, Bool.not_false, Nat.beq_refl]
      rw [← hm2]
      simp -implicitDefEqProofs only [a1, q3.c3, f1, hn, ptrAdd_p, loadAt_p, storeAt, AV.cells, List.length_singleton, if_true, hst, chk_true, Option.bind_some, decide_true, decide_false, cond_true, cond_false, seqJ_n, seqJ_r, seqJ_e, headK_c, asB_bool, asI_int, asS_s, asN_int, extrK_0, extrK_1, extrK_2, Bool.not_true, Bool.not_false, Nat.beq_refl]
    · rw [if_neg h1]
      refine ⟨m1, H, ?_, k1.weak0 hG, fun j hj => .inl hj, ⟨sid, so, u, t, w, F, G, rfl, q1, ⟨hs0, hF, hG, hW0⟩, fun j hj => ⟨(hb j hj).1, by have := (hb j hj).2; have := k1.next; omega⟩⟩⟩
      rw [space_Space_Drop_eq]
      simp -implicitDefEqProofs only [q.c2, e1, eq_f (show ¬ ofI cs i - 1 = 0 by omega), Option.bind_some, decide_true, decide_false, cond_true, cond_false, seqJ_n, seqJ_r, seqJ_e, headK_c, asB_bool, asI_int, asS_s, asN_int, extrK_0, extrK_1, extrK_2, Bool.not_true, Bool.not_false, Nat.beq_refl]
end
end Go.Proofs.Ytkikncdhmifkaaa
