/- What the functions come to. -/
import Derived.Test.YtepdjffnjfdklaaZka
/- A map's clone. -/
namespace Go.Proofs.Ytepdjffnjfdklaa
open Go Go.Proofs.Ytepdjffnjfdklaa.E
set_option linter.unusedVariables false
set_option linter.unusedSimpArgs false
theorem clone_body {N : Nat} {μ : AMem} (hw : WF μ) (hN : N ≤ μ.next) {sid n : Nat} {X : SV} {rs : List SV} {wss : List (List Int)} (h : Mq N μ sid n X rs wss) {r L : SV} {ws : List Int} {i len : Nat} {q : AV} (hrow : IsRow μ .u64 r ws) (hok : ∀ w ∈ ws, w64ok w) (hwl : ws.length ≤ 10000) (hr : rs.length ≤ 10) (hi : i < len) (hlen : len ≤ 100)
    (hind : ∀ {R : Type} (K : AV → Option R), indS 1 (.s L) (i : Int) K = K q) (hld : ∀ {R : Type} (K : AV → Option R), loadAt μ q K = K (.s r)) :
    ∃ X' y μ', Mq N μ' sid n X' (rs ++ [y]) (wss ++ [ws]) ∧ Keep (fun j => N ≤ j) μ μ' ∧
      bitmap_Map_Clone_L1_B [.s (.ptr sid 0 0), .s L, .s (.int .i64 (len : Int))] [.s (.int .i64 (i : Int))] μ = some (.normal, [.s (.int .i64 ((i + 1 : Nat) : Int))], μ') := by
  obtain ⟨g1, ⟨so, g2, g3, g4, g5⟩, g6, g7, g8, g9, g10⟩ := h
  have hsl := hw.lt g2
  have hs1 : Same μ (μ.bump 12) := Keep.bump hw 12
  obtain ⟨y, m2, o1, o2, o3, o4, o5, o6⟩ := OwnRow.append (B := 8) (nid := μ.next + 6) hs1.wf (OwnRow.nil μ.next (μ.bump 12) .u64 31) (hrow.same hs1) (by omega) (by simp; omega) (by omega) (by simp) (freshB hw 12 6)
  rw [List.nil_append] at o2
  simp only [bump_next] at o4
  have oid : ∀ id, isId y id → id = μ.next + 6 := fun id hid => (o6 id hid).resolve_left fun h => h
  have hs2 : Same μ m2 := ⟨o3, by omega, fun id o ho _ => o5.1 id o ho fun h => h, fun id hid hno => o5.2 id (by omega) hno⟩
  have hso2 : m2.obj sid = some so := hs2.old _ _ g2 fun h => h
  have hfree : ∀ j, j < 12 → j ≠ 6 → m2.obj (μ.next + j) = none := fun j hj hj6 => o5.2 _ (by omega) (freshB hw 12 j)
  have hlt3 : μ.next + 7 < m2.next := by omega
  obtain ⟨m3, hm3⟩ : ∃ m3, m3 = m2.set (μ.next + 7) (rowObj [y] 1 29 (some 1)) := ⟨_, rfl⟩
  have hs3 : Same μ m3 := by rw [hm3]; exact Keep.setS hw hs2 (by omega) hlt3
  have hk3 : ∀ id o, m2.obj id = some o → m3.obj id = some o := fun id o ho => by
    have : id ≠ μ.next + 7 := fun e => by rw [e, hfree 7 (by omega) (by omega)] at ho; cases ho
    rw [hm3, set_obj, if_neg this]; exact ho
  have hX3 : OwnV N m3 29 X rs := g6.keep fun id o ho _ => hs3.old id o ho fun h => h
  obtain ⟨X', m4, a1, a2, a3, a4, a5, a6⟩ := hX3.push hs3.wf (y := y) (B := 24) (lit := μ.next + 7) (nid := μ.next + 8) (by omega) (by omega) (by omega) (by rw [hm3, set_next]; omega) (by rw [hm3, set_obj, if_neg (by omega)]; exact hfree 8 (by omega) (by omega)) (q := some 1) (by rw [hm3]; simp)
  have hso4 : m4.obj sid = some so := a5.1 _ _ (hk3 _ _ hso2) g7
  obtain ⟨m5, hm5⟩ : ∃ m5, m5 = m4.set sid { so with cells := [.int .i64 n, X'] } := ⟨_, rfl⟩
  have hst : m4.store sid 0 (0 + 1) [X'] = some m5 := by
    simp only [AMem.store, hso4, Option.bind_some]
    rw [if_pos ⟨g3, g4, by rw [g5]; simp⟩, hm5, g5]; rfl
  have hX'sid : ¬ isId X' sid := fun h => by
    rcases a6 sid h with h3 | h3
    · exact g7 h3
    · omega
  have hk5 : ∀ id o, m4.obj id = some o → id ≠ sid → m5.obj id = some o := fun id o ho hne => by rw [hm5, set_obj, if_neg hne]; exact ho
  have hX5 : OwnV N m5 29 X' (rs ++ [y]) := a2.keep fun id o ho hi => hk5 id o ho fun e => hX'sid (e ▸ hi)
  have hysid : ¬ isId y sid := fun h => by have := oid _ h; omega
  have hyX : Apart y X := fun id hi hx => by
    have := oid _ hi
    obtain ⟨_, o, ho⟩ := g6.lives hx
    have := hw.lt ho
    omega
  have hyX' : Apart y X' := fun id hi hx => by
    rcases a6 id hx with h3 | h3
    · exact hyX id hi h3
    · have := oid _ hi; omega
  have hy5 : OwnRow N m5 .u64 31 y ws := ((o2.less (M := N) (by omega)).old fun id o ho hi => hk5 id o (a5.1 id o (hk3 id o ho) (hyX id hi)) fun e => hysid (e ▸ hi))
  have hkeep : Keep (fun j => N ≤ j) μ m5 := by
    have hw5 : WF m5 := by rw [hm5]; exact a3.set (a3.lt hso4)
    have hn5 : m5.next = m2.next := by rw [hm5, set_next, a4, hm3, set_next]
    refine ⟨hw5, by omega, fun id o ho hns => ?_, fun id hi hno => ?_⟩
    · refine hk5 id o (a5.1 id o (hs3.old id o ho fun h => h) fun hx => hns ((g6.lives hx).1)) fun e => hns (e ▸ g1)
    · have h3 : m3.obj id = none := hs3.low id hi hno
      have h4 : m4.obj id = none := a5.2 id (by omega) h3
      have : id ≠ sid := fun e => by rw [e, hso4] at h4; cases h4
      rw [hm5, set_obj, if_neg this]; exact h4
  refine ⟨X', y, m5, ⟨g1, ⟨{ so with cells := [.int .i64 n, X'] }, by rw [hm5]; simp, g3, g4, rfl⟩, hX5, hX'sid, by simp; exact g8, fun j r ws' hj hws => ?_, fun i j r r' hij hi hj => ?_⟩, hkeep, ?_⟩
  · rw [List.getElem?_append] at hj hws
    by_cases hjl : j < rs.length
    · rw [if_pos hjl] at hj
      rw [if_pos (by omega)] at hws
      obtain ⟨⟨e, q1⟩, q2, q3, q4⟩ := g9 j r ws' hj hws
      refine ⟨⟨e, q1.old fun id o ho hi => hk5 id o (a5.1 id o (hs3.old id o ho fun h => h) (q4 id hi)) fun e => q3 (e ▸ hi)⟩, q2, q3, fun id hi hx => ?_⟩
      rcases a6 id hx with h3 | h3
      · exact q4 id hi h3
      · obtain ⟨_, o, ho⟩ := own_lives q1 hi
        have := hw.lt ho
        omega
    · rw [if_neg hjl] at hj
      rw [if_neg (by omega)] at hws
      have hj0 : j - rs.length = 0 := by have := (List.getElem?_eq_some_iff.mp hj).1; simp at this; omega
      have hw0 : j - wss.length = 0 := by omega
      rw [hj0] at hj
      rw [hw0] at hws
      cases hj
      cases hws
      exact ⟨⟨31, hy5⟩, hok, hysid, hyX'⟩
  · have hyr : ∀ (j : Nat) r, rs[j]? = some r → Apart y r := fun j r hj id hi hx => by
      have hjl := (List.getElem?_eq_some_iff.mp hj).1
      obtain ⟨⟨e, q1⟩, _⟩ := g9 j r _ hj (List.getElem?_eq_getElem (by omega))
      obtain ⟨_, o, ho⟩ := own_lives q1 hx
      have := hw.lt ho
      have := oid _ hi
      omega
    have hlast : ∀ (j : Nat) r, ¬ j < rs.length → (rs ++ [y])[j]? = some r → j = rs.length ∧ r = y := fun j r hjl hj => by
      rw [List.getElem?_append, if_neg hjl] at hj
      have hj0 : j - rs.length = 0 := by have := (List.getElem?_eq_some_iff.mp hj).1; simp at this; omega
      rw [hj0] at hj
      cases hj
      exact ⟨by omega, rfl⟩
    by_cases hi1 : i < rs.length
    · have hi2 := hi
      rw [List.getElem?_append, if_pos hi1] at hi2
      by_cases hj1 : j < rs.length
      · rw [List.getElem?_append, if_pos hj1] at hj
        exact g10 i j r r' hij hi2 hj
      · obtain ⟨_, rfl⟩ := hlast j r' hj1 hj
        exact (hyr i r hi2).symm
    · obtain ⟨hi3, rfl⟩ := hlast i r hi1 hi
      by_cases hj1 : j < rs.length
      · rw [List.getElem?_append, if_pos hj1] at hj
        exact hyr j r' hj
      · obtain ⟨hj3, _⟩ := hlast j r' hj1 hj
        omega
  · have c1 : (μ.bump 12).cell sid 0 (0 + 1) = some X := by
      simp only [AMem.cell, bump_obj, g2, Option.bind_some, g4, if_true, g5]; rfl
    have c2 : m2.cell sid 0 (0 + 1) = some X := by
      simp only [AMem.cell, hso2, Option.bind_some, g4, if_true, g5]; rfl
    have ei : IntKind.wrap .i64 ((i : Int) + 1) = ((i + 1 : Nat) : Int) := by rw [wr (by omega)]; rfl
    rw [bitmap_Map_Clone_L1_B_eq]
    simp -implicitDefEqProofs only [lt_t (show (i : Int) < (len : Int) by omega), hind, hld, c1, o1, c2, hfree 7 (by omega) (by omega), chk_true, chk_rfl, Option.bind_some, decide_true, decide_false, cond_true, cond_false, seqJ_n, seqJ_r, seqJ_e, headK_c, asB_bool, asI_int, asS_s, asN_int, extrK_0, extrK_1, extrK_2, Bool.not_true, Bool.not_false, Nat.beq_refl]
    rw [← hm3]
    simp -implicitDefEqProofs only [a1, hst, ei, Option.bind_some, decide_true, decide_false, cond_true, cond_false, seqJ_n, seqJ_r, seqJ_e, headK_c, asB_bool, asI_int, asS_s, asN_int, extrK_0, extrK_1, extrK_2, Bool.not_true, Bool.not_false, Nat.beq_refl]
theorem clone_loop {N0 : Nat} {μ0 : AMem} (h0 : WF μ0) {x L : SV} {n sid : Nat} {rs0 : List SV} {wss : List (List Int)} (hm : Mp N0 μ0 x n rs0 wss) (hL : ∀ p, x = .ptr p 0 0 → μ0.cell p 0 (0 + 1) = some L) (hl100 : wss.length ≤ 10) (hws : ∀ (k : Nat) ws, wss[k]? = some ws → ws.length ≤ 10000) :
    ∀ (k i : Nat) (m : AMem) (X : SV) (rs : List SV), i + k = wss.length → Same μ0 m → Mq μ0.next m sid n X rs (wss.take i) →
      ∃ X' rs' m', bitmap_Map_Clone_L1 [.s (.ptr sid 0 0), .s L, .s (.int .i64 (wss.length : Int))] [.s (.int .i64 (i : Int))] m = some (.exit 0, [.s (.ptr sid 0 0)], m') ∧ Same μ0 m' ∧ Mq μ0.next m' sid n X' rs' wss
  | 0, i, m, X, rs, hi, hs, h => by
    obtain rfl : i = wss.length := by omega
    refine ⟨X, rs, m, ?_, hs, by rw [List.take_of_length_le (Nat.le_refl _)] at h; exact h⟩
    rw [bitmap_Map_Clone_L1_eq, bitmap_Map_Clone_L1_B_eq]
    simp -implicitDefEqProofs only [lt_f (Int.le_refl (wss.length : Int)), Option.bind_some, decide_true, decide_false, cond_true, cond_false, seqJ_n, seqJ_r, seqJ_e, headK_c, asB_bool, asI_int, asS_s, asN_int, extrK_0, extrK_1, extrK_2, Bool.not_true, Bool.not_false, Nat.beq_refl]
  | k + 1, i, m, X, rs, hi, hs, h => by
    have hil : i < wss.length := by omega
    have hwi := List.getElem?_eq_getElem hil
    have hm1 : Mp N0 m x n rs0 wss := hm.keep (S := fun _ => False) hs
    obtain ⟨p, r, L', q, hx, hr, hc0, hc1, hLl, hind, hld, ⟨e, ho⟩, hok⟩ := hm1.level hwi
    obtain ⟨p2, r2, L2, q2, hx2, hr2, hd0, hd1, _⟩ := hm.level hwi
    rw [hx] at hx2
    cases hx2
    have hLL : L' = L := by
      have h1 := hL p hx
      obtain ⟨sid2, so, lid, lo, ver, hxx, hN, hso, hsv, hsc, _⟩ := hm
      rw [hx] at hxx
      cases hxx
      have hso' := hs.old _ _ hso fun h => h
      simp only [AMem.cell, hso, Option.bind_some, hsv, if_true, hsc] at h1
      simp only [AMem.cell, hso', Option.bind_some, hsv, if_true, hsc] at hc1
      rw [h1] at hc1
      exact (Option.some.inj hc1).symm
    subst hLL
    have hrl : rs.length = i := by
      have := h.2.2.2.2.1
      rw [List.length_take] at this
      omega
    obtain ⟨X1, y, m1, q1, k1, b1⟩ := clone_body hs.wf hs.next h ho.row hok (hws i _ hwi) (by omega) hil (by omega) hind hld
    have ht : wss.take i ++ [wss[i]] = wss.take (i + 1) := by rw [List.take_add_one, hwi]; rfl
    rw [ht] at q1
    obtain ⟨X2, rs2, m2, r1, r2, r3⟩ := clone_loop h0 hm hL hl100 hws k (i + 1) m1 X1 _ (by omega) (keepSame h0 hs k1 fun j hj => hj) q1
    refine ⟨X2, rs2, m2, ?_, r2, r3⟩
    rw [bitmap_Map_Clone_L1_eq, b1]
    simp -implicitDefEqProofs only [Option.bind_some, decide_true, decide_false, cond_true, cond_false, seqJ_n, seqJ_r, seqJ_e, headK_c, asB_bool, asI_int, asS_s, asN_int, extrK_0, extrK_1, extrK_2, Bool.not_true, Bool.not_false, Nat.beq_refl]
    exact r1
theorem mapClone_is {N : Nat} {μ : AMem} (hw : WF μ) {x : SV} {n : Nat} {rs : List SV} {ws : List Int} (h : Mw N μ x n rs ws) (hn : n ≤ 5000) :
    ∃ q rs' μ', bitmap_Map_Clone [.s x] μ = some (.s (.ptr q 0 0), μ') ∧ Same μ μ' ∧ Mw μ.next μ' (.ptr q 0 0) n rs' ws := by
  obtain ⟨wss, hm, hlens, h0⟩ := h.ex
  obtain ⟨hl1, hl100, hl2, hl3⟩ := hlens
  obtain ⟨p, r, L, q, hx, hr, hc0, hc1, hLl, _⟩ := hm.level h0
  have hw0 := hl2 ws h0
  have k1 : Same μ ((μ.bump 7).set (μ.next + 5) (rowObj [.int .i64 (n : Int), .nilSlice] 2 50 (some 1))) := Same.bumpSet hw (by omega) _
  have hq0 : Mq μ.next ((μ.bump 7).set (μ.next + 5) (rowObj [.int .i64 (n : Int), .nilSlice] 2 50 (some 1))) (μ.next + 5) n .nilSlice [] (wss.take 0) := ⟨by omega, ⟨rowObj [.int .i64 n, .nilSlice] 2 50 (some 1), by simp, rfl, rfl, rfl⟩, .inl ⟨rfl, rfl⟩, fun h => h, rfl, fun k r ws hk => by simp at hk, fun i j r r' _ hi => by simp at hi⟩
  obtain ⟨X, rs', m', e1, k2, hq⟩ := clone_loop (sid := μ.next + 5) hw hm (fun p' hp' => by rw [hx] at hp'; cases hp'; exact hc1) (by omega) (fun k us hk => by
    match k, hk with
    | 0, hk => rw [h0] at hk; cases hk; omega
    | 1, hk => have := (hl3 0 ws us h0 hk).1; omega
    | k + 2, hk => have := (List.getElem?_eq_some_iff.mp hk).1; omega) wss.length 0 _ .nilSlice [] (Nat.zero_add _) k1 hq0
  rw [n0] at e1
  have hne : rs' ≠ [] := fun h => by
    have := hq.2.2.2.2.1
    rw [h] at this
    simp at this
    omega
  have hp : p < μ.next := by
    obtain ⟨sid2, so, lid, lo, ver, hxx, hN, hso, _⟩ := hm
    rw [hx] at hxx
    cases hxx
    exact hw.lt hso
  have hc1' : ((μ.bump 7).set (μ.next + 5) (rowObj [.int .i64 (n : Int), .nilSlice] 2 50 (some 1))).cell p 0 (0 + 1) = some L := by
    simp only [AMem.cell] at hc1 ⊢
    rw [set_obj, if_neg (by omega)]
    exact hc1
  subst hx
  refine ⟨μ.next + 5, rs', m', ?_, k2, ⟨wss, hq.mp hne, ⟨hl1, hl100, hl2, hl3⟩, h0⟩⟩
  rw [bitmap_Map_Clone_eq]
  simp -implicitDefEqProofs only [bump_cell, hc0, hc1', hLl, e1, Option.bind_some, decide_true, decide_false, cond_true, cond_false, seqJ_n, seqJ_r, seqJ_e, headK_c, asB_bool, asI_int, asS_s, asN_int, extrK_0, extrK_1, extrK_2, Bool.not_true, Bool.not_false, Nat.beq_refl]
end Go.Proofs.Ytepdjffnjfdklaa
/- The example of the document holds. -/
namespace Go.Proofs.Ytepdjffnjfdklaa
open Go Go.Proofs.Ytepdjffnjfdklaa.E
set_option linter.unusedVariables false
set_option linter.unusedSimpArgs false
theorem wakes_is (μ : AMem) (hw : WF μ) : ∃ μ', overdublaw11_wakes [] μ = some (.s (.bool true), μ') := by
  obtain ⟨x, rs, ws, m1, e1, k1, t1, u1⟩ := mapNew_w hw (n := 3) (by omega) (by omega)
  rw [show ((3 : Nat) : Int) = 3 from rfl] at e1
  obtain ⟨m2, e2, k2, t2⟩ := (mapTake_is k1.wf t1 (by omega)).2 0 (by omega) (u1 0 (by omega)) (fun j hj => by omega)
  have u2 := U_setW t1 (i := 0) (by omega) true
  obtain ⟨m3, e3, k3, t3⟩ := (mapTake_is k2.wf t2 (by omega)).2 1 (by omega) (by rw [u2, if_neg (by omega)]; exact u1 1 (by omega)) (fun j hj => by rw [u2, if_pos (by omega)])
  have u3 := U_setW t2 (i := 1) (by omega) true
  have e4 := mapCount_is t3 (by omega)
  have hc : cntF (U (setWd (setWd ws 0 true) 1 true)) 3 = 2 := by
    simp only [cntF, u3, u2, u1 2 (by omega)]
    simp
  rw [hc] at e4
  rw [n0] at e2
  rw [show ((1 : Nat) : Int) = 1 from rfl] at e3
  rw [overdublaw11_wakes_eq]
  simp -implicitDefEqProofs only [e1, t1.nn, e2, e3, e4, eq_t (rfl : (0 : Int) = 0), eq_t (rfl : (1 : Int) = 1), eq_t (rfl : (2 : Int) = 2), Option.bind_some, decide_true, decide_false, cond_true, cond_false, seqJ_n, seqJ_r, seqJ_e, headK_c, asB_bool, asI_int, asS_s, asN_int, extrK_0, extrK_1, extrK_2, Bool.not_true, Bool.not_false, Nat.beq_refl]
  exact ⟨_, rfl⟩
end Go.Proofs.Ytepdjffnjfdklaa
