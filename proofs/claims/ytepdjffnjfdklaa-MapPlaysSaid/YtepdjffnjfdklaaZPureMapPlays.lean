/- The plain answer of MapPlays. -/
import Derived.Test.YtepdjffnjfdklaaZkb
/- The plain answer of MapPlays. -/
namespace Go.Proofs.Ytepdjffnjfdklaa
open Go Go.Proofs.Ytepdjffnjfdklaa.E
set_option linter.unusedVariables false
set_option linter.unusedSimpArgs false
theorem mapNew_no {μ : AMem} {q : Int} (h : q < 1 ∨ q > 4096) : bitmap_New [.s (.int .i64 q)] μ = some (.tuple [.s .nilPtr, .s (.int .i64 1)], μ) := by
  rw [bitmap_New_eq]
  by_cases h1 : q < 1
  · simp -implicitDefEqProofs only [lt_t h1, Option.bind_some, decide_true, decide_false, cond_true, cond_false, seqJ_n, seqJ_r, seqJ_e, headK_c, asB_bool, asI_int, asS_s, asN_int, extrK_0, extrK_1, extrK_2, Bool.not_true, Bool.not_false, Nat.beq_refl]
  · simp -implicitDefEqProofs only [lt_f (show 1 ≤ q by omega), gt_t (show 4096 < q by omega), Option.bind_some, decide_true, decide_false, cond_true, cond_false, seqJ_n, seqJ_r, seqJ_e, headK_c, asB_bool, asI_int, asS_s, asN_int, extrK_0, extrK_1, extrK_2, Bool.not_true, Bool.not_false, Nat.beq_refl]
theorem Mw.less {N M : Nat} {m : AMem} {x : SV} {n : Nat} {rs : List SV} {ws : List Int} (h : Mw N m x n rs ws) (hM : M ≤ N) : Mw M m x n rs ws := by
  obtain ⟨wss, hm, hl, h0⟩ := h.ex
  obtain ⟨sid, so, lid, lo, ver, hx, hN, hso, hsv, hsc, hN2, hlo, hlv, hlc, hlen, hr, hap⟩ := hm
  refine ⟨wss, ⟨sid, so, lid, lo, ver, hx, by omega, hso, hsv, hsc, by omega, hlo, hlv, hlc, hlen, fun k r ws hr1 hw1 => ?_, hap⟩, hl, h0⟩
  obtain ⟨⟨e, h1⟩, h2⟩ := hr k r ws hr1 hw1
  exact ⟨⟨e, h1.less hM⟩, h2⟩
/-- A row that came later is apart from all of a map. -/
theorem Ap.fresh {N : Nat} {m m' : AMem} (hw : WF m) {p n : Nat} {c : SV} {rs : List SV} {ws : List Int} {bs : List Bool} (h : Mw N m (.ptr p 0 0) n rs ws) (hs : Same m m') (hb : OwnB m.next m' c bs) : Ap m' p c rs := by
  obtain ⟨wss, hm, hl, h0⟩ := h.ex
  have hfeet : ∀ j, feet rs j → ¬ isId c j := fun j hj hc => by
    obtain ⟨_, o, ho⟩ := hm.ids hj
    have := hw.lt ho
    have := (hb.lives hc).1
    omega
  obtain ⟨sid, so, lid, lo, ver, hx, hN, hso, hsv, hsc, hN2, hlo, hlv, hlc, hlen, hr, hap⟩ := hm
  cases hx
  have h1 := hw.lt hso
  have h2 := hw.lt hlo
  have hso' := hs.old _ _ hso fun h => h
  refine ⟨⟨.slice lid ver 0 rs.length, ?_, fun j hj hc => ?_⟩, fun hc => ?_, hfeet⟩
  · simp only [AMem.cell, hso', Option.bind_some, hsv, if_true, hsc]; rfl
  · have : lid = j := hj
    have := (hb.lives hc).1
    omega
  · have := (hb.lives hc).1
    omega
theorem pureMapPlays (a0 : Int) (w0 : (Lit.int .i64 a0).wf = true) (x1 : Arg) (z1 : List Int) (u1 : Nat) (s1 : Arg.isRecs .i64 z1 u1 x1) (q1 : z1.length = u1 * 3) (w1 : ∀ n ∈ z1, (Lit.int .i64 n).wf = true) (x2 : Arg) (z2 : List Int) (u2 : Nat) (s2 : Arg.isRecs .i64 z2 u2 x2) (q2 : z2.length = u2 * 3) (w2 : ∀ n ∈ z2, (Lit.int .i64 n).wf = true) :
    ∃ μ', overdublaw11_MapPlays (argVals 0 [.i .i64 a0, x1, x2]) (argMem [.i .i64 a0, x1, x2]) = some (.s (.bool true), μ') := by
  obtain ⟨A, hA, ha⟩ := IsRecs.arg (m := 3) (l := [.i .i64 a0, x1, x2]) (j := 1) s1 q1 rfl
  obtain ⟨B, hB, hb⟩ := IsRecs.arg (m := 3) (l := [.i .i64 a0, x1, x2]) (j := 2) s2 q2 rfl
  have hw := WF.args [.i .i64 a0, x1, x2]
  show ∃ μ', overdublaw11_MapPlays [.s (.int .i64 a0), x1.val 1, x2.val 2] _ = _
  rw [hA, hB]
  generalize argMem [.i .i64 a0, x1, x2] = μ at *
  have key : ∀ q : Int, (q = a0 % 300 ∧ a0 > 300 ∧ a0 ≤ 4096) ∨ (q = a0 ∧ a0 > 300 ∧ ¬ a0 ≤ 4096) ∨ (q = a0 ∧ ¬ a0 > 300) → ∃ μ', overdublaw11_MapPlays [.s (.int .i64 a0), .s A, .s B] μ = some (.s (.bool true), μ') := by
    intro q hq
    have e0 := within_is a0 300 (wf64 w0) (by omega) (by omega) μ
    by_cases hbad : q < 1 ∨ q > 4096
    · have e1 := mapNew_no (μ := μ) hbad
      have e2 := (refNewMap_is hw q).1 hbad
      obtain ⟨m, e3⟩ := wakes_is μ hw
      have en : isNil (.s .nilPtr) = some true := rfl
      refine ⟨m, ?_⟩
      rw [overdublaw11_MapPlays_eq]
      rcases hq with ⟨rfl, h2, h3⟩ | ⟨rfl, h2, h3⟩ | ⟨rfl, h2⟩
      · simp -implicitDefEqProofs only [gt_t h2, le_t h3, e0, e1, e2, BEq.rfl, en, e3, Option.bind_some, decide_true, decide_false, cond_true, cond_false, seqJ_n, seqJ_r, seqJ_e, headK_c, asB_bool, asI_int, asS_s, asN_int, extrK_0, extrK_1, extrK_2, Bool.not_true, Bool.not_false, Nat.beq_refl]
      · simp -implicitDefEqProofs only [gt_t h2, decide_eq_false h3, e1, e2, BEq.rfl, en, e3, Option.bind_some, decide_true, decide_false, cond_true, cond_false, seqJ_n, seqJ_r, seqJ_e, headK_c, asB_bool, asI_int, asS_s, asN_int, extrK_0, extrK_1, extrK_2, Bool.not_true, Bool.not_false, Nat.beq_refl]
      · simp -implicitDefEqProofs only [decide_eq_false h2, e1, e2, BEq.rfl, en, e3, Option.bind_some, decide_true, decide_false, cond_true, cond_false, seqJ_n, seqJ_r, seqJ_e, headK_c, asB_bool, asI_int, asS_s, asN_int, extrK_0, extrK_1, extrK_2, Bool.not_true, Bool.not_false, Nat.beq_refl]
    · obtain ⟨n, hn⟩ : ∃ n : Nat, q = n := ⟨q.toNat, by omega⟩
      subst hn
      obtain ⟨x, rs, ws, m1, e1, k1, hm1, hfree, htail⟩ := mapNew_t hw (n := n) (by omega) (by omega)
      obtain ⟨p, rfl⟩ := hm1.isPtr
      obtain ⟨c, m2, e2, k2, ob2⟩ := (refNewMap_is k1.wf (n : Int)).2 n rfl (by omega) (by omega)
      have hn1 := k1.next
      have al2 : Al μ.next m2 p c n rs ws (List.replicate n false) := ⟨hm1.same k2, ob2.less hn1, by simp, by omega, fun j hj => by
        rw [hfree j hj]
        unfold Vb
        rw [List.getD_eq_getElem?_getD, List.getElem?_replicate, if_pos hj]; rfl, htail⟩
      have ap2 : Ap m2 p c rs := Ap.fresh k1.wf hm1 k2 ob2
      obtain ⟨m3, e3, k3⟩ := same_map k2.wf al2 0 (s3 := 1) (by omega)
      rw [show ((1 : Nat) : Int) = 1 from rfl] at e3
      have k13 := (k1.trans k2).trans k3
      obtain ⟨m4, ws4, bs4, e4, k4, al4, ap4⟩ := play_map hw ha w1 k13 (al2.same k3) (ap2.same al2.m k3)
      have hs4 : Same μ m4 := keepSame hw k13 k4 fun j hj => hj.elim (fun h => al2.m.ids h) fun h => (al2.b.lives h).1
      obtain ⟨p2, rs5, m5, e5, k5, hm5⟩ := mapClone_is hs4.wf al4.m (by omega)
      have hbl := al4.len
      obtain ⟨c6, m6, e6, k6, ob6, _⟩ := (al4.b.same k5).copy k5.wf (b := 1) (n := 3) (by omega) (by omega)
      have hn4 := hs4.next
      have hn5 := k5.next
      have al6 : Al μ.next m6 p2 c6 n rs5 ws4 bs4 := ⟨(hm5.same k6).less hn4, ob6.less (by omega), hbl, al4.one, al4.all, al4.tail⟩
      have ap6 : Ap m6 p2 c6 rs5 := Ap.fresh k5.wf hm5 k6 ob6
      have k46 := k5.trans k6
      have hs6 := hs4.trans k46
      obtain ⟨m7, ws7, bs7, e7, k7, _, _⟩ := play_map hw hb w2 hs6 al6 ap6
      have hs47 : Same m4 m7 := keepSame hs4.wf k46 k7 fun j hj => hj.elim (fun h => hm5.ids h) fun h => by have := (ob6.lives h).1; omega
      obtain ⟨m8, e8, k8⟩ := same_map hs47.wf (al4.same hs47) 3 (s3 := 2) (by omega)
      rw [show ((2 : Nat) : Int) = 2 from rfl] at e8
      obtain ⟨m9, e9⟩ := wakes_is m8 k8.wf
      have en1 : isNil (.s (.ptr p 0 0)) = some false := rfl
      have en2 : isNil (.s (.ptr p2 0 0)) = some false := rfl
      refine ⟨m9, ?_⟩
      rw [overdublaw11_MapPlays_eq]
      rcases hq with ⟨h5, h2, h3⟩ | ⟨h5, h2, h3⟩ | ⟨h5, h2⟩
      · rw [← h5] at e0
        simp -implicitDefEqProofs only [gt_t h2, le_t h3, e0, e1, e2, ne_f (rfl : (0 : Int) = 0), en1, e3, e4, e5, e6, en2, e7, e8, e9, Option.bind_some, decide_true, decide_false, cond_true, cond_false, seqJ_n, seqJ_r, seqJ_e, headK_c, asB_bool, asI_int, asS_s, asN_int, extrK_0, extrK_1, extrK_2, Bool.not_true, Bool.not_false, Nat.beq_refl]
      · subst h5
        simp -implicitDefEqProofs only [gt_t h2, decide_eq_false h3, e1, e2, ne_f (rfl : (0 : Int) = 0), en1, e3, e4, e5, e6, en2, e7, e8, e9, Option.bind_some, decide_true, decide_false, cond_true, cond_false, seqJ_n, seqJ_r, seqJ_e, headK_c, asB_bool, asI_int, asS_s, asN_int, extrK_0, extrK_1, extrK_2, Bool.not_true, Bool.not_false, Nat.beq_refl]
      · subst h5
        simp -implicitDefEqProofs only [decide_eq_false h2, e1, e2, ne_f (rfl : (0 : Int) = 0), en1, e3, e4, e5, e6, en2, e7, e8, e9, Option.bind_some, decide_true, decide_false, cond_true, cond_false, seqJ_n, seqJ_r, seqJ_e, headK_c, asB_bool, asI_int, asS_s, asN_int, extrK_0, extrK_1, extrK_2, Bool.not_true, Bool.not_false, Nat.beq_refl]
  by_cases h1 : a0 > 300
  · by_cases h2 : a0 ≤ 4096
    · exact key (a0 % 300) (.inl ⟨rfl, h1, h2⟩)
    · exact key a0 (.inr (.inl ⟨rfl, h1, h2⟩))
  · exact key a0 (.inr (.inr ⟨rfl, h1⟩))
end Go.Proofs.Ytepdjffnjfdklaa
