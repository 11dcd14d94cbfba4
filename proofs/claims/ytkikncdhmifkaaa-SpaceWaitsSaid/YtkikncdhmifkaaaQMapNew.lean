/- A new map. -/
import Derived.Test.YtkikncdhmifkaaaQMap2
namespace Go.Proofs.Ytkikncdhmifkaaa
open Go Go.Proofs.Ytkikncdhmifkaaa.E
set_option linter.unusedVariables false
set_option linter.unusedSimpArgs false
/-- A level of so many digits: ones behind the last one. -/
def onesW (k : Nat) : List Int := if k % 64 = 0 then List.replicate ((k + 63) / 64) 0 else (List.replicate ((k + 63) / 64) 0).set ((k + 63) / 64 - 1) (IntKind.wrap .u64 (18446744073709551615 * 2 ^ (k % 64)))
theorem ones_len (k : Nat) : (onesW k).length = (k + 63) / 64 := by unfold onesW; split <;> simp
theorem top_bit : ∀ r j : Fin 64, bitV (IntKind.wrap .u64 (18446744073709551615 * 2 ^ r.val)) j.val = decide (r.val ≤ j.val) := by decide +kernel
theorem top_ok : ∀ r : Fin 64, w64ok (IntKind.wrap .u64 (18446744073709551615 * 2 ^ r.val)) := by unfold w64ok; decide +kernel
theorem ones_ok (k : Nat) : ∀ w ∈ onesW k, w64ok w := by
  intro w hw
  unfold onesW at hw
  split at hw
  · rw [List.eq_of_mem_replicate hw]; unfold w64ok; omega
  · rcases List.mem_or_eq_of_mem_set hw with h1 | h1
    · rw [List.eq_of_mem_replicate h1]; unfold w64ok; omega
    · rw [h1]; exact top_ok ⟨k % 64, by omega⟩
theorem rep_getD (n j : Nat) : (List.replicate n (0 : Int)).getD j 0 = 0 := by
  rw [List.getD_eq_getElem?_getD, List.getElem?_replicate]; split <;> rfl
theorem U_ones {k j : Nat} (hj : j < 64 * ((k + 63) / 64)) : U (onesW k) j = decide (k ≤ j) := by
  unfold U onesW
  by_cases h : k % 64 = 0
  · rw [if_pos h, rep_getD, zero_bit, decide_eq_false (by omega)]
  · rw [if_neg h, getD_setW (by simp; omega)]
    by_cases hc : j / 64 = (k + 63) / 64 - 1
    · rw [if_pos hc]
      have := top_bit ⟨k % 64, by omega⟩ ⟨j % 64, by omega⟩
      simp only at this
      rw [this]
      by_cases hh : k ≤ j
      · rw [decide_eq_true hh, decide_eq_true (by omega)]
      · rw [decide_eq_false hh, decide_eq_false (by omega)]
    · rw [if_neg hc, rep_getD, zero_bit, decide_eq_false (by omega)]
theorem ones_is {μ : AMem} (hw : WF μ) {k : Nat} (h1 : 1 ≤ k) (h2 : k ≤ 5000) : ∃ y μ', bitmap_ones [.s (.int .i64 k)] μ = some (.s y, μ') ∧ Same μ μ' ∧ OwnRow μ.next μ' .u64 78 y (onesW k) ∧ μ'.next = μ.next + 6 ∧ ∀ j, isId y j → j = μ.next + 4 := by
  obtain ⟨L, hL⟩ : ∃ L, L = (k + 63) / 64 := ⟨_, rfl⟩
  have e1 : IntKind.wrap .i64 (Int.tdiv (IntKind.wrap .i64 ((IntKind.wrap .i64 ((k : Int) + 64)) - 1)) 64) = (L : Int) := by
    rw [wr (n := (k : Int) + 64) (by omega), wr (n := (k : Int) + 64 - 1) (by omega), Int.tdiv_eq_ediv_of_nonneg (by omega), wr (by omega)]; omega
  have e2 : Int.tmod (k : Int) 64 = ((k % 64 : Nat) : Int) := by rw [Int.tmod_eq_emod_of_nonneg (by omega)]; omega
  have e3 : IntKind.wrap .i64 ((L : Int) - 1) = ((L - 1 : Nat) : Int) := by rw [wr (by omega)]; omega
  have e4 : min (k % 64) (IntKind.bits .u64) = k % 64 := by show min _ 64 = _; omega
  have hs := newS (Keep.refl (S := fun _ => False) hw) (n := 6) (a := 4) (by omega) (rowObj (zerosA [.int .u64 0] L) 1 78 (some L))
  have ho : OwnRow μ.next ((μ.bump 6).set (μ.next + 4) (rowObj (zerosA [.int .u64 0] L) 1 78 (some L))) .u64 78 (.slice (μ.next + 4) 0 0 L) (List.replicate L 0) :=
    OwnRow.new (o := rowObj (zerosA [.int .u64 0] L) 1 78 (some L)) (by simp) (by omega) (by simp) rfl rfl rfl rfl (by show zerosA _ L = _; rw [zerosA_rep]; simp)
  rw [bitmap_ones_eq]
  simp only [e1, e2, e3, nat_toNat, e4]
  rw [if_pos ⟨by omega, by omega, by omega, by omega⟩]
  by_cases h : k % 64 = 0
  · refine ⟨.slice (μ.next + 4) 0 0 L, _, ?_, hs, ?_, rfl, fun j hj => (show μ.next + 4 = j from hj).symm⟩
    · rw [ne_f (show ((k % 64 : Nat) : Int) = 0 by omega)]
      simp -implicitDefEqProofs only [Option.bind_some, decide_true, decide_false, cond_true, cond_false, seqJ_n, seqJ_r, seqJ_e, headK_c, asB_bool, asI_int, asS_s, asN_int, extrK_0, extrK_1, extrK_2, Bool.not_true, Bool.not_false, Nat.beq_refl]
    · unfold onesW
      rw [if_pos h, ← hL]; exact ho
  · obtain ⟨m1, s1, s2, s3, s4⟩ := storeK hs.wf ho (i := L - 1) (by simp; omega) (IntKind.wrap .u64 (18446744073709551615 * 2 ^ (k % 64)))
    refine ⟨.slice (μ.next + 4) 0 0 L, m1, ?_, keepSame hw hs s2 fun j hj => ?_, ?_, by rw [s4]; rfl, fun j hj => (show μ.next + 4 = j from hj).symm⟩
    · have s1' := fun {R : Type} (K : AMem → Option R) => s1 K
      simp only [storeAt, plc, AV.cells, List.length_singleton, if_true, nat_toNat] at s1'
      rw [ne_t (show ¬ ((k % 64 : Nat) : Int) = 0 by omega), if_neg (show ¬ ((k % 64 : Nat) : Int) < 0 by omega), if_pos (show (0 : Int) ≤ ((L - 1 : Nat) : Int) ∧ ((L - 1 : Nat) : Int) < ((L : Nat) : Int) by omega), s1']
      simp -implicitDefEqProofs only [Option.bind_some, decide_true, decide_false, cond_true, cond_false, seqJ_n, seqJ_r, seqJ_e, headK_c, asB_bool, asI_int, asS_s, asN_int, extrK_0, extrK_1, extrK_2, Bool.not_true, Bool.not_false, Nat.beq_refl]
    · have : μ.next + 4 = j := hj
      omega
    · unfold onesW
      rw [if_neg h, ← hL]; exact s3
/-- A row of any values of the call's own. -/
def OwnV (N : Nat) (μ : AMem) (e : TypeId) (x : SV) (rs : List SV) : Prop :=
  (x = .nilSlice ∧ rs = []) ∨ ∃ id ver o, x = .slice id ver 0 rs.length ∧ N ≤ id ∧ μ.obj id = some o ∧ o.own = true ∧ o.ver = ver ∧ o.size = 1 ∧ o.elem = e ∧ ∀ (i : Nat) r, rs[i]? = some r → o.cells[i]? = some r
theorem cells_lenV {rs cs : List SV} (hc : ∀ (i : Nat) n, rs[i]? = some n → cs[i]? = some n) : rs.length ≤ cs.length := by
  rcases Nat.eq_zero_or_pos rs.length with h0 | h0
  · omega
  · have := (List.getElem?_eq_some_iff.mp (hc (rs.length - 1) _ (List.getElem?_eq_getElem (by omega)))).1
    omega
theorem OwnV.len {N : Nat} {μ : AMem} {e : TypeId} {x : SV} {rs : List SV} (h : OwnV N μ e x rs) : lenS (.s x) = some rs.length := by
  rcases h with ⟨rfl, rfl⟩ | ⟨id, ver, o, rfl, _⟩ <;> rfl
theorem OwnV.keep {N : Nat} {μ μ' : AMem} {e : TypeId} {x : SV} {rs : List SV} (h : OwnV N μ e x rs) (hk : ∀ id o, μ.obj id = some o → isId x id → μ'.obj id = some o) : OwnV N μ' e x rs := by
  rcases h with ⟨rfl, rfl⟩ | ⟨id, ver, o, rfl, hN, ho, r⟩
  · exact .inl ⟨rfl, rfl⟩
  · exact .inr ⟨id, ver, o, rfl, hN, hk id o ho rfl, r⟩
theorem OwnV.lives {N : Nat} {μ : AMem} {e : TypeId} {x : SV} {rs : List SV} (h : OwnV N μ e x rs) {id : Nat} (hi : isId x id) : N ≤ id ∧ ∃ o, μ.obj id = some o := by
  rcases h with ⟨rfl, _⟩ | ⟨j, ver, o, rfl, hN, ho, _⟩
  · exact hi.elim
  · have : j = id := hi
    subst this
    exact ⟨hN, o, ho⟩
theorem OwnV.push {N : Nat} {μ : AMem} (hw : WF μ) {e : TypeId} {x : SV} {rs : List SV} (h : OwnV N μ e x rs) {y : SV} {B lit nid : Nat} (hl : rs.length ≤ 1000) (hB : B ≤ 1000) (hN : N ≤ nid) (hlt : nid < μ.next) (hf : μ.obj nid = none) {q : Option Nat} (hlit : μ.obj lit = some (rowObj [y] 1 e q)) :
    ∃ x' μ', (∀ {R : Type} (K : AV → AMem → Option R), appendA e 1 B nid μ (.s x) (.s (.slice lit 0 0 1)) K = K (.s x') μ') ∧ OwnV N μ' e x' (rs ++ [y]) ∧ WF μ' ∧ μ'.next = μ.next ∧
      ((∀ id o, μ.obj id = some o → ¬ isId x id → μ'.obj id = some o) ∧ (∀ id, id ≠ nid → μ.obj id = none → μ'.obj id = none)) ∧ (∀ id, isId x' id → isId x id ∨ id = nid) := by
  have hrow : μ.row 1 1 (.s (.slice lit 0 0 1)) = some [y] := by
    simp only [AMem.row, hlit, Option.bind_some]
    rfl
  have hb : (rs.length + 1) * B ≤ 140737488355328 := by
    have : (rs.length + 1) * B ≤ 1001 * 1000 := Nat.mul_le_mul (by omega) hB
    omega
  have hlen : lenS (.s (.slice lit 0 0 1)) = some 1 := rfl
  rcases h with ⟨rfl, rfl⟩ | ⟨id, ver, o, rfl, hN', ho, how, hv, hs, he, hc⟩
  · refine ⟨.slice nid 0 0 1, μ.set nid (rowObj [y] 1 e none), fun K => ?_, ?_, hw.set hlt, rfl, ⟨fun id o ho _ => ?_, fun id hne hn => by simp [hne, hn]⟩, fun id h => .inr (show nid = id from h).symm⟩
    · simp only [appendA, hlen, Option.bind_some, hrow, appendS]
      rw [if_pos ⟨by simpa using hb, by omega⟩, if_neg (by omega)]
    · exact .inr ⟨nid, 0, rowObj [y] 1 e none, rfl, hN, by simp, rfl, rfl, rfl, rfl, fun i r hi => hi⟩
    · have : id ≠ nid := fun e => by subst e; rw [hf] at ho; cases ho
      simp [this, ho]
  · have hcl := cells_lenV hc
    refine ⟨.slice id (ver + 1) 0 (rs.length + 1), μ.set id (newVer o (o.cells.take rs.length ++ [y])), fun K => ?_, ?_, hw.set (hw.lt ho), rfl, ⟨fun id' o' ho' hne => ?_, fun id' hne' hn => ?_⟩, fun id' h => .inl h⟩
    · simp only [appendA, hlen, Option.bind_some, hrow, appendS, ho, how, hv, hs, he, Nat.mul_one]
      rw [if_pos ⟨trivial, trivial, trivial, trivial, hcl, hb, by omega⟩, if_neg (by omega)]
    · refine .inr ⟨id, ver + 1, newVer o (o.cells.take rs.length ++ [y]), by simp, hN', by simp, how, by simp [newVer, hv], hs, he, fun i n hi => ?_⟩
      show (o.cells.take rs.length ++ [y])[i]? = _
      have htl : (o.cells.take rs.length).length = rs.length := by simp [Nat.min_eq_left hcl]
      rw [List.getElem?_append] at hi ⊢
      rw [htl]
      split at hi
      · rename_i hlt'
        rw [if_pos hlt', List.getElem?_take, if_pos hlt']; exact hc i n hi
      · rename_i hlt'
        rw [if_neg hlt']; exact hi
    · have : id' ≠ id := fun e => hne e.symm
      simp [this, ho']
    · have : id' ≠ id := fun e => by rw [e, ho] at hn; cases hn
      simp [this, hn]
/-- A map that is being made. -/
def Mq (N : Nat) (μ : AMem) (sid n : Nat) (X : SV) (rs : List SV) (wss : List (List Int)) : Prop :=
  N ≤ sid ∧ (∃ so, μ.obj sid = some so ∧ so.own = true ∧ so.ver = 0 ∧ so.cells = [.int .i64 n, X]) ∧ OwnV N μ 79 X rs ∧ ¬ isId X sid ∧ rs.length = wss.length ∧
    (∀ (k : Nat) r ws, rs[k]? = some r → wss[k]? = some ws → (∃ e, OwnRow N μ .u64 e r ws) ∧ (∀ w ∈ ws, w64ok w) ∧ ¬ isId r sid ∧ Apart r X) ∧
    (∀ (i j : Nat) r r', i ≠ j → rs[i]? = some r → rs[j]? = some r' → Apart r r')
theorem Mq.mp {N : Nat} {μ : AMem} {sid n : Nat} {X : SV} {rs : List SV} {wss : List (List Int)} (h : Mq N μ sid n X rs wss) (hne : rs ≠ []) : Mp N μ (.ptr sid 0 0) n rs wss := by
  obtain ⟨h1, ⟨so, h2, h3, h4, h5⟩, h6, h7, h8, h9, h10⟩ := h
  rcases h6 with ⟨_, e⟩ | ⟨id, ver, o, rfl, g1, g2, g3, g4, g5, g6, g7⟩
  · exact absurd e hne
  · refine ⟨sid, so, id, o, ver, rfl, h1, h2, h4, h5, g1, g2, g4, g7, h8, fun k r ws hr hws => ?_, h10⟩
    obtain ⟨q1, q2, q3, q4⟩ := h9 k r ws hr hws
    exact ⟨q1, q2, q3, fun h => q4 id h rfl⟩
theorem new_body {N : Nat} {μ : AMem} (hw : WF μ) (hN : N ≤ μ.next) {sid n : Nat} {X : SV} {rs : List SV} {wss : List (List Int)} (h : Mq N μ sid n X rs wss) {k : Nat} (h1 : 1 ≤ k) (h2 : k ≤ 5000) (hr : rs.length ≤ 10) :
    ∃ X' y μ', Mq N μ' sid n X' (rs ++ [y]) (wss ++ [onesW k]) ∧ Keep (fun j => N ≤ j) μ μ' ∧
      bitmap_New_L1_B [.s (.ptr sid 0 0)] [.s (.int .i64 k)] μ = if k ≤ 64 then some (.ret, [.s (.ptr sid 0 0), .s (.int .i64 0)], μ') else some (.normal, [.s (.int .i64 ((k + 63) / 64 : Nat))], μ') := by
  obtain ⟨g1, ⟨so, g2, g3, g4, g5⟩, g6, g7, g8, g9, g10⟩ := h
  have hsl := hw.lt g2
  have hs1 : Same μ (μ.bump 12) := Keep.bump hw 12
  obtain ⟨y, m2, o1, o2, o3, o4, o5⟩ := ones_is hs1.wf h1 h2
  simp only [bump_next] at o3 o4 o5
  have hs2 : Same μ m2 := hs1.trans o2
  have hso2 : m2.obj sid = some so := hs2.old _ _ g2 fun h => h
  have hfree : ∀ j, j < 12 → m2.obj (μ.next + j) = none := fun j hj => freshS hw hj o2
  have hlt3 : μ.next + 7 < m2.next := by omega
  obtain ⟨m3, hm3⟩ : ∃ m3, m3 = m2.set (μ.next + 7) (rowObj [y] 1 79 (some 1)) := ⟨_, rfl⟩
  have hs3 : Same μ m3 := by rw [hm3]; exact Keep.setS hw hs2 (by omega) hlt3
  have hk3 : ∀ id o, m2.obj id = some o → m3.obj id = some o := fun id o ho => by
    have : id ≠ μ.next + 7 := fun e => by rw [e, hfree 7 (by omega)] at ho; cases ho
    rw [hm3, set_obj, if_neg this]; exact ho
  have hX3 : OwnV N m3 79 X rs := g6.keep fun id o ho _ => hs3.old id o ho fun h => h
  obtain ⟨X', m4, a1, a2, a3, a4, a5, a6⟩ := hX3.push hs3.wf (y := y) (B := 24) (lit := μ.next + 7) (nid := μ.next + 8) (by omega) (by omega) (by omega) (by rw [hm3, set_next]; omega) (by rw [hm3, set_obj, if_neg (by omega)]; exact hfree 8 (by omega)) (q := some 1) (by rw [hm3]; simp)
  have hso4 : m4.obj sid = some so := a5.1 _ _ (hk3 _ _ hso2) g7
  obtain ⟨m5, hm5⟩ : ∃ m5, m5 = m4.set sid { so with cells := [.int .i64 n, X'] } := ⟨_, rfl⟩
  have hst : m4.store sid 0 (0 + 1) [X'] = some m5 := by
    simp only [AMem.store, hso4, Option.bind_some]
    rw [if_pos ⟨g3, g4, by rw [g5]; simp⟩, hm5, g5]; rfl
  have hX'sid : ¬ isId X' sid := fun h => by
    rcases a6 sid h with h3 | h3
    · exact g7 h3
    · omega
  have hX'l : ∀ id, isId X' id → ∃ o, m4.obj id = some o := fun id hi => (a2.lives hi).2
  have hk5 : ∀ id o, m4.obj id = some o → id ≠ sid → m5.obj id = some o := fun id o ho hne => by rw [hm5, set_obj, if_neg hne]; exact ho
  have hX5 : OwnV N m5 79 X' (rs ++ [y]) := a2.keep fun id o ho hi => hk5 id o ho fun e => hX'sid (e ▸ hi)
  have hysid : ¬ isId y sid := fun h => by have := o5 _ h; omega
  have hyX : Apart y X := fun id hi hx => by
    have := o5 _ hi
    obtain ⟨_, o, ho⟩ := g6.lives hx
    have := hw.lt ho
    omega
  have hyX' : Apart y X' := fun id hi hx => by
    rcases a6 id hx with h3 | h3
    · exact hyX id hi h3
    · have := o5 _ hi; omega
  have hy5 : OwnRow N m5 .u64 78 y (onesW k) := ((o3.less (M := N) (by omega)).old fun id o ho hi => hk5 id o (a5.1 id o (hk3 id o ho) (hyX id hi)) fun e => hysid (e ▸ hi))
  have hlenr : (rs ++ [y]).length = rs.length + 1 := by simp
  have hkeep : Keep (fun j => N ≤ j) μ m5 := by
    have hw5 : WF m5 := by rw [hm5]; exact a3.set (a3.lt hso4)
    have hn5 : m5.next = m2.next := by rw [hm5, set_next, a4, hm3, set_next]
    refine ⟨hw5, by omega, fun id o ho hns => ?_, fun id hi hno => ?_⟩
    · refine hk5 id o (a5.1 id o (hs3.old id o ho fun h => h) fun hx => hns ((g6.lives hx).1)) fun e => hns (e ▸ g1)
    · have h3 : m3.obj id = none := hs3.low id hi hno
      have h4 : m4.obj id = none := a5.2 id (by omega) h3
      have : id ≠ sid := fun e => by rw [e, hso4] at h4; cases h4
      rw [hm5, set_obj, if_neg this]; exact h4
  refine ⟨X', y, m5, ⟨g1, ⟨{ so with cells := [.int .i64 n, X'] }, by rw [hm5]; simp, g3, g4, rfl⟩, hX5, hX'sid, by simp; exact g8, fun j r ws hj hws => ?_, fun i j r r' hij hi hj => ?_⟩, hkeep, ?_⟩
  · rw [List.getElem?_append] at hj hws
    by_cases hjl : j < rs.length
    · rw [if_pos hjl] at hj
      rw [if_pos (by omega)] at hws
      obtain ⟨⟨e, q1⟩, q2, q3, q4⟩ := g9 j r ws hj hws
      refine ⟨⟨e, q1.old fun id o ho hi => hk5 id o (a5.1 id o (hs3.old id o ho fun h => h) (q4 id hi)) fun e => q3 (e ▸ hi)⟩, q2, q3, fun id hi hx => ?_⟩
      rcases a6 id hx with h3 | h3
      · exact q4 id hi h3
      · obtain ⟨_, o, ho⟩ := own_lives q1 hi
        have := hw.lt ho
        omega
    · rw [if_neg hjl] at hj
      rw [if_neg (by omega)] at hws
      have hj0 : j - rs.length = 0 := by have := (List.getElem?_eq_some_iff.mp hj).1; simp at this; omega
      have hw0 : j - wss.length = 0 := by omega
      rw [hj0] at hj
      rw [hw0] at hws
      cases hj
      cases hws
      exact ⟨⟨78, hy5⟩, ones_ok k, hysid, hyX'⟩
  · have hyr : ∀ (j : Nat) r, rs[j]? = some r → Apart y r := fun j r hj id hi hx => by
      have hjl := (List.getElem?_eq_some_iff.mp hj).1
      obtain ⟨⟨e, q1⟩, _⟩ := g9 j r _ hj (List.getElem?_eq_getElem (by omega))
      obtain ⟨_, o, ho⟩ := own_lives q1 hx
      have := hw.lt ho
      have := o5 _ hi
      omega
    have hlast : ∀ (j : Nat) r, ¬ j < rs.length → (rs ++ [y])[j]? = some r → j = rs.length ∧ r = y := fun j r hjl hj => by
      rw [List.getElem?_append, if_neg hjl] at hj
      have hj0 : j - rs.length = 0 := by have := (List.getElem?_eq_some_iff.mp hj).1; simp at this; omega
      rw [hj0] at hj
      cases hj
      exact ⟨by omega, rfl⟩
    by_cases hi1 : i < rs.length
    · have hi2 := hi
      rw [List.getElem?_append, if_pos hi1] at hi2
      by_cases hj1 : j < rs.length
      · rw [List.getElem?_append, if_pos hj1] at hj
        exact g10 i j r r' hij hi2 hj
      · obtain ⟨_, rfl⟩ := hlast j r' hj1 hj
        exact (hyr i r hi2).symm
    · obtain ⟨hi3, rfl⟩ := hlast i r hi1 hi
      by_cases hj1 : j < rs.length
      · rw [List.getElem?_append, if_pos hj1] at hj
        exact hyr j r' hj
      · obtain ⟨hj3, _⟩ := hlast j r' hj1 hj
        omega
  · have c1 : (μ.bump 12).cell sid 0 (0 + 1) = some X := by
      simp only [AMem.cell, bump_obj, g2, Option.bind_some, g4, if_true, g5]; rfl
    have c2 : m2.cell sid 0 (0 + 1) = some X := by
      simp only [AMem.cell, hso2, Option.bind_some, g4, if_true, g5]; rfl
    have c5 : m5.cell sid 0 (0 + 1) = some X' := by
      rw [hm5]
      simp only [AMem.cell, set_self, Option.bind_some, g4, if_true]; rfl
    rw [bitmap_New_L1_B_eq]
    simp -implicitDefEqProofs only [c1, o1, c2, hfree 7 (by omega), chk_true, Option.bind_some, decide_true, decide_false, cond_true, cond_false, seqJ_n, seqJ_r, seqJ_e, headK_c, asB_bool, asI_int, asS_s, asN_int, extrK_0, extrK_1, extrK_2, Bool.not_true, Bool.not_false, Nat.beq_refl]
    rw [← hm3]
    simp -implicitDefEqProofs only [a1, hst, Option.bind_some, decide_true, decide_false, cond_true, cond_false, seqJ_n, seqJ_r, seqJ_e, headK_c, asB_bool, asI_int, asS_s, asN_int, extrK_0, extrK_1, extrK_2, Bool.not_true, Bool.not_false, Nat.beq_refl]
    by_cases hk : k ≤ 64
    · rw [if_pos hk, le_t (by omega)]
      simp -implicitDefEqProofs only [Option.bind_some, decide_true, decide_false, cond_true, cond_false, seqJ_n, seqJ_r, seqJ_e, headK_c, asB_bool, asI_int, asS_s, asN_int, extrK_0, extrK_1, extrK_2, Bool.not_true, Bool.not_false, Nat.beq_refl]
    · have hL := hX5.len
      have ei : IntKind.wrap .i64 ((((rs ++ [y]).length : Nat) : Int) - 1) = (rs.length : Int) := by rw [hlenr, wr (by omega)]; omega
      have hyl : lenS (.s y) = some (onesW k).length := o3.row.len
      rw [ones_len] at hyl
      rw [if_neg hk, le_f (by omega)]
      simp -implicitDefEqProofs only [c5, hL, ei, Option.bind_some, decide_true, decide_false, cond_true, cond_false, seqJ_n, seqJ_r, seqJ_e, headK_c, asB_bool, asI_int, asS_s, asN_int, extrK_0, extrK_1, extrK_2, Bool.not_true, Bool.not_false, Nat.beq_refl]
      rcases hX5 with ⟨_, e⟩ | ⟨id, ver, o, rfl, b1, b2, b3, b4, b5, b6, b7⟩
      · simp at e
      · have bc := b7 rs.length y (by rw [List.getElem?_append, if_neg (by omega), Nat.sub_self]; rfl)
        simp only [indS]
        rw [if_pos (by rw [hlenr]; omega)]
        simp -implicitDefEqProofs only [loadAt, AMem.cell, b2, b4, nat_toNat, Nat.mul_one, Nat.zero_add, if_true, bc, hyl, Option.bind_some, decide_true, decide_false, cond_true, cond_false, seqJ_n, seqJ_r, seqJ_e, headK_c, asB_bool, asI_int, asS_s, asN_int, extrK_0, extrK_1, extrK_2, Bool.not_true, Bool.not_false, Nat.beq_refl]
theorem mapNew_is {μ : AMem} (hw : WF μ) {n : Nat} (h1 : 1 ≤ n) (h2 : n ≤ 4096) : ∃ x rs wss μ', bitmap_New [.s (.int .i64 n)] μ = some (.tuple [.s x, .s (.int .i64 0)], μ') ∧ Same μ μ' ∧ Mp μ.next μ' x n rs wss ∧ wss = (if n ≤ 64 then [onesW n] else [onesW n, onesW ((n + 63) / 64)]) := by
  obtain ⟨m0, hm0⟩ : ∃ m0, m0 = ((μ.bump 4).set (μ.next + 2) (rowObj [.int .i64 n, .nilSlice] 2 77 (some 1))) := ⟨_, rfl⟩
  have hs0 : Same μ m0 := by rw [hm0]; exact newS (Keep.refl hw) (by omega) _
  have hq0 : Mq μ.next m0 (μ.next + 2) n .nilSlice [] [] := ⟨by omega, ⟨rowObj [.int .i64 n, .nilSlice] 2 77 (some 1), by rw [hm0]; simp, rfl, rfl, rfl⟩, .inl ⟨rfl, rfl⟩, fun h => h, rfl, fun k r ws hk => by simp at hk, fun i j r r' _ hi => by simp at hi⟩
  obtain ⟨X1, y1, m1, q1, k1, b1⟩ := new_body hs0.wf hs0.next hq0 h1 (by omega) (by simp)
  have hs1 := keepSame hw hs0 k1 fun j hj => hj
  have c1 := lt_f (a := (n : Int)) (b := 1) (by omega)
  have c2 := gt_f (a := (n : Int)) (b := 4096) (by omega)
  by_cases hn : n ≤ 64
  · rw [if_pos hn] at b1
    rw [if_pos hn]
    refine ⟨_, _, _, m1, ?_, hs1, q1.mp (by simp), rfl⟩
    rw [bitmap_New_eq]
    simp -implicitDefEqProofs only [c1, c2, ← hm0, Option.bind_some, decide_true, decide_false, cond_true, cond_false, seqJ_n, seqJ_r, seqJ_e, headK_c, asB_bool, asI_int, asS_s, asN_int, extrK_0, extrK_1, extrK_2, Bool.not_true, Bool.not_false, Nat.beq_refl]
    rw [bitmap_New_L1_eq, b1]
    simp -implicitDefEqProofs only [Option.bind_some, decide_true, decide_false, cond_true, cond_false, seqJ_n, seqJ_r, seqJ_e, headK_c, asB_bool, asI_int, asS_s, asN_int, extrK_0, extrK_1, extrK_2, Bool.not_true, Bool.not_false, Nat.beq_refl]
  · rw [if_neg hn] at b1
    rw [if_neg hn]
    obtain ⟨X2, y2, m2, q2, k2, b2⟩ := new_body (k := (n + 63) / 64) hs1.wf hs1.next q1 (by omega) (by omega) (by simp)
    have hs2 := keepSame hw hs1 k2 fun j hj => hj
    rw [if_pos (by omega)] at b2
    refine ⟨_, _, _, m2, ?_, hs2, q2.mp (by simp), rfl⟩
    rw [bitmap_New_eq]
    simp -implicitDefEqProofs only [c1, c2, ← hm0, Option.bind_some, decide_true, decide_false, cond_true, cond_false, seqJ_n, seqJ_r, seqJ_e, headK_c, asB_bool, asI_int, asS_s, asN_int, extrK_0, extrK_1, extrK_2, Bool.not_true, Bool.not_false, Nat.beq_refl]
    rw [bitmap_New_L1_eq, b1]
    simp -implicitDefEqProofs only [Option.bind_some, decide_true, decide_false, cond_true, cond_false, seqJ_n, seqJ_r, seqJ_e, headK_c, asB_bool, asI_int, asS_s, asN_int, extrK_0, extrK_1, extrK_2, Bool.not_true, Bool.not_false, Nat.beq_refl]
    rw [bitmap_New_L1_eq, b2]
    simp -implicitDefEqProofs only [Option.bind_some, decide_true, decide_false, cond_true, cond_false, seqJ_n, seqJ_r, seqJ_e, headK_c, asB_bool, asI_int, asS_s, asN_int, extrK_0, extrK_1, extrK_2, Bool.not_true, Bool.not_false, Nat.beq_refl]
/-- A new map: all are free. -/
theorem mapNew_w {μ : AMem} (hw : WF μ) {n : Nat} (h1 : 1 ≤ n) (h2 : n ≤ 4096) : ∃ x rs ws μ', bitmap_New [.s (.int .i64 n)] μ = some (.tuple [.s x, .s (.int .i64 0)], μ') ∧ Same μ μ' ∧ Mw μ.next μ' x n rs ws ∧ ∀ j, j < n → U ws j = false := by
  obtain ⟨x, rs, wss, m, e, hs, hm, hwss⟩ := mapNew_is hw h1 h2
  have h0 : wss[0]? = some (onesW n) := by rw [hwss]; split <;> rfl
  refine ⟨x, rs, onesW n, m, e, hs, ⟨wss, hm, ⟨?_, ?_, fun ws h => ?_, fun k ws vs h3 h4 => ?_⟩, h0⟩, fun j hj => by rw [U_ones (by omega), decide_eq_false (by omega)]⟩
  · rw [hwss]; split
    · exact .inl ⟨rfl, by omega⟩
    · exact .inr ⟨rfl, by omega⟩
  · rw [hwss]; split <;> simp
  · rw [h0] at h
    cases h
    rw [ones_len]
    omega
  · rw [hwss] at h3 h4
    split at h3
    · rename_i hn
      rw [if_pos hn] at h4
      rcases k with _ | k <;> cases h4
    · rename_i hn
      rw [if_neg hn] at h4
      rcases k with _ | k
      · simp at h3 h4
        subst h3 h4
        refine ⟨by rw [ones_len, ones_len], fun j hj => ?_⟩
        rw [ones_len] at hj
        rw [U_ones (by omega), decide_eq_false (by omega)]
        refine (eq_f fun e => ?_).symm
        have h5 := U_ones (k := n) (j := 64 * j) (by omega)
        unfold U at h5
        rw [show 64 * j / 64 = j by omega, e, show 64 * j % 64 = 0 by omega, full_bit ⟨0, by omega⟩, decide_eq_false (by omega)] at h5
        cases h5
      · simp at h4
end Go.Proofs.Ytkikncdhmifkaaa
