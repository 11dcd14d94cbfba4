/- What a map of sectors comes to. -/
import Derived.Test.YtkikncdhmifkaaaKWords
namespace Go.Proofs.Ytkikncdhmifkaaa
open Go Go.Proofs.Ytkikncdhmifkaaa.E
set_option linter.unusedVariables false
set_option linter.unusedSimpArgs false
/-- A map: its box, the row of its levels, each level's words. -/
def Mp (N : Nat) (μ : AMem) (x : SV) (n : Nat) (rs : List SV) (wss : List (List Int)) : Prop :=
  ∃ sid so lid lo ver, x = .ptr sid 0 0 ∧ N ≤ sid ∧ μ.obj sid = some so ∧ so.ver = 0 ∧ so.cells = [.int .i64 n, .slice lid ver 0 rs.length] ∧
    N ≤ lid ∧ μ.obj lid = some lo ∧ lo.ver = ver ∧ (∀ (k : Nat) r, rs[k]? = some r → lo.cells[k]? = some r) ∧ rs.length = wss.length ∧
    (∀ (k : Nat) r ws, rs[k]? = some r → wss[k]? = some ws → (∃ e, OwnRow N μ .u64 e r ws) ∧ (∀ w ∈ ws, w64ok w) ∧ ¬ isId r sid ∧ ¬ isId r lid) ∧
    (∀ (i j : Nat) r r', i ≠ j → rs[i]? = some r → rs[j]? = some r' → Apart r r')
/-- A level's digits say which words below are full. -/
def Sm (ws vs : List Int) : Prop := ∀ j, j < ws.length → U vs j = (ws.getD j 0 == 18446744073709551615)
/-- How long the levels are, and that each one says which words below are full. -/
def lens (n : Nat) (wss : List (List Int)) : Prop := (wss.length = 1 ∧ n ≤ 64 ∨ wss.length = 2 ∧ 64 < n) ∧ wss.length ≤ 100 ∧ (∀ ws, wss[0]? = some ws → n ≤ 64 * ws.length ∧ ws.length ≤ 10000 ∧ ws.length = (n + 63) / 64) ∧ ∀ (k : Nat) ws vs, wss[k]? = some ws → wss[k + 1]? = some vs → vs.length = (ws.length + 63) / 64 ∧ Sm ws vs
def feet (rs : List SV) : Nat → Prop := fun j => ∃ r ∈ rs, isId r j
theorem Mp.nn {N : Nat} {μ : AMem} {x : SV} {n : Nat} {rs : List SV} {wss : List (List Int)} (h : Mp N μ x n rs wss) : isNil (.s x) = some false := by
  obtain ⟨sid, so, lid, lo, ver, rfl, _⟩ := h; rfl
theorem Mp.ids {N : Nat} {μ : AMem} {x : SV} {n : Nat} {rs : List SV} {wss : List (List Int)} (h : Mp N μ x n rs wss) {j : Nat} (hj : feet rs j) : N ≤ j ∧ ∃ o, μ.obj j = some o := by
  obtain ⟨sid, so, lid, lo, ver, _, _, _, _, _, _, _, _, _, hl, hr, _⟩ := h
  obtain ⟨r, hm, hi⟩ := hj
  obtain ⟨k, hk, rfl⟩ := List.mem_iff_getElem.mp hm
  obtain ⟨⟨e, ho⟩, _⟩ := hr k _ _ (List.getElem?_eq_getElem hk) (List.getElem?_eq_getElem (by omega))
  exact own_lives ho hi
/-- What a look at a level needs. -/
theorem Mp.level {N : Nat} {μ : AMem} {x : SV} {n : Nat} {rs : List SV} {wss : List (List Int)} (h : Mp N μ x n rs wss) {k : Nat} {ws : List Int} (hk : wss[k]? = some ws) :
    ∃ sid r L p, x = .ptr sid 0 0 ∧ rs[k]? = some r ∧ μ.cell sid 0 (0 + 0) = some (.int .i64 n) ∧ μ.cell sid 0 (0 + 1) = some L ∧ lenS (.s L) = some wss.length ∧ (∀ {R : Type} (K : AV → Option R), indS 1 (.s L) (k : Int) K = K p) ∧
      (∀ {R : Type} (K : AV → Option R), loadAt μ p K = K (.s r)) ∧ (∃ e, OwnRow N μ .u64 e r ws) ∧ (∀ w ∈ ws, w64ok w) := by
  obtain ⟨sid, so, lid, lo, ver, hx, hN, hso, hsv, hsc, hN2, hlo, hlv, hlc, hl, hr, hap⟩ := h
  have hkl : k < wss.length := (List.getElem?_eq_some_iff.mp hk).1
  have hkr : k < rs.length := by omega
  have hrk := List.getElem?_eq_getElem hkr
  obtain ⟨ho, hw, _, _⟩ := hr k _ _ hrk hk
  refine ⟨sid, rs[k], .slice lid ver 0 rs.length, .s (.ptr lid ver (0 + k * 1)), hx, hrk, ?_, ?_, ?_, fun K => ?_, fun K => ?_, ho, hw⟩
  · simp only [AMem.cell, hso, Option.bind_some, hsv, if_true, hsc]; rfl
  · simp only [AMem.cell, hso, Option.bind_some, hsv, if_true, hsc]; rfl
  · show some rs.length = _; rw [hl]
  · have h0 : (0 : Int) ≤ (k : Int) := by omega
    have h1 : (k : Int) < (rs.length : Int) := by omega
    simp only [indS, h0, h1, and_self, if_true, nat_toNat]
  · simp only [loadAt, AMem.cell, hlo, Option.bind_some, hlv, if_true, Nat.mul_one, Nat.zero_add, hlc k _ hrk]
/-- A level's row was written. -/
theorem Mp.wrote {N : Nat} {μ μ' : AMem} {x : SV} {n : Nat} {rs : List SV} {wss : List (List Int)} (h : Mp N μ x n rs wss) {k : Nat} {r : SV} {ws : List Int} (hk : rs[k]? = some r) (hkl : k < wss.length) (hK : Keep (isId r) μ μ') (ho : ∃ e, OwnRow N μ' .u64 e r ws) (hw : ∀ w ∈ ws, w64ok w) : Mp N μ' x n rs (wss.set k ws) := by
  obtain ⟨sid, so, lid, lo, ver, hx, hN, hso, hsv, hsc, hN2, hlo, hlv, hlc, hl, hr, hap⟩ := h
  obtain ⟨_, _, hns, hnl⟩ := hr k r _ hk (List.getElem?_eq_getElem hkl)
  refine ⟨sid, so, lid, lo, ver, hx, hN, hK.old _ _ hso hns, hsv, hsc, hN2, hK.old _ _ hlo hnl, hlv, hlc, by simp; exact hl, fun j r' ws' hj hws => ?_, hap⟩
  rw [List.getElem?_set] at hws
  by_cases hjk : k = j
  · subst hjk
    rw [if_pos rfl, if_pos hkl] at hws
    cases hws
    rw [hk] at hj
    cases hj
    exact ⟨ho, hw, hns, hnl⟩
  · rw [if_neg hjk] at hws
    obtain ⟨⟨e, h1⟩, h2, h3, h4⟩ := hr j r' ws' hj hws
    exact ⟨⟨e, ownKeep h1 hK fun i hi hh => hap k j r r' hjk hk hj i hi hh⟩, h2, h3, h4⟩
theorem Mp.keep {N : Nat} {μ μ' : AMem} {S : Nat → Prop} {x : SV} {n : Nat} {rs : List SV} {wss : List (List Int)} (h : Mp N μ x n rs wss) (hK : Same μ μ') : Mp N μ' x n rs wss := by
  obtain ⟨sid, so, lid, lo, ver, hx, hN, hso, hsv, hsc, hN2, hlo, hlv, hlc, hl, hr, hap⟩ := h
  refine ⟨sid, so, lid, lo, ver, hx, hN, hK.old _ _ hso fun h => h, hsv, hsc, hN2, hK.old _ _ hlo fun h => h, hlv, hlc, hl, fun j r' ws' hj hws => ?_, hap⟩
  obtain ⟨⟨e, h1⟩, h2⟩ := hr j r' ws' hj hws
  exact ⟨⟨e, ownKeep h1 hK fun i hi => hi.elim⟩, h2⟩
/-- A map that may be asked: its first level's words. -/
structure Mw (N : Nat) (μ : AMem) (x : SV) (n : Nat) (rs : List SV) (ws : List Int) : Prop where
  ex : ∃ wss, Mp N μ x n rs wss ∧ lens n wss ∧ wss[0]? = some ws
theorem mapMay_is {N : Nat} {μ : AMem} {x : SV} {n : Nat} {rs : List SV} {ws : List Int} (h : Mw N μ x n rs ws) (i : Int) : bitmap_Map_may [.s x, .s (.int .i64 i)] μ = some (.s (.bool (decide (0 ≤ i) && decide (i < n))), μ) := by
  obtain ⟨wss, hm, hl, h0⟩ := h.ex
  obtain ⟨sid, r, L, p, rfl, hr, hc0, hc1, hL, hi, hld, _⟩ := hm.level h0
  rw [bitmap_Map_may_eq]
  by_cases h1 : 0 ≤ i
  · rw [decide_eq_true h1, Bool.true_and]
    simp -implicitDefEqProofs (disch := omega) only [lt_t, lt_f, gt_t, gt_f, le_t, le_f, ge_t, ge_f, ne_t, ne_f, eq_t, eq_f, w64, chk_true, Option.bind_some, decide_true, decide_false, cond_true, cond_false, seqJ_n, seqJ_r, seqJ_e, headK_c, asB_bool, asI_int, asS_s, asN_int, extrK_0, extrK_1, extrK_2, Bool.not_true, Bool.not_false, Nat.beq_refl, hc0]
  · rw [decide_eq_false h1, Bool.false_and]
    simp -implicitDefEqProofs (disch := omega) only [lt_t, lt_f, gt_t, gt_f, le_t, le_f, ge_t, ge_f, ne_t, ne_f, eq_t, eq_f, w64, chk_true, Option.bind_some, decide_true, decide_false, cond_true, cond_false, seqJ_n, seqJ_r, seqJ_e, headK_c, asB_bool, asI_int, asS_s, asN_int, extrK_0, extrK_1, extrK_2, Bool.not_true, Bool.not_false, Nat.beq_refl]
def usedZ (n : Nat) (ws : List Int) (i : Int) : Bool := !(decide (0 ≤ i) && decide (i < n)) || U ws i.toNat
theorem used_is {N : Nat} {μ : AMem} {x : SV} {n : Nat} {rs : List SV} {ws : List Int} (h : Mw N μ x n rs ws) (i : Int) : bitmap_Map_Used [.s x, .s (.int .i64 i)] μ = some (.s (.bool (usedZ n ws i)), μ) := by
  have hmay := mapMay_is h i
  obtain ⟨wss, hm, hl, h0⟩ := h.ex
  obtain ⟨sid, r, L, p, rfl, hr, hc0, hc1, hL, hi, hld, ⟨e, ho⟩, hok⟩ := hm.level h0
  obtain ⟨hl1, hl100, hl2, _⟩ := hl
  obtain ⟨hn, hn2⟩ := hl2 ws h0
  rw [bitmap_Map_Used_eq, hmay]
  unfold usedZ
  by_cases hb : 0 ≤ i ∧ i < n
  · obtain ⟨j, rfl⟩ : ∃ j : Nat, i = (j : Int) := ⟨i.toNat, by omega⟩
    have hbt : (decide (0 ≤ (j : Int)) && decide ((j : Int) < (n : Int))) = true := by rw [decide_eq_true hb.1, decide_eq_true hb.2]; rfl
    have hj : j / 64 < ws.length := by omega
    have e1 : IntKind.wrap .i64 (Int.tdiv (j : Int) 64) = ((j / 64 : Nat) : Int) := by rw [Int.tdiv_eq_ediv_of_nonneg (by omega), wr (by omega)]; omega
    have e2 : Int.tmod (j : Int) 64 = ((j % 64 : Nat) : Int) := by rw [Int.tmod_eq_emod_of_nonneg (by omega)]; omega
    have e3 : min (Int.toNat ((j % 64 : Nat) : Int)) (IntKind.bits .u64) = j % 64 := by show min _ 64 = _; omega
    have e3b : min (j % 64) (IntKind.bits .u64) = j % 64 := by show min _ 64 = _; omega
    have a1 := fun {R : Type} (K : AV → Option R) => ho.row.ind (i := ((j / 64 : Nat) : Int)) (by omega) (by omega) K
    have a2 := fun {R : Type} (K : AV → Option R) => ho.row.load (i := ((j / 64 : Nat) : Int)) (by omega) (by omega) K
    rw [nat_toNat] at a2
    have hlk := look_bit (hok _ (getD_mem hj)) (j % 64)
    have hi0 := fun {R : Type} (K : AV → Option R) => hi K
    rw [n0] at hi0
    rw [hbt]
    simp -implicitDefEqProofs only [hc1, hi0, hld, e1, a1, a2, e2, if_neg (show ¬ ((j % 64 : Nat) : Int) < 0 by omega), e3, e3b, hlk, Bool.false_or, nat_toNat, Option.bind_some, decide_true, decide_false, cond_true, cond_false, seqJ_n, seqJ_r, seqJ_e, headK_c, asB_bool, asI_int, asS_s, asN_int, extrK_0, extrK_1, extrK_2, Bool.not_true, Bool.not_false, Nat.beq_refl]
    rfl
  · have hbf : (decide (0 ≤ i) && decide (i < (n : Int))) = false := by
      by_cases h1 : 0 ≤ i
      · rw [decide_eq_false (p := i < (n : Int)) (by omega), Bool.and_false]
      · rw [decide_eq_false h1, Bool.false_and]
    rw [hbf]
    simp -implicitDefEqProofs only [Bool.true_or, Option.bind_some, decide_true, decide_false, cond_true, cond_false, seqJ_n, seqJ_r, seqJ_e, headK_c, asB_bool, asI_int, asS_s, asN_int, extrK_0, extrK_1, extrK_2, Bool.not_true, Bool.not_false, Nat.beq_refl]
theorem setL_loop {N : Nat} {x : SV} {n : Nat} {rs : List SV} :
    ∀ (m k i : Nat) (b : Bool) (μ : AMem) (wss : List (List Int)), k + m = wss.length → (∀ ws, wss[k]? = some ws → i / 64 < ws.length) → (∀ (k : Nat) ws vs, wss[k]? = some ws → wss[k + 1]? = some vs → ws.length ≤ 64 * vs.length) → i ≤ 1000000 → wss.length ≤ 100 → WF μ → Mp N μ x n rs wss →
      ∃ μ' wss', bitmap_Map_Set_L1 [.s x, .s (.int .i64 wss.length)] [.s (.int .i64 i), .s (.bool b), .s (.int .i64 k)] μ = some (.exit 0, [], μ') ∧ Keep (feet rs) μ μ' ∧ Mp N μ' x n rs wss' ∧ wss'.length = wss.length ∧
        (∀ j : Nat, (wss'[j]?.map List.length) = (wss[j]?.map List.length)) ∧ (∀ j : Nat, j < k → wss'[j]? = wss[j]?) ∧ (∀ ws, wss[k]? = some ws → wss'[k]? = some (setWd ws i b)) ∧
        ((∀ j : Nat, k ≤ j → ∀ ws vs, wss[j]? = some ws → wss[j + 1]? = some vs → Sm ws vs) → ∀ j : Nat, k ≤ j → ∀ ws vs, wss'[j]? = some ws → wss'[j + 1]? = some vs → Sm ws vs)
  | 0, k, i, b, μ, wss, hk, hi, hc, hb, h100, hw, h => by
    have hx : ∃ sid, x = .ptr sid 0 0 := by obtain ⟨sid, so, lid, lo, ver, rfl, _⟩ := h; exact ⟨sid, rfl⟩
    obtain ⟨sid, rfl⟩ := hx
    rw [bitmap_Map_Set_L1_eq, bitmap_Map_Set_L1_B_eq]
    refine ⟨μ, wss, ?_, Keep.refl hw, h, rfl, fun _ => rfl, fun _ _ => rfl, fun ws hws => ?_, fun h => h⟩
    · simp -implicitDefEqProofs (disch := omega) only [lt_t, lt_f, gt_t, gt_f, le_t, le_f, ge_t, ge_f, ne_t, ne_f, eq_t, eq_f, w64, chk_true, Option.bind_some, decide_true, decide_false, cond_true, cond_false, seqJ_n, seqJ_r, seqJ_e, headK_c, asB_bool, asI_int, asS_s, asN_int, extrK_0, extrK_1, extrK_2, Bool.not_true, Bool.not_false, Nat.beq_refl]
    · have := (List.getElem?_eq_some_iff.mp hws).1
      omega
  | m + 1, k, i, b, μ, wss, hk, hi, hc, hb, h100, hw, h => by
    have hkl : k < wss.length := by omega
    obtain ⟨ws, hws⟩ : ∃ ws, wss[k]? = some ws := ⟨_, List.getElem?_eq_getElem hkl⟩
    have hiw := hi ws hws
    obtain ⟨sid, r, L, p, hx, hr, hc0, hc1, hL, hind, hld, ⟨e, ho⟩, hok⟩ := h.level hws
    obtain ⟨m1, s1, s2, s3, s4⟩ := storeK hw ho (i := i / 64) hiw (if b then orW (ws.getD (i / 64) 0) (i % 64) else clrW (ws.getD (i / 64) 0) (i % 64))
    have h1 : Mp N m1 x n rs (wss.set k (setWd ws i b)) := h.wrote hr hkl s2 ⟨e, s3⟩ (setWd_ok hok i b)
    have hws1 : (wss.set k (setWd ws i b))[k]? = some (setWd ws i b) := List.getElem?_set_self hkl
    obtain ⟨sid', r', L', p', hx', hr', hc0', hc1', hL', hind', hld', ⟨e', ho'⟩, hok'⟩ := h1.level hws1
    obtain rfl : r' = r := by rw [hr] at hr'; cases hr'; rfl
    have hsl := setWd_len ws i b
    have hne : ∀ j ws', j ≠ k → ((wss.set k (setWd ws i b))[j]? = some ws' ↔ wss[j]? = some ws') := fun j ws' hj => by rw [List.getElem?_set_ne (fun e => hj e.symm)]
    obtain ⟨b', hb'⟩ : ∃ b', ((setWd ws i b).getD (i / 64) 0 == 18446744073709551615) = b' := ⟨_, rfl⟩
    obtain ⟨m2, wss2, q1, q2, q3, q4, q5, q6, q7, q8⟩ := setL_loop (N := N) (x := x) (n := n) (rs := rs) m (k + 1) (i / 64) b' m1 (wss.set k (setWd ws i b)) (by simp; omega)
      (fun vs hvs => by
        rw [hne _ _ (by omega)] at hvs
        have := hc k ws vs hws hvs
        omega)
      (fun j ws' vs h1 h2 => by
        by_cases hj : j = k
        · subst hj
          rw [hws1] at h1
          cases h1
          rw [hne _ _ (by omega)] at h2
          rw [hsl]; exact hc j ws vs hws h2
        · rw [hne _ _ hj] at h1
          by_cases hj2 : j + 1 = k
          · rw [hj2, hws1] at h2
            cases h2
            rw [hsl]; exact hc j ws' ws h1 (by rw [hj2]; exact hws)
          · rw [hne _ _ hj2] at h2
            exact hc j ws' vs h1 h2)
      (by omega) (by simp; exact h100) s2.wf h1
    have hll : (wss.set k (setWd ws i b)).length = wss.length := by simp
    rw [hll, nsu] at q1
    have hfeet : ∀ j, isId r' j → feet rs j := fun j hj => ⟨r', List.mem_of_getElem? hr, hj⟩
    refine ⟨m2, wss2, ?_, (s2.weak0 hfeet).trans q2, q3, q4.trans hll, fun j => ?_, fun j hj => ?_, fun ws' hws' => ?_, fun hS j hj => ?_⟩
    · subst hx
      have e1 : IntKind.wrap .i64 (Int.tdiv (i : Int) 64) = ((i / 64 : Nat) : Int) := by rw [Int.tdiv_eq_ediv_of_nonneg (by omega), wr (by omega)]; omega
      have e2 : Int.tmod (i : Int) 64 = ((i % 64 : Nat) : Int) := by rw [Int.tmod_eq_emod_of_nonneg (by omega)]; omega
      have e3 : min (Int.toNat ((i % 64 : Nat) : Int)) (IntKind.bits .u64) = i % 64 := by show min _ 64 = _; omega
      have ei : IntKind.wrap .i64 ((k : Int) + 1) = (k : Int) + 1 := wr (by omega)
      have a1 := fun {R : Type} (K : AV → Option R) => ho.row.ind (i := ((i / 64 : Nat) : Int)) (by omega) (by omega) K
      have a2 := fun {R : Type} (K : AV → Option R) => ho.row.load (i := ((i / 64 : Nat) : Int)) (by omega) (by omega) K
      have a3 := fun {R : Type} (K : AV → Option R) => ho'.row.ind (i := ((i / 64 : Nat) : Int)) (by omega) (by rw [hsl]; omega) K
      have a4 := fun {R : Type} (K : AV → Option R) => ho'.row.load (i := ((i / 64 : Nat) : Int)) (by omega) (by rw [hsl]; omega) K
      rw [nat_toNat] at a2 a4
      rw [hb'.symm] at q1
      cases hx'
      rw [bitmap_Map_Set_L1_eq, bitmap_Map_Set_L1_B_eq]
      cases b
      · have hclr : IntKind.wrap .u64 (BitVec.toNat ((BitVec.ofInt (IntKind.bits .u64) (ws.getD (i / 64) 0)) &&& ~~~ (BitVec.ofInt (IntKind.bits .u64) (IntKind.wrap .u64 (1 * 2 ^ (i % 64)))))) = clrW (ws.getD (i / 64) 0) (i % 64) := rfl
        simp only [Bool.false_eq_true, if_false] at s1
        simp -implicitDefEqProofs only [lt_t (show (k : Int) < wss.length by omega), e2, if_neg (show ¬ ((i % 64 : Nat) : Int) < 0 by omega), hc1, hind, hld, e1, a1, a2, e3, hclr, s1, hc1', hind', hld', a3, a4, ei, Option.bind_some, decide_true, decide_false, cond_true, cond_false, seqJ_n, seqJ_r, seqJ_e, headK_c, asB_bool, asI_int, asS_s, asN_int, extrK_0, extrK_1, extrK_2, Bool.not_true, Bool.not_false, Nat.beq_refl]
        exact q1
      · have hor : IntKind.wrap .u64 (BitVec.toNat ((BitVec.ofInt (IntKind.bits .u64) (ws.getD (i / 64) 0)) ||| (BitVec.ofInt (IntKind.bits .u64) (IntKind.wrap .u64 (1 * 2 ^ (i % 64)))))) = orW (ws.getD (i / 64) 0) (i % 64) := rfl
        simp only [if_true] at s1
        simp -implicitDefEqProofs only [lt_t (show (k : Int) < wss.length by omega), e2, if_neg (show ¬ ((i % 64 : Nat) : Int) < 0 by omega), hc1, hind, hld, e1, a1, a2, e3, hor, s1, hc1', hind', hld', a3, a4, ei, Option.bind_some, decide_true, decide_false, cond_true, cond_false, seqJ_n, seqJ_r, seqJ_e, headK_c, asB_bool, asI_int, asS_s, asN_int, extrK_0, extrK_1, extrK_2, Bool.not_true, Bool.not_false, Nat.beq_refl]
        exact q1
    · rw [q5 j]
      by_cases hj : j = k
      · subst hj; rw [hws1, hws]; simp [hsl]
      · rw [List.getElem?_set_ne (fun e => hj e.symm)]
    · rw [q6 j (by omega), List.getElem?_set_ne (by omega)]
    · rw [hws] at hws'
      cases hws'
      rw [q6 k (by omega), hws1]
    · intro us vs hus hvs
      by_cases hjk : j = k
      · subst hjk
        rw [q6 j (by omega), hws1] at hus
        cases hus
        obtain ⟨vs0, hv0⟩ : ∃ vs0, wss[j + 1]? = some vs0 := by
          have := q5 (j + 1)
          rw [hvs, List.getElem?_set_ne (by omega)] at this
          cases hu : wss[j + 1]? with
          | none => rw [hu] at this; cases this
          | some us => exact ⟨us, rfl⟩
        have hv1 := q7 vs0 (by rw [List.getElem?_set_ne (by omega)]; exact hv0)
        rw [hvs] at hv1
        cases hv1
        have hcl := hc j ws vs0 hws hv0
        have hsm := hS j (Nat.le_refl _) ws vs0 hws hv0
        intro l hl
        rw [hsl] at hl
        rw [U_set (by omega) b' l]
        by_cases hli : l = i / 64
        · rw [if_pos hli, hli, hb']
        · rw [if_neg hli, hsm l hl]
          unfold setWd
          rw [getD_setW hiw, if_neg hli]
      · refine q8 (fun l hl us vs hus hvs => ?_) j (by omega) us vs hus hvs
        rw [hne _ _ (by omega)] at hus
        rw [hne _ _ (by omega)] at hvs
        exact hS l (by omega) us vs hus hvs
end Go.Proofs.Ytkikncdhmifkaaa
