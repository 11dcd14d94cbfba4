/- Maps: set, the first free one, counts. -/
import Derived.Test.YtkikncdhmifkaaaQMap
namespace Go.Proofs.Ytkikncdhmifkaaa
open Go Go.Proofs.Ytkikncdhmifkaaa.E
set_option linter.unusedVariables false
set_option linter.unusedSimpArgs false
theorem mapSet_is {N : Nat} {μ : AMem} (hw : WF μ) {x : SV} {n : Nat} {rs : List SV} {ws : List Int} (h : Mw N μ x n rs ws) (hn : n ≤ 5000) (i : Int) (b : Bool) :
    ((¬ (0 ≤ i ∧ i < n) ∨ usedZ n ws i = b) → bitmap_Map_Set [.s x, .s (.int .i64 i), .s (.bool b)] μ = some (.s (.bool false), μ)) ∧
    ((0 ≤ i ∧ i < n) → usedZ n ws i ≠ b → ∃ μ', bitmap_Map_Set [.s x, .s (.int .i64 i), .s (.bool b)] μ = some (.s (.bool true), μ') ∧ Keep (feet rs) μ μ' ∧ Mw N μ' x n rs (setWd ws i.toNat b)) := by
  have hmay := mapMay_is h i
  have hus := used_is h i
  refine ⟨fun hc => ?_, fun hb hne => ?_⟩
  · obtain ⟨wss, hm, _⟩ := h.ex
    obtain ⟨sid, so, lid, lo, ver, rfl, _⟩ := hm
    rw [bitmap_Map_Set_eq, hmay]
    by_cases hb : 0 ≤ i ∧ i < n
    · have hbt : (decide (0 ≤ i) && decide (i < (n : Int))) = true := by rw [decide_eq_true hb.1, decide_eq_true hb.2]; rfl
      have hub : (usedZ n ws i == b) = true := by
        rcases hc with hc | hc
        · exact absurd hb hc
        · rw [hc]; simp
      rw [hbt]
      simp -implicitDefEqProofs only [hus, hub, Option.bind_some, decide_true, decide_false, cond_true, cond_false, seqJ_n, seqJ_r, seqJ_e, headK_c, asB_bool, asI_int, asS_s, asN_int, extrK_0, extrK_1, extrK_2, Bool.not_true, Bool.not_false, Nat.beq_refl]
    · have hbf : (decide (0 ≤ i) && decide (i < (n : Int))) = false := by
        by_cases h1 : 0 ≤ i
        · rw [decide_eq_false (p := i < (n : Int)) (by omega), Bool.and_false]
        · rw [decide_eq_false h1, Bool.false_and]
      rw [hbf]
      simp -implicitDefEqProofs only [Option.bind_some, decide_true, decide_false, cond_true, cond_false, seqJ_n, seqJ_r, seqJ_e, headK_c, asB_bool, asI_int, asS_s, asN_int, extrK_0, extrK_1, extrK_2, Bool.not_true, Bool.not_false, Nat.beq_refl]
  · obtain ⟨wss, hm, ⟨hl1, hl100, hl2, hl3⟩, h0⟩ := h.ex
    obtain ⟨hn1, hn2⟩ := hl2 ws h0
    obtain ⟨μ', wss', q1, q2, q3, q4, q5, q6, q7, q8⟩ := setL_loop wss.length 0 i.toNat b μ wss (by omega) (fun vs hvs => by rw [h0] at hvs; cases hvs; omega) (fun k ws vs h1 h2 => by have := (hl3 k ws vs h1 h2).1; omega) (by omega) hl100 hw hm
    rw [n0, show ((i.toNat : Nat) : Int) = i by omega] at q1
    have hlv : ∀ (k : Nat) vs, wss'[k]? = some vs → ∃ us, wss[k]? = some us ∧ us.length = vs.length := fun k vs hvs => by
      have := q5 k
      rw [hvs] at this
      cases hu : wss[k]? with
      | none => rw [hu] at this; cases this
      | some us => rw [hu] at this; simp only [Option.map_some, Option.some.injEq] at this; exact ⟨us, rfl, this.symm⟩
    refine ⟨μ', ?_, q2, ⟨wss', q3, ⟨by omega, by omega, fun vs hvs => ?_, fun k vs us hvs hus => ?_⟩, q7 ws h0⟩⟩
    · obtain ⟨sid, r, L, p, hx, _, _, hc1, hL, _⟩ := hm.level h0
      subst hx
      have hbt : (decide (0 ≤ i) && decide (i < (n : Int))) = true := by rw [decide_eq_true hb.1, decide_eq_true hb.2]; rfl
      have hub : (usedZ n ws i == b) = false := by
        cases hq : usedZ n ws i <;> cases b <;> simp_all
      rw [bitmap_Map_Set_eq, hmay, hbt]
      simp -implicitDefEqProofs only [hus, hub, hc1, hL, q1, Option.bind_some, decide_true, decide_false, cond_true, cond_false, seqJ_n, seqJ_r, seqJ_e, headK_c, asB_bool, asI_int, asS_s, asN_int, extrK_0, extrK_1, extrK_2, Bool.not_true, Bool.not_false, Nat.beq_refl]
    · obtain ⟨us, h1, h2⟩ := hlv 0 vs hvs
      have := hl2 us h1
      omega
    · obtain ⟨vs', h1, h2⟩ := hlv k vs hvs
      obtain ⟨us', h3, h4⟩ := hlv (k + 1) us hus
      have := (hl3 k vs' us' h1 h3).1
      exact ⟨by omega, q8 (fun j _ ws vs h1 h2 => (hl3 j ws vs h1 h2).2) k (by omega) vs us hvs hus⟩
theorem usedZ_in {n : Nat} {ws : List Int} {i : Nat} (h : i < n) : usedZ n ws (i : Int) = U ws i := by
  unfold usedZ
  rw [decide_eq_true (by omega), decide_eq_true (by omega)]; rfl
/-- The least free one from there on. -/
def Fst (V : Nat → Bool) (n : Nat) (a : Nat) (f : Int) : Prop := (f = -1 ∧ ∀ j, a ≤ j → j < n → V j = true) ∨ ∃ g : Nat, f = (g : Int) ∧ a ≤ g ∧ g < n ∧ V g = false ∧ ∀ j, a ≤ j → j < g → V j = true
theorem first_loop {N : Nat} {μ : AMem} {x : SV} {n : Nat} {rs : List SV} {ws : List Int} (h : Mw N μ x n rs ws) (hn : n ≤ 5000) :
    ∀ (m i : Nat), n ≤ i + m → i ≤ 6000 → (∃ v, bitmap_Map_First_L1 [.s x] [.s (.int .i64 i)] μ = some (.ret, [.s (.int .i64 v)], μ) ∧ Fst (U ws) n i v) ∨ (bitmap_Map_First_L1 [.s x] [.s (.int .i64 i)] μ = some (.exit 0, [], μ) ∧ Fst (U ws) n i (-1))
  | 0, i, h1, h2 => by
    obtain ⟨wss, hm, _, h0⟩ := h.ex
    obtain ⟨sid, r, L, p, rfl, _, hc0, _⟩ := hm.level h0
    refine .inr ⟨?_, .inl ⟨rfl, fun j h3 h4 => by omega⟩⟩
    rw [bitmap_Map_First_L1_eq, bitmap_Map_First_L1_B_eq]
    simp -implicitDefEqProofs only [hc0, lt_f (show (n : Int) ≤ i by omega), Option.bind_some, decide_true, decide_false, cond_true, cond_false, seqJ_n, seqJ_r, seqJ_e, headK_c, asB_bool, asI_int, asS_s, asN_int, extrK_0, extrK_1, extrK_2, Bool.not_true, Bool.not_false, Nat.beq_refl]
  | m + 1, i, h1, h2 => by
    have hh := h
    obtain ⟨wss, hm, ⟨hl1, hl100, hl2, hl3⟩, h0⟩ := h.ex
    obtain ⟨sid, r, L, p, hx, _, hc0, hc1, hL, hi, hld, ⟨e, ho⟩, hok⟩ := hm.level h0
    obtain ⟨hn1, hn2⟩ := hl2 ws h0
    by_cases hin : i < n
    · have hus := used_is h (i : Int)
      rw [usedZ_in hin] at hus
      subst hx
      have hj : i / 64 < ws.length := by omega
      have e1 : IntKind.wrap .i64 (Int.tdiv (i : Int) 64) = ((i / 64 : Nat) : Int) := by rw [Int.tdiv_eq_ediv_of_nonneg (by omega), wr (by omega)]; omega
      have e2 : Int.tmod (i : Int) 64 = ((i % 64 : Nat) : Int) := by rw [Int.tmod_eq_emod_of_nonneg (by omega)]; omega
      have a1 := fun {R : Type} (K : AV → Option R) => ho.row.ind (i := ((i / 64 : Nat) : Int)) (by omega) (by omega) K
      have a2 := fun {R : Type} (K : AV → Option R) => ho.row.load (i := ((i / 64 : Nat) : Int)) (by omega) (by omega) K
      rw [nat_toNat] at a2
      have hi0 := fun {R : Type} (K : AV → Option R) => hi K
      rw [n0] at hi0
      have ei : IntKind.wrap .i64 ((i : Int) + 1) = (i : Int) + 1 := wr (by omega)
      have ci := lt_t (a := (i : Int)) (b := (n : Int)) (by omega)
      by_cases hf : i % 64 = 0 ∧ ws.getD (i / 64) 0 = 18446744073709551615
      · have e3 : IntKind.wrap .i64 (IntKind.wrap .i64 (IntKind.wrap .i64 ((i : Int) + 64) - 1) + 1) = ((i + 64 : Nat) : Int) := by rw [wr (n := (i : Int) + 64) (by omega), wr (n := (i : Int) + 64 - 1) (by omega), wr (by omega)]; omega
        have hfull : ∀ j, i ≤ j → j < i + 64 → U ws j = true := fun j h3 h4 => by
          unfold U
          rw [show j / 64 = i / 64 by omega, hf.2]
          exact full_bit ⟨j % 64, by omega⟩
        have ih := first_loop hh hn m (i + 64) (by omega) (by omega)
        have q0 := eq_t (a := ((i % 64 : Nat) : Int)) (b := 0) (by omega)
        have q1 := eq_t hf.2
        rw [bitmap_Map_First_L1_eq, bitmap_Map_First_L1_B_eq]
        simp -implicitDefEqProofs only [hc0, ci, e2, q0, hc1, hi0, hld, e1, a1, a2, q1, e3, Option.bind_some, decide_true, decide_false, cond_true, cond_false, seqJ_n, seqJ_r, seqJ_e, headK_c, asB_bool, asI_int, asS_s, asN_int, extrK_0, extrK_1, extrK_2, Bool.not_true, Bool.not_false, Nat.beq_refl]
        rcases ih with ⟨v, f1, f2⟩ | ⟨f1, f2⟩
        · refine .inl ⟨v, f1, ?_⟩
          rcases f2 with ⟨rfl, g2⟩ | ⟨g, rfl, g2, g3, g4, g5⟩
          · exact .inl ⟨rfl, fun j h3 h4 => by
              by_cases h5 : j < i + 64
              · exact hfull j h3 h5
              · exact g2 j (by omega) h4⟩
          · exact .inr ⟨g, rfl, by omega, g3, g4, fun j h3 h4 => by
              by_cases h5 : j < i + 64
              · exact hfull j h3 h5
              · exact g5 j (by omega) h4⟩
        · refine .inr ⟨f1, ?_⟩
          rcases f2 with ⟨_, g2⟩ | ⟨g, hg, _⟩
          · exact .inl ⟨rfl, fun j h3 h4 => by
              by_cases h5 : j < i + 64
              · exact hfull j h3 h5
              · exact g2 j (by omega) h4⟩
          · omega
      · have hsel : (bif (((i % 64 : Nat) : Int) == 0) then (some (AExit.normal, [AV.s (.bool (ws.getD (i / 64) 0 == 18446744073709551615))], μ)) else (some (AExit.normal, [AV.s (.bool false)], μ))) = some (AExit.normal, [AV.s (.bool false)], μ) := by
          by_cases h3 : i % 64 = 0
          · have : (ws.getD (i / 64) 0 == 18446744073709551615) = false := eq_f fun e => hf ⟨h3, e⟩
            rw [this]; cases (((i % 64 : Nat) : Int) == 0) <;> rfl
          · rw [eq_f (show ¬ ((i % 64 : Nat) : Int) = 0 by omega)]; rfl
        have ih := first_loop hh hn m (i + 1) (by omega) (by omega)
        rw [nsu] at ih
        rw [bitmap_Map_First_L1_eq, bitmap_Map_First_L1_B_eq]
        cases hU : U ws i
        · rw [hU] at hus
          refine .inl ⟨(i : Int), ?_, .inr ⟨i, rfl, Nat.le_refl _, hin, hU, fun j h3 h4 => by omega⟩⟩
          simp -implicitDefEqProofs only [hc0, ci, e2, hc1, hi0, hld, e1, a1, a2, hsel, hus, Option.bind_some, decide_true, decide_false, cond_true, cond_false, seqJ_n, seqJ_r, seqJ_e, headK_c, asB_bool, asI_int, asS_s, asN_int, extrK_0, extrK_1, extrK_2, Bool.not_true, Bool.not_false, Nat.beq_refl]
        · rw [hU] at hus
          simp -implicitDefEqProofs only [hc0, ci, e2, hc1, hi0, hld, e1, a1, a2, hsel, hus, ei, Option.bind_some, decide_true, decide_false, cond_true, cond_false, seqJ_n, seqJ_r, seqJ_e, headK_c, asB_bool, asI_int, asS_s, asN_int, extrK_0, extrK_1, extrK_2, Bool.not_true, Bool.not_false, Nat.beq_refl]
          rcases ih with ⟨v, f1, f2⟩ | ⟨f1, f2⟩
          · refine .inl ⟨v, f1, ?_⟩
            rcases f2 with ⟨rfl, g2⟩ | ⟨g, rfl, g2, g3, g4, g5⟩
            · exact .inl ⟨rfl, fun j h3 h4 => by
                by_cases h5 : j = i
                · rw [h5]; exact hU
                · exact g2 j (by omega) h4⟩
            · exact .inr ⟨g, rfl, by omega, g3, g4, fun j h3 h4 => by
                by_cases h5 : j = i
                · rw [h5]; exact hU
                · exact g5 j (by omega) h4⟩
          · refine .inr ⟨f1, ?_⟩
            rcases f2 with ⟨_, g2⟩ | ⟨g, hg, _⟩
            · exact .inl ⟨rfl, fun j h3 h4 => by
                by_cases h5 : j = i
                · rw [h5]; exact hU
                · exact g2 j (by omega) h4⟩
            · omega
    · subst hx
      refine .inr ⟨?_, .inl ⟨rfl, fun j h3 h4 => by omega⟩⟩
      rw [bitmap_Map_First_L1_eq, bitmap_Map_First_L1_B_eq]
      simp -implicitDefEqProofs only [hc0, lt_f (show (n : Int) ≤ i by omega), Option.bind_some, decide_true, decide_false, cond_true, cond_false, seqJ_n, seqJ_r, seqJ_e, headK_c, asB_bool, asI_int, asS_s, asN_int, extrK_0, extrK_1, extrK_2, Bool.not_true, Bool.not_false, Nat.beq_refl]
theorem mapFirst_is {N : Nat} {μ : AMem} {x : SV} {n : Nat} {rs : List SV} {ws : List Int} (h : Mw N μ x n rs ws) (hn : n ≤ 5000) : ∃ f, bitmap_Map_First [.s x, .s (.int .i64 0)] μ = some (.s (.int .i64 f), μ) ∧ Fst (U ws) n 0 f := by
  have hl := first_loop h hn n 0 (by omega) (by omega)
  rw [n0] at hl
  have hx : ∃ sid, x = .ptr sid 0 0 := by obtain ⟨wss, ⟨sid, so, lid, lo, ver, rfl, _⟩, _⟩ := h.ex; exact ⟨sid, rfl⟩
  obtain ⟨sid, rfl⟩ := hx
  have e0 : (if (0 : Int) > 0 then (0 : Int) else 0) = 0 := rfl
  rcases hl with ⟨v, e, hv⟩ | ⟨e, hv⟩
  · refine ⟨v, ?_, hv⟩
    rw [bitmap_Map_First_eq, e0, e]
    simp -implicitDefEqProofs only [Option.bind_some, decide_true, decide_false, cond_true, cond_false, seqJ_n, seqJ_r, seqJ_e, headK_c, asB_bool, asI_int, asS_s, asN_int, extrK_0, extrK_1, extrK_2, Bool.not_true, Bool.not_false, Nat.beq_refl]
  · refine ⟨-1, ?_, hv⟩
    rw [bitmap_Map_First_eq, e0, e]
    simp -implicitDefEqProofs only [Option.bind_some, decide_true, decide_false, cond_true, cond_false, seqJ_n, seqJ_r, seqJ_e, headK_c, asB_bool, asI_int, asS_s, asN_int, extrK_0, extrK_1, extrK_2, Bool.not_true, Bool.not_false, Nat.beq_refl]
theorem Fst.unique {V : Nat → Bool} {n a : Nat} {f g : Int} (h1 : Fst V n a f) (h2 : Fst V n a g) : f = g := by
  rcases h1 with ⟨rfl, a1⟩ | ⟨u, rfl, a1, a2, a3, a4⟩
  · rcases h2 with ⟨rfl, b1⟩ | ⟨v, rfl, b1, b2, b3, b4⟩
    · rfl
    · rw [a1 v b1 b2] at b3; cases b3
  · rcases h2 with ⟨rfl, b1⟩ | ⟨v, rfl, b1, b2, b3, b4⟩
    · rw [b1 u a1 a2] at a3; cases a3
    · rcases Nat.lt_trichotomy u v with h | h | h
      · rw [b4 u a1 h] at a3; cases a3
      · rw [h]
      · rw [a4 v b1 h] at b3; cases b3
def cntF (V : Nat → Bool) : Nat → Int
  | 0 => 0
  | n + 1 => cntF V n + if V n then 1 else 0
theorem cntF_le (V : Nat → Bool) : ∀ n : Nat, 0 ≤ cntF V n ∧ cntF V n ≤ n
  | 0 => by simp [cntF]
  | n + 1 => by
    have := cntF_le V n
    rw [cntF]; split <;> omega
theorem count_loop {N : Nat} {μ : AMem} {x : SV} {n : Nat} {rs : List SV} {ws : List Int} (h : Mw N μ x n rs ws) (hn : n ≤ 5000) :
    ∀ (m i : Nat), i + m = n → bitmap_Map_Count_L1 [.s x, .s (.int .i64 n)] [.s (.int .i64 (cntF (U ws) i)), .s (.int .i64 i)] μ = some (.exit 0, [.s (.int .i64 (cntF (U ws) n))], μ)
  | 0, i, h1 => by
    have hx : ∃ sid, x = .ptr sid 0 0 := by obtain ⟨wss, ⟨sid, so, lid, lo, ver, rfl, _⟩, _⟩ := h.ex; exact ⟨sid, rfl⟩
    obtain ⟨sid, rfl⟩ := hx
    obtain rfl : i = n := by omega
    rw [bitmap_Map_Count_L1_eq, bitmap_Map_Count_L1_B_eq]
    simp -implicitDefEqProofs (disch := omega) only [lt_t, lt_f, gt_t, gt_f, le_t, le_f, ge_t, ge_f, ne_t, ne_f, eq_t, eq_f, w64, chk_true, Option.bind_some, decide_true, decide_false, cond_true, cond_false, seqJ_n, seqJ_r, seqJ_e, headK_c, asB_bool, asI_int, asS_s, asN_int, extrK_0, extrK_1, extrK_2, Bool.not_true, Bool.not_false, Nat.beq_refl]
  | m + 1, i, h1 => by
    have hus := used_is h (i : Int)
    rw [usedZ_in (n := n) (ws := ws) (i := i) (by omega)] at hus
    have ih := count_loop h hn m (i + 1) (by omega)
    rw [nsu] at ih
    have hc := cntF_le (U ws) i
    have hx : ∃ sid, x = .ptr sid 0 0 := by obtain ⟨wss, ⟨sid, so, lid, lo, ver, rfl, _⟩, _⟩ := h.ex; exact ⟨sid, rfl⟩
    obtain ⟨sid, rfl⟩ := hx
    have ei : IntKind.wrap .i64 ((i : Int) + 1) = (i : Int) + 1 := wr (by omega)
    have ec : IntKind.wrap .i64 (cntF (U ws) i + 1) = cntF (U ws) i + 1 := wr (by omega)
    have ci := lt_t (a := (i : Int)) (b := (n : Int)) (by omega)
    rw [bitmap_Map_Count_L1_eq, bitmap_Map_Count_L1_B_eq]
    cases hU : U ws i
    · rw [hU] at hus
      rw [cntF, hU] at ih
      simp only [Bool.false_eq_true, if_false, Int.add_zero] at ih
      simp -implicitDefEqProofs only [ci, hus, ei, Option.bind_some, decide_true, decide_false, cond_true, cond_false, seqJ_n, seqJ_r, seqJ_e, headK_c, asB_bool, asI_int, asS_s, asN_int, extrK_0, extrK_1, extrK_2, Bool.not_true, Bool.not_false, Nat.beq_refl]
      exact ih
    · rw [hU] at hus
      rw [cntF, hU] at ih
      simp only [if_true] at ih
      simp -implicitDefEqProofs only [ci, hus, ec, ei, Option.bind_some, decide_true, decide_false, cond_true, cond_false, seqJ_n, seqJ_r, seqJ_e, headK_c, asB_bool, asI_int, asS_s, asN_int, extrK_0, extrK_1, extrK_2, Bool.not_true, Bool.not_false, Nat.beq_refl]
      exact ih
theorem mapCount_is {N : Nat} {μ : AMem} {x : SV} {n : Nat} {rs : List SV} {ws : List Int} (h : Mw N μ x n rs ws) (hn : n ≤ 5000) : bitmap_Map_Count [.s x] μ = some (.s (.int .i64 (cntF (U ws) n)), μ) := by
  have hl := count_loop h hn n 0 (by omega)
  rw [n0, show cntF (U ws) 0 = 0 from rfl] at hl
  obtain ⟨wss, hm, _, h0⟩ := h.ex
  obtain ⟨sid, r, L, p, rfl, _, hc0, _⟩ := hm.level h0
  rw [bitmap_Map_Count_eq]
  simp -implicitDefEqProofs only [hc0, hl, Option.bind_some, decide_true, decide_false, cond_true, cond_false, seqJ_n, seqJ_r, seqJ_e, headK_c, asB_bool, asI_int, asS_s, asN_int, extrK_0, extrK_1, extrK_2, Bool.not_true, Bool.not_false, Nat.beq_refl]
theorem mapTake_is {N : Nat} {μ : AMem} (hw : WF μ) {x : SV} {n : Nat} {rs : List SV} {ws : List Int} (h : Mw N μ x n rs ws) (hn : n ≤ 5000) :
    ((∀ j, j < n → U ws j = true) → bitmap_Map_Take [.s x] μ = some (.s (.int .i64 (-1)), μ)) ∧
    (∀ g : Nat, g < n → U ws g = false → (∀ j, j < g → U ws j = true) → ∃ μ', bitmap_Map_Take [.s x] μ = some (.s (.int .i64 g), μ') ∧ Keep (feet rs) μ μ' ∧ Mw N μ' x n rs (setWd ws g true)) := by
  obtain ⟨f, e1, hf⟩ := mapFirst_is h hn
  have hx : ∃ sid, x = .ptr sid 0 0 := by obtain ⟨wss, ⟨sid, so, lid, lo, ver, rfl, _⟩, _⟩ := h.ex; exact ⟨sid, rfl⟩
  obtain ⟨sid, rfl⟩ := hx
  refine ⟨fun hall => ?_, fun g hg hgf hgl => ?_⟩
  · obtain rfl := hf.unique (.inl ⟨rfl, fun j _ hj => hall j hj⟩)
    have e2 := (mapSet_is hw h hn (-1) true).1 (.inl (by omega))
    rw [bitmap_Map_Take_eq]
    simp -implicitDefEqProofs only [e1, e2, Option.bind_some, decide_true, decide_false, cond_true, cond_false, seqJ_n, seqJ_r, seqJ_e, headK_c, asB_bool, asI_int, asS_s, asN_int, extrK_0, extrK_1, extrK_2, Bool.not_true, Bool.not_false, Nat.beq_refl]
  · obtain rfl := hf.unique (.inr ⟨g, rfl, by omega, hg, hgf, fun j _ hj => hgl j hj⟩)
    obtain ⟨m, e2, k2, h2⟩ := (mapSet_is hw h hn (g : Int) true).2 (by omega) (by rw [usedZ_in hg, hgf]; simp)
    rw [nat_toNat] at h2
    refine ⟨m, ?_, k2, h2⟩
    rw [bitmap_Map_Take_eq]
    simp -implicitDefEqProofs only [e1, e2, Option.bind_some, decide_true, decide_false, cond_true, cond_false, seqJ_n, seqJ_r, seqJ_e, headK_c, asB_bool, asI_int, asS_s, asN_int, extrK_0, extrK_1, extrK_2, Bool.not_true, Bool.not_false, Nat.beq_refl]
end Go.Proofs.Ytkikncdhmifkaaa
