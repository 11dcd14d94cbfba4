/- The plain answer of SpaceKeeps. -/
import Derived.Test.YtkikncdhmifkaaaQWakes
import Derived.Test.YtkikncdhmifkaaaQSpace5
import Derived.Test.YtkikncdhmifkaaaKWithin
import Derived.Test.YtkikncdhmifkaaaKCopy
import Derived.Test.YtkikncdhmifkaaaKArr
namespace Go.Proofs.Ytkikncdhmifkaaa
open Go Go.Proofs.Ytkikncdhmifkaaa.E
set_option linter.unusedVariables false
set_option linter.unusedSimpArgs false
theorem least_or (V : Nat → Bool) : ∀ n : Nat, (∀ j, j < n → V j = true) ∨ ∃ g, g < n ∧ V g = false ∧ ∀ j, j < g → V j = true
  | 0 => .inl fun j h => by omega
  | n + 1 => by
    rcases least_or V n with h | ⟨g, h1, h2, h3⟩
    · cases hV : V n
      · exact .inr ⟨n, by omega, hV, h⟩
      · exact .inl fun j hj => by
          by_cases hjn : j = n
          · rw [hjn]; exact hV
          · exact h j (by omega)
    · exact .inr ⟨g, by omega, h2, h3⟩
theorem takes_loop {H : Nat → Prop} {N : Nat} {x p0 : SV} {b c : Int} {n : Nat} (hn : n ≤ 9) (hc : -9223372036854775808 ≤ b ∧ b ≤ 9223372036854775807) (hb : b % 9 = (n : Int)) :
    ∀ (k i : Nat) (μ : AMem) (V : Nat → Bool) (cs : List Int), i + k = n → WF μ → Sp H N μ x 3 12 V cs [] → fits cs (100 - i) →
      ∃ μ' V' cs', overdublaw13_SpaceKeeps_L1 [.s p0, .s (.int .i64 b), .s (.int .i64 c), .s x] [.s (.int .i64 i)] μ = some (.exit 0, [.s p0, .s (.int .i64 c), .s x], μ') ∧ Keep H μ μ' ∧ Sp H N μ' x 3 12 V' cs' []
  | 0, i, μ, V, cs, h, hw, hp, hf => by
    have e0 := within_is b 9 hc (by omega) (by omega) μ
    rw [hb] at e0
    refine ⟨μ, V, cs, ?_, Keep.refl hw, hp⟩
    rw [overdublaw13_SpaceKeeps_L1_eq, overdublaw13_SpaceKeeps_L1_B_eq]
    simp -implicitDefEqProofs (disch := omega) only [lt_t, lt_f, gt_t, gt_f, le_t, le_f, ge_t, ge_f, ne_t, ne_f, eq_t, eq_f, w64, chk_true, Option.bind_some, decide_true, decide_false, cond_true, cond_false, seqJ_n, seqJ_r, seqJ_e, headK_c, asB_bool, asI_int, asS_s, asN_int, extrK_0, extrK_1, extrK_2, Bool.not_true, Bool.not_false, Nat.beq_refl, e0]
  | k + 1, i, μ, V, cs, h, hw, hp, hf => by
    have e0 := within_is b 9 hc (by omega) (by omega) μ
    rw [hb] at e0
    have ei : IntKind.wrap .i64 ((i : Int) + 1) = (i : Int) + 1 := wr (by omega)
    obtain ⟨t1, t2⟩ := spTake_is hw hp (by omega) (fits_less hf (by omega))
    rcases least_or V 12 with ha | ⟨g, g1, g2, g3⟩
    · obtain ⟨m2, V2, cs2, e2, k2, p2⟩ := takes_loop (p0 := p0) (c := c) hn hc hb k (i + 1) μ V cs (by omega) hw hp (fits_less hf (by omega))
      rw [nsu] at e2
      refine ⟨m2, V2, cs2, ?_, k2, p2⟩
      rw [overdublaw13_SpaceKeeps_L1_eq, overdublaw13_SpaceKeeps_L1_B_eq]
      simp -implicitDefEqProofs only [e0, lt_t (show (i : Int) < (n : Int) by omega), t1 ha, ei, Option.bind_some, decide_true, decide_false, cond_true, cond_false, seqJ_n, seqJ_r, seqJ_e, headK_c, asB_bool, asI_int, asS_s, asN_int, extrK_0, extrK_1, extrK_2, Bool.not_true, Bool.not_false, Nat.beq_refl]
      exact e2
    · obtain ⟨m1, e1, k1, p1⟩ := t2 g g1 g2 g3
      obtain ⟨m2, V2, cs2, e2, k2, p2⟩ := takes_loop (p0 := p0) (c := c) hn hc hb k (i + 1) m1 _ _ (by omega) k1.wf p1 (incZ_fit (k := 100 - (i + 1)) (by rw [show 100 - (i + 1) + 1 = 100 - i by omega]; exact hf) (by omega) _)
      rw [nsu] at e2
      refine ⟨m2, V2, cs2, ?_, k1.trans k2, p2⟩
      rw [overdublaw13_SpaceKeeps_L1_eq, overdublaw13_SpaceKeeps_L1_B_eq]
      simp -implicitDefEqProofs only [e0, lt_t (show (i : Int) < (n : Int) by omega), e1, ei, Option.bind_some, decide_true, decide_false, cond_true, cond_false, seqJ_n, seqJ_r, seqJ_e, headK_c, asB_bool, asI_int, asS_s, asN_int, extrK_0, extrK_1, extrK_2, Bool.not_true, Bool.not_false, Nat.beq_refl]
      exact e2
/-- How many have a count. -/
def nz (c : List Int) : Int := cntF (fun j => decide (c.getD j 0 > 0)) 12
def zs12 : List Int := List.replicate 12 0
theorem cntF_one {V : Nat → Bool} {i : Nat} (hi : V i = false) : ∀ n : Nat, cntF (setV V i true) n = cntF V n + if i < n then 1 else 0
  | 0 => by simp [cntF]
  | n + 1 => by
    have ih := cntF_one hi n
    show cntF (setV V i true) n + (if setV V i true n then 1 else 0) = cntF V n + (if V n then 1 else 0) + if i < n + 1 then 1 else 0
    rw [ih]
    by_cases h : n = i
    · subst h
      have hs : setV V n true n = true := by simp [setV]
      rw [hs, hi, if_neg (show ¬ n < n by omega), if_pos (show n < n + 1 by omega)]; simp
    · have hs : setV V i true n = V n := by simp [setV, h]
      rw [hs]
      by_cases h2 : i < n
      · rw [if_pos h2, if_pos (show i < n + 1 by omega)]; omega
      · rw [if_neg h2, if_neg (show ¬ i < n + 1 by omega)]; omega
theorem nz_inc {c : List Int} (hl : c.length = 12) {k : Nat} (hk : k < 12) (h0 : 0 ≤ c.getD k 0) : nz (incZ c (k : Int)) = if c.getD k 0 = 0 then nz c + 1 else nz c := by
  have hg : ∀ j, (incZ c (k : Int)).getD j 0 = if j = k then c.getD k 0 + 1 else c.getD j 0 := fun j => by
    unfold incZ
    rw [nat_toNat, getD_setW (by omega)]
  unfold nz
  by_cases h : c.getD k 0 = 0
  · rw [if_pos h, ← show cntF (setV (fun j => decide (c.getD j 0 > 0)) k true) 12 = _ + 1 by rw [cntF_one (by rw [h]; rfl), if_pos hk]]
    refine cntF_cong 12 fun j hj => ?_
    simp only [hg, setV]
    by_cases hjk : j = k
    · rw [if_pos hjk, if_pos hjk, decide_eq_true (by omega)]
    · rw [if_neg hjk, if_neg hjk]
  · rw [if_neg h]
    refine cntF_cong 12 fun j hj => ?_
    simp only [hg]
    by_cases hjk : j = k
    · rw [if_pos hjk, hjk, decide_eq_true (by omega), decide_eq_true (by omega)]
    · rw [if_neg hjk]
theorem draw_loop {μ0 : AMem} (h0 : WF μ0) {x t : SV} {b : Int} {zs : List Int} (hx : IsRow μ0 .i64 t zs) (hz : ∀ v ∈ zs, (Lit.int .i64 v).wf = true) {id : Nat} (hid : μ0.next ≤ id) :
    ∀ (k i : Nat) (μ : AMem) (y : SV), i + k = min 14 zs.length → Same μ0 μ → OwnRow μ0.next μ .i64 3 y ((zs.take i).map fun v => 3 + v % 9) → Arr μ id ((addZ zs12 ((zs.take i).map fun v => 3 + v % 9)).map (SV.int .i64)) → ¬ isId y id →
      ∃ y' μ', overdublaw13_SpaceKeeps_L2 [.s t, .s (.int .i64 b), .s x, .s (.ptr id 0 0)] [.s y, .s (.int .i64 (nz (addZ zs12 ((zs.take i).map fun v => 3 + v % 9)))), .s (.int .i64 i)] μ = some (.exit 2, [.s (.int .i64 b), .s x, .s y', .s (.int .i64 (nz (addZ zs12 ((zs.take 14).map fun v => 3 + v % 9)))), .s (.ptr id 0 0)], μ') ∧ Same μ0 μ' ∧
        OwnRow μ0.next μ' .i64 3 y' ((zs.take 14).map fun v => 3 + v % 9) ∧ Arr μ' id ((addZ zs12 ((zs.take 14).map fun v => 3 + v % 9)).map (SV.int .i64))
  | 0, i, μ, y, h, hs, hy, ha, hn => by
    rw [take_min (n := 14) (zs := zs) (i := i) (by omega)] at hy ha ⊢
    refine ⟨y, μ, ?_, hs, hy, ha⟩
    rw [overdublaw13_SpaceKeeps_L2_eq, overdublaw13_SpaceKeeps_L2_B_eq, (hx.same hs).len]
    by_cases h1 : (i : Int) < (zs.length : Int)
    · simp -implicitDefEqProofs (disch := omega) only [lt_t, lt_f, gt_t, gt_f, le_t, le_f, ge_t, ge_f, ne_t, ne_f, eq_t, eq_f, w64, chk_true, Option.bind_some, decide_true, decide_false, cond_true, cond_false, seqJ_n, seqJ_r, seqJ_e, headK_c, asB_bool, asI_int, asS_s, asN_int, extrK_0, extrK_1, extrK_2, Bool.not_true, Bool.not_false, Nat.beq_refl]
    · simp -implicitDefEqProofs (disch := omega) only [lt_t, lt_f, gt_t, gt_f, le_t, le_f, ge_t, ge_f, ne_t, ne_f, eq_t, eq_f, w64, chk_true, Option.bind_some, decide_true, decide_false, cond_true, cond_false, seqJ_n, seqJ_r, seqJ_e, headK_c, asB_bool, asI_int, asS_s, asN_int, extrK_0, extrK_1, extrK_2, Bool.not_true, Bool.not_false, Nat.beq_refl]
  | k + 1, i, μ, y, h, hs, hy, ha, hn => by
    have hi : i < zs.length := by omega
    have hx1 := hx.same hs
    have hw := within_is (zs.getD i 0) 9 (wf64 (hz _ (getD_mem hi))) (by omega) (by omega) μ
    have hm1 := Int.emod_nonneg (zs.getD i 0) (show ¬ (9 : Int) = 0 by omega)
    have hm2 := Int.emod_lt_of_pos (zs.getD i 0) (show (0 : Int) < 9 by omega)
    obtain ⟨q, hq, hq1, hq2⟩ : ∃ q : Nat, IntKind.wrap .i64 (3 + zs.getD i 0 % 9) = (q : Int) ∧ q < 12 ∧ 3 + zs.getD i 0 % 9 = (q : Int) := ⟨(3 + zs.getD i 0 % 9).toNat, by rw [wr (by omega)]; omega, by omega, by omega⟩
    have hlen : ((zs.take i).map fun v => 3 + v % 9).length = i := by simp; omega
    have hsn : (zs.take (i + 1)).map (fun v => 3 + v % 9) = (zs.take i).map (fun v => 3 + v % 9) ++ [(q : Int)] := by rw [take_map_snoc (fun v => 3 + v % 9) hi, hq2]
    have hrec := draw_loop (x := x) (b := b) h0 hx hz hid k (i + 1)
    rw [hsn, addZ_snoc] at hrec
    obtain ⟨c, hc⟩ : ∃ c, addZ zs12 ((zs.take i).map fun v => 3 + v % 9) = c := ⟨_, rfl⟩
    have hcl : c.length = 12 := by rw [← hc, addZ_len]; rfl
    have hcf : fits c 1 := by
      rw [← hc]
      exact fits_add _ _ (fits_zero _ _ (by omega)) (by omega)
    rw [hc] at ha ⊢
    rw [hc] at hrec
    have hcq := hcf _ (getD_mem (zs := c) (i := q) (by omega))
    obtain ⟨y', m1, p1, p2, p3, p4⟩ := pushK (B := 8) (a := 2) (b := 3) (n := 5) (q := some 1) hs.wf hy (q : Int) (by omega) (by omega) hs.next (by omega) (by omega) (by omega)
    have hyid : ∀ j, isId y j → μ0.next ≤ j := fun j hj => (own_lives hy hj).1
    have hidl : id < μ.next := by obtain ⟨o, ho, _⟩ := ha; exact hs.wf.lt ho
    have ha1 := ha.keep p2 hn
    have hg1 := ha1.cell (ints_get (k := q) (by omega))
    obtain ⟨m2, s1, s2, s3⟩ := ha1.store p2.wf (k := q) (by simp; omega) (.int .i64 (c.getD q 0 + 1))
    rw [ints_set] at s3
    have hn' : ¬ isId y' id := fun h => by
      rcases p4 id h with h3 | h3
      · exact hn h3
      · omega
    obtain ⟨y2, m3, e3, k3, o3, a3⟩ := hrec m2 y' (by omega) (keepSame h0 (keepSame h0 hs p2 hyid) s2 fun j hj => hj ▸ hid) (ownKeep p3 s2 fun j hj h => hn' (hj ▸ h)) (by unfold incZ; rw [nat_toNat]; exact s3) hn'
    rw [nsu, nz_inc hcl hq1 (by omega)] at e3
    refine ⟨y2, m3, ?_, k3, o3, a3⟩
    have hnz := cntF_le (fun j => decide (c.getD j 0 > 0)) 12
    have en : IntKind.wrap .i64 (nz c + 1) = nz c + 1 := wr (by unfold nz; omega)
    have ec : IntKind.wrap .i64 (c.getD q 0 + 1) = c.getD q 0 + 1 := wr (by omega)
    have hif : 0 ≤ (q : Int) ∧ (q : Int) < ((12 : Nat) : Int) := by omega
    rw [overdublaw13_SpaceKeeps_L2_eq, overdublaw13_SpaceKeeps_L2_B_eq, hx1.len]
    have ei : IntKind.wrap .i64 ((i : Int) + 1) = (i : Int) + 1 := wr (by omega)
    by_cases hz0 : c.getD q 0 = 0
    · rw [if_pos hz0] at e3
      simp -implicitDefEqProofs only [lt_t (show (i : Int) < (zs.length : Int) by omega), lt_t (show (i : Int) < 14 by omega), hx1.ind (show (0 : Int) ≤ (i : Int) by omega) (show (i : Int) < (zs.length : Int) by omega), hx1.load (show (0 : Int) ≤ (i : Int) by omega) (show (i : Int) < (zs.length : Int) by omega), nat_toNat, hw, hq, p1, if_pos hif, hg1, eq_t hz0, en, ec, s1, ei, Option.bind_some, decide_true, decide_false, cond_true, cond_false, seqJ_n, seqJ_r, seqJ_e, headK_c, asB_bool, asI_int, asS_s, asN_int, extrK_0, extrK_1, extrK_2, Bool.not_true, Bool.not_false, Nat.beq_refl]
      exact e3
    · rw [if_neg hz0] at e3
      simp -implicitDefEqProofs only [lt_t (show (i : Int) < (zs.length : Int) by omega), lt_t (show (i : Int) < 14 by omega), hx1.ind (show (0 : Int) ≤ (i : Int) by omega) (show (i : Int) < (zs.length : Int) by omega), hx1.load (show (0 : Int) ≤ (i : Int) by omega) (show (i : Int) < (zs.length : Int) by omega), nat_toNat, hw, hq, p1, if_pos hif, hg1, eq_f hz0, ec, s1, ei, Option.bind_some, decide_true, decide_false, cond_true, cond_false, seqJ_n, seqJ_r, seqJ_e, headK_c, asB_bool, asI_int, asS_s, asN_int, extrK_0, extrK_1, extrK_2, Bool.not_true, Bool.not_false, Nat.beq_refl]
      exact e3
theorem mem_take {zs : List Int} {v : Int} (h : v ∈ (zs.take 14).map fun v => 3 + v % 9) : 3 ≤ v ∧ v < 12 := by
  obtain ⟨u, _, rfl⟩ := List.mem_map.mp h
  have h1 := Int.emod_nonneg u (show ¬ (9 : Int) = 0 by omega)
  have h2 := Int.emod_lt_of_pos u (show (0 : Int) < 9 by omega)
  omega
/-- A count is above nought just where the number was added. -/
theorem addZ_pos : ∀ (ls c : List Int) (j : Nat), j < c.length → (∀ v ∈ c, 0 ≤ v) → (∀ v ∈ ls, 0 ≤ v ∧ v < (c.length : Int)) → ((addZ c ls).getD j 0 > 0 ↔ c.getD j 0 > 0 ∨ (j : Int) ∈ ls)
  | [], c, j, hj, hc, hl => by simp [addZ]
  | v :: ls, c, j, hj, hc, hl => by
    have hv := hl v (List.mem_cons_self ..)
    have hcv := hc _ (getD_mem (zs := c) (i := v.toNat) (by omega))
    have ih := addZ_pos ls (incZ c v) j (by rw [incZ_len]; exact hj) (fun w hw => by
      rcases List.mem_or_eq_of_mem_set hw with h1 | h1
      · exact hc w h1
      · omega) (fun w hw => by rw [incZ_len]; exact hl w (List.mem_cons_of_mem _ hw))
    show (addZ (incZ c v) ls).getD j 0 > 0 ↔ _
    rw [ih]
    unfold incZ
    rw [getD_setW (by omega), List.mem_cons]
    by_cases h : j = v.toNat
    · rw [if_pos h]
      exact ⟨fun _ => .inr (.inl (by omega)), fun _ => .inl (by omega)⟩
    · rw [if_neg h]
      exact ⟨fun h2 => h2.elim .inl fun h3 => .inr (.inr h3), fun h2 => h2.elim .inl fun h3 => h3.elim (fun h4 => by omega) .inr⟩
theorem cntF_or {A B : Nat → Bool} (h : ∀ j, A j = true → B j = false) : ∀ n : Nat, cntF (fun j => A j || B j) n = cntF A n + cntF B n
  | 0 => rfl
  | n + 1 => by
    have ih := cntF_or h n
    show cntF (fun j => A j || B j) n + (if (A n || B n) then 1 else 0) = cntF A n + (if A n then 1 else 0) + (cntF B n + if B n then 1 else 0)
    rw [ih]
    cases hA : A n
    · cases hB : B n <;> simp <;> omega
    · rw [h n hA]; simp; omega
theorem look_loop {H : Nat → Prop} {N : Nat} {μ : AMem} {x : SV} {V : Nat → Bool} {cs W : List Int} {id : Nat} {b : Int} (hp : Sp H N μ x 3 12 V cs W) (ha : Arr μ id (cs.map (SV.int .i64))) (hV : ∀ j, j < 12 → V j = (decide (j < 3) || decide (cs.getD j 0 > 0))) :
    ∀ k i : Nat, i + k = 12 → overdublaw13_SpaceKeeps_L3 [.s x, .s (.int .i64 b), .s (.ptr id 0 0)] [.s (.int .i64 i)] μ = some (.exit 4, [.s x, .s (.int .i64 b)], μ)
  | 0, i, h => by
    obtain rfl : i = 12 := by omega
    rw [overdublaw13_SpaceKeeps_L3_eq, overdublaw13_SpaceKeeps_L3_B_eq]
    rfl
  | k + 1, i, h => by
    have ih := look_loop (b := b) hp ha hV k (i + 1) (by omega)
    rw [nsu] at ih
    have hl := hp.len
    have e1 := spOf_is hp (i : Int)
    have e2 := spUsed_is hp (i : Int)
    rw [usedI_in (by omega), hV i (by omega)] at e2
    have hof : ofI cs (i : Int) = cs.getD i 0 := by
      unfold ofI mayI
      rw [hl, decide_eq_true (by omega), decide_eq_true (by omega)]; rfl
    rw [hof] at e1
    have hg := ha.cell (ints_get (k := i) (by omega))
    have ei : IntKind.wrap .i64 ((i : Int) + 1) = (i : Int) + 1 := wr (by omega)
    have hb1 : (!(decide (cs.getD i 0 > 0) == decide (cs.getD i 0 > 0))) = false := by simp
    have hb2 : (!(true == true)) = false := rfl
    have hi2 := fun {R : Type} (K : AV → Option R) => indP_p 12 id 0 0 (i := (i : Int)) (by omega) K
    rw [overdublaw13_SpaceKeeps_L3_eq, overdublaw13_SpaceKeeps_L3_B_eq]
    by_cases h3 : i < 3
    · rw [decide_eq_true h3, Bool.true_or] at e2
      simp -implicitDefEqProofs only [lt_t (show (i : Int) < 12 by omega), hi2, nat_toNat, loadAt_p, hg, e1, chk_true, ne_f (rfl : cs.getD i 0 = cs.getD i 0), e2, lt_t (show (i : Int) < 3 by omega), hb2, ei, Option.bind_some, decide_true, decide_false, cond_true, cond_false, seqJ_n, seqJ_r, seqJ_e, headK_c, asB_bool, asI_int, asS_s, asN_int, extrK_0, extrK_1, extrK_2, Bool.not_true, Bool.not_false, Nat.beq_refl]
      exact ih
    · rw [decide_eq_false h3, Bool.false_or] at e2
      simp -implicitDefEqProofs only [lt_t (show (i : Int) < 12 by omega), hi2, nat_toNat, loadAt_p, hg, e1, chk_true, ne_f (rfl : cs.getD i 0 = cs.getD i 0), e2, lt_f (show 3 ≤ (i : Int) by omega), hb1, ei, Option.bind_some, decide_true, decide_false, cond_true, cond_false, seqJ_n, seqJ_r, seqJ_e, headK_c, asB_bool, asI_int, asS_s, asN_int, extrK_0, extrK_1, extrK_2, Bool.not_true, Bool.not_false, Nat.beq_refl]
      exact ih
theorem pureSpaceKeeps (x0 : Arg) (z0 : List Int) (s0 : Arg.isRow .i64 z0 x0) (w0 : ∀ n ∈ z0, (Lit.int .i64 n).wf = true) (y0 : z0.length * 8 ≤ 140737488351232) (a1 : Int) (w1 : (Lit.int .i64 a1).wf = true) (a2 : Int) (w2 : (Lit.int .i64 a2).wf = true) :
    ∃ μ', overdublaw13_SpaceKeeps (argVals 0 [x0, .i .i64 a1, .i .i64 a2]) (argMem [x0, .i .i64 a1, .i .i64 a2]) = some (.s (.bool true), μ') := by
  obtain ⟨a, ha, hx⟩ := IsRow.arg (l := [x0, .i .i64 a1, .i .i64 a2]) (j := 0) s0 rfl
  have hw := WF.args [x0, .i .i64 a1, .i .i64 a2]
  show ∃ μ', overdublaw13_SpaceKeeps [x0.val 0, .s (.int .i64 a1), .s (.int .i64 a2)] _ = _
  rw [ha]
  generalize argMem [x0, .i .i64 a1, .i .i64 a2] = μ at *
  obtain ⟨x, H, m1, e1, k1, p1⟩ := spNew_is hw (n := 12) (fixed := 3) (by omega) (by omega) (by omega)
  rw [show ((12 : Nat) : Int) = 12 from rfl, show ((3 : Nat) : Int) = 3 from rfl] at e1
  have hm1 := Int.emod_nonneg a1 (show ¬ (9 : Int) = 0 by omega)
  have hm2 := Int.emod_lt_of_pos a1 (show (0 : Int) < 9 by omega)
  obtain ⟨n, hn, hn1⟩ : ∃ n : Nat, a1 % 9 = (n : Int) ∧ n ≤ 9 := ⟨(a1 % 9).toNat, by omega, by omega⟩
  obtain ⟨m2, V2, c2, e2, k2, p2⟩ := takes_loop (p0 := a) (c := a2) hn1 (wf64 w1) hn n 0 m1 _ _ (by omega) k1.wf p1 (fits_zero _ _ (by omega))
  rw [n0] at e2
  have k12 := p1.since hw k1 k2
  -- the array
  obtain ⟨m3, hm3⟩ : ∃ m3, m3 = (m2.bump 1).set (m2.next + 0) (rowObj [.int .i64 0, .int .i64 0, .int .i64 0, .int .i64 0, .int .i64 0, .int .i64 0, .int .i64 0, .int .i64 0, .int .i64 0, .int .i64 0, .int .i64 0, .int .i64 0] 12 39 (some 1)) := ⟨_, rfl⟩
  have k3 : Same m2 m3 := by rw [hm3]; exact Same.bumpSet k2.wf (by omega) _
  have a3 : Arr m3 (m2.next + 0) (zs12.map (SV.int .i64)) := by rw [hm3]; exact Arr.new (set_self ..)
  obtain ⟨y, m4, e4, k4, o4, a4⟩ := draw_loop (x := x) (b := a2) k2.wf ((hx.same k12)) w0 (id := m2.next + 0) (by omega) _ 0 m3 .nilSlice (Nat.zero_add _) k3 (OwnRow.nil _ _ _ _) a3 (fun h => h)
  rw [n0, show nz (addZ zs12 ((z0.take 0).map fun v => 3 + v % 9)) = 0 by rfl] at e4
  have hls : ∀ v ∈ (z0.take 14).map (fun v => 3 + v % 9), 3 ≤ v ∧ v < 12 := fun v hv => mem_take hv
  have hll : ((z0.take 14).map fun v => 3 + v % 9).length ≤ 14 := by simp; omega
  obtain ⟨ls, hlseq⟩ : ∃ ls, (z0.take 14).map (fun v => 3 + v % 9) = ls := ⟨_, rfl⟩
  rw [hlseq] at hls hll e4 o4 a4
  have p4 := p2.same k4
  -- what may not be kept
  obtain ⟨bad, hbad, hb2⟩ : ∃ bad : Int, (if 3 ≤ a2 ∧ a2 < 12 then 2 else a2) = bad ∧ ¬ (3 ≤ bad ∧ bad < 12) := ⟨_, rfl, by split <;> omega⟩
  have e5 := spFree_is p4 (by omega)
  have kb : Same m4 (m4.bump 19) := Keep.bump k4.wf 19
  obtain ⟨z, m6, e6, k6, o6⟩ := copy_is kb.wf (o4.row.same kb) (by omega)
  have hn6 := k6.next
  simp only [bump_next] at hn6
  obtain ⟨z7, m7, e7, k7, o7, _⟩ := pushX (B := 8) (ra := m4.next + 4) (rb := m4.next + 5) (q := some 1) k4.wf (kb.trans k6) (o6.less (M := m4.next) (by simp)) bad (by omega) (by omega) (by omega) (by omega) (by omega) (by omega) (by omega) (freshS k4.wf (by omega) k6) (freshS k4.wf (by omega) k6)
  have p7 := p4.same k7
  have hno : (ls ++ [bad]).all (keepOk 3 12) = false := by
    have : keepOk 3 12 bad = false := by
      unfold keepOk
      by_cases h : 3 ≤ bad
      · rw [decide_eq_false (p := bad < ((12 : Nat) : Int)) (by omega), Bool.and_false]
      · rw [decide_eq_false (p := ((3 : Nat) : Int) ≤ bad) (by omega), Bool.false_and]
    rw [List.all_append]; simp [this]
  have hN4 := (k12.trans k4).next
  have e8 := (spKeep_is k7.wf (by have := k7.next; omega) p7 (by omega) (by omega) (by omega) o7.row (fun j hj hH => by
    have := (own_lives o7 hj).1
    have := (p4.bound j hH).2
    omega) (by simp; omega)).1 hno
  have e9 := spFree_is p7 (by omega)
  have hok : ls.all (keepOk 3 12) = true := by
    rw [List.all_eq_true]
    intro v hv
    have := hls v hv
    unfold keepOk; rw [decide_eq_true (by omega), decide_eq_true (by omega)]; rfl
  have hy7 := o4.row.same k7
  obtain ⟨m10, H10, e10, k10, _, p10⟩ := (spKeep_is k7.wf (by have := k7.next; omega) p7 (by omega) (by omega) (by omega) hy7 (fun j hj hH => by
    have := (own_lives o4 hj).1
    have := (p2.bound j hH).2
    omega) (by omega)).2 hok
  have a10 := (a4.keep k7 fun h => h).keep k10 fun h => by
    have := (p2.bound _ h).2
    omega
  have hV : ∀ j, j < 12 → putV true (fun j => decide (j < 3)) ls j = (decide (j < 3) || decide ((addZ zs12 ls).getD j 0 > 0)) := fun j hj => by
    rw [putV_is true ls _ j fun v hv => by have := hls v hv; omega]
    have hpos := addZ_pos ls zs12 j (by simpa [zs12] using hj) (fun v hv => by rw [(List.mem_replicate.mp hv).2]; omega) (fun v hv => by have := hls v hv; simp [zs12]; omega)
    have hz0 : zs12.getD j 0 = 0 := rep_getD 12 j
    rw [hz0] at hpos
    by_cases hm : (j : Int) ∈ ls
    · rw [if_pos hm, decide_eq_true (hpos.mpr (.inr hm)), Bool.or_true]
    · rw [if_neg hm, decide_eq_false (p := (addZ zs12 ls).getD j 0 > 0) (fun h => by
        rcases hpos.mp h with h | h
        · omega
        · exact hm h), Bool.or_false]
  have e11 := look_loop (b := nz (addZ zs12 ls)) p10 a10 hV 12 0 (by omega)
  rw [n0] at e11
  have e12 := spFree_is p10 (by omega)
  have hz3 : ∀ j, j < 3 → (addZ zs12 ls).getD j 0 = 0 := fun j hj => by
    have hpos := addZ_pos ls zs12 j (by simp [zs12]; omega) (fun v hv => by rw [(List.mem_replicate.mp hv).2]; omega) (fun v hv => by have := hls v hv; simp [zs12]; omega)
    have hz0 : zs12.getD j 0 = 0 := rep_getD 12 j
    rw [hz0] at hpos
    have hfit : fits (addZ zs12 ls) 1 := fits_add _ _ (fits_zero _ _ (by omega)) (by omega)
    have := getD_fit hfit (by omega) j
    have hnot : ¬ (addZ zs12 ls).getD j 0 > 0 := fun h => by
      rcases hpos.mp h with h | h
      · omega
      · have := hls _ h; omega
    omega
  have hcnt : ((12 : Nat) : Int) - cntF (putV true (fun j => decide (j < 3)) ls) 12 = 9 - nz (addZ zs12 ls) := by
    rw [cntF_cong 12 hV, cntF_or (A := fun j => decide (j < 3)) (B := fun j => decide ((addZ zs12 ls).getD j 0 > 0)) (fun j hj => by
      have := hz3 j (by simpa using hj)
      exact decide_eq_false (by omega)), show cntF (fun j => decide (j < 3)) 12 = 3 by decide]
    unfold nz
    omega
  rw [hcnt] at e12
  have hnz := cntF_le (fun j => decide ((addZ zs12 ls).getD j 0 > 0)) 12
  have e9n : IntKind.wrap .i64 (9 - nz (addZ zs12 ls)) = 9 - nz (addZ zs12 ls) := wr (by unfold nz; omega)
  obtain ⟨v, m13, e13, k13, o13⟩ := spWaiting_is k10.wf p10 (by simp)
  have hlen := o13.row.len
  rw [List.length_nil] at hlen
  obtain ⟨mw, w⟩ := wakes_is m13 k13.wf
  refine ⟨mw, ?_⟩
  rw [overdublaw13_SpaceKeeps_eq]
  simp -implicitDefEqProofs only [e1, p1.nn, e2, ← hm3, e4, ne_f (rfl : (0 : Int) = 0), Option.bind_some, decide_true, decide_false, cond_true, cond_false, seqJ_n, seqJ_r, seqJ_e, headK_c, asB_bool, asI_int, asS_s, asN_int, extrK_0, extrK_1, extrK_2, Bool.not_true, Bool.not_false, Nat.beq_refl]
  by_cases h1 : 3 ≤ a2
  · by_cases h2 : a2 < 12
    · rw [if_pos ⟨h1, h2⟩] at hbad
      subst hbad
      simp -implicitDefEqProofs only [ge_t h1, lt_t h2, e5, e6, e7, e8, e9, ne_f (rfl : ((12 : Nat) : Int) - cntF V2 12 = ((12 : Nat) : Int) - cntF V2 12), e10, e11, e12, e9n, eq_t (rfl : 9 - nz (addZ zs12 ls) = 9 - nz (addZ zs12 ls)), e13, hlen, eq_t (show ((0 : Nat) : Int) = 0 from rfl), w, Option.bind_some, decide_true, decide_false, cond_true, cond_false, seqJ_n, seqJ_r, seqJ_e, headK_c, asB_bool, asI_int, asS_s, asN_int, extrK_0, extrK_1, extrK_2, Bool.not_true, Bool.not_false, Nat.beq_refl]
    · rw [if_neg (by omega)] at hbad
      subst hbad
      simp -implicitDefEqProofs only [ge_t h1, lt_f (show 12 ≤ a2 by omega), e5, e6, e7, e8, e9, ne_f (rfl : ((12 : Nat) : Int) - cntF V2 12 = ((12 : Nat) : Int) - cntF V2 12), e10, e11, e12, e9n, eq_t (rfl : 9 - nz (addZ zs12 ls) = 9 - nz (addZ zs12 ls)), e13, hlen, eq_t (show ((0 : Nat) : Int) = 0 from rfl), w, Option.bind_some, decide_true, decide_false, cond_true, cond_false, seqJ_n, seqJ_r, seqJ_e, headK_c, asB_bool, asI_int, asS_s, asN_int, extrK_0, extrK_1, extrK_2, Bool.not_true, Bool.not_false, Nat.beq_refl]
  · rw [if_neg (by omega)] at hbad
    subst hbad
    simp -implicitDefEqProofs only [ge_f (show a2 < 3 by omega), e5, e6, e7, e8, e9, ne_f (rfl : ((12 : Nat) : Int) - cntF V2 12 = ((12 : Nat) : Int) - cntF V2 12), e10, e11, e12, e9n, eq_t (rfl : 9 - nz (addZ zs12 ls) = 9 - nz (addZ zs12 ls)), e13, hlen, eq_t (show ((0 : Nat) : Int) = 0 from rfl), w, Option.bind_some, decide_true, decide_false, cond_true, cond_false, seqJ_n, seqJ_r, seqJ_e, headK_c, asB_bool, asI_int, asS_s, asN_int, extrK_0, extrK_1, extrK_2, Bool.not_true, Bool.not_false, Nat.beq_refl]
end Go.Proofs.Ytkikncdhmifkaaa
