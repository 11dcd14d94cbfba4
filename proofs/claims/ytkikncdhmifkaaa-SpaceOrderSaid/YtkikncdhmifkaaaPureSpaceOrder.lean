/- The plain answer of SpaceOrder. -/
import Derived.Test.YtkikncdhmifkaaaQWakes
import Derived.Test.YtkikncdhmifkaaaKWithin
import Derived.Test.YtkikncdhmifkaaaKArr
namespace Go.Proofs.Ytkikncdhmifkaaa
open Go Go.Proofs.Ytkikncdhmifkaaa.E
set_option linter.unusedVariables false
set_option linter.unusedSimpArgs false
def arrB (h : Nat → Bool) : List SV := (List.range 14).map fun j => SV.bool (h j)
theorem arrB_len (h : Nat → Bool) : (arrB h).length = 14 := by simp [arrB]
theorem arrB_get (h : Nat → Bool) {k : Nat} (hk : k < 14) : (arrB h)[k]? = some (.bool (h k)) := by
  unfold arrB
  rw [List.getElem?_map, List.getElem?_range hk]; rfl
theorem arrB_cong {h g : Nat → Bool} (hg : ∀ j, j < 14 → h j = g j) : arrB h = arrB g := by
  unfold arrB
  refine List.map_congr_left fun j hj => ?_
  rw [hg j (List.mem_range.mp hj)]
theorem arrB_set (h : Nat → Bool) {k : Nat} (hk : k < 14) (b : Bool) : (arrB h).set k (.bool b) = arrB (setV h k b) := by
  apply List.ext_getElem?
  intro j
  rw [List.getElem?_set, arrB_len]
  by_cases hj : j < 14
  · rw [arrB_get h hj, arrB_get (setV h k b) hj]
    show _ = some (SV.bool (if j = k then b else h j))
    by_cases h1 : k = j
    · rw [if_pos h1, if_pos hk, if_pos h1.symm]
    · rw [if_neg h1, if_neg (show ¬ j = k from fun e => h1 e.symm)]
  · rw [List.getElem?_eq_none (by rw [arrB_len]; omega), if_neg (by omega), List.getElem?_eq_none (by rw [arrB_len]; omega)]
/-- What holds between the acts. -/
structure OI (fixed : Nat) (h w V : Nat → Bool) (cs W : List Int) : Prop where
  hV : ∀ j, j < 14 → V j = (decide (j < fixed) || (h j || w j))
  len : cs.length = 14
  hc : ∀ j, j < 14 → cs.getD j 0 = if h j then 1 else 0
  hf : ∀ j, h j = true → fixed ≤ j ∧ w j = false
  wf : ∀ j, w j = true → fixed ≤ j
  W1 : ∀ v ∈ W, 0 ≤ v ∧ v < 14
  W2 : ∀ j : Nat, j < 14 → ((j : Int) ∈ W ↔ w j = true)
  W3 : (W.length : Int) = cntF w 14
theorem OI.fit {fixed : Nat} {h w V : Nat → Bool} {cs W : List Int} (o : OI fixed h w V cs W) (k : Nat) (hk : k ≤ 100) : fits cs k := fun v hv => by
  obtain ⟨j, hj, rfl⟩ := List.mem_iff_getElem.mp hv
  have hl := o.len
  have := o.hc j (by omega)
  rw [getD_lt hj] at this
  rw [this]
  split <;> omega
theorem OI.of {fixed : Nat} {h w V : Nat → Bool} {cs W : List Int} (o : OI fixed h w V cs W) {k : Nat} (hk : k < 14) : ofI cs (k : Int) = if h k then 1 else 0 := by
  unfold ofI mayI
  rw [o.len, decide_eq_true (by omega), decide_eq_true (by omega), nat_toNat, ← o.hc k hk]; rfl
theorem OI.Wlen {fixed : Nat} {h w V : Nat → Bool} {cs W : List Int} (o : OI fixed h w V cs W) : W.length ≤ 14 := by
  have := cntF_le w 14
  have := o.W3
  omega
theorem ins_mem (W : List Int) (i v : Int) : v ∈ insK W i ↔ v = i ∨ v ∈ W := by
  unfold insK
  have h := List.take_append_drop (cutK W i W.length) W
  constructor
  · intro hm
    rcases List.mem_append.mp hm with h1 | h1
    · exact .inr (List.mem_of_mem_take h1)
    · rcases List.mem_cons.mp h1 with h2 | h2
      · exact .inl h2
      · exact .inr (List.mem_of_mem_drop h2)
  · rintro (h1 | h1)
    · rw [h1]; exact List.mem_append_right _ (List.mem_cons_self ..)
    · rw [← h] at h1
      rcases List.mem_append.mp h1 with h2 | h2
      · exact List.mem_append_left _ h2
      · exact List.mem_append_right _ (List.mem_cons_of_mem _ h2)
theorem ins_len (W : List Int) (i : Int) : (insK W i).length = W.length + 1 := by
  have := cutK_le W i W.length
  unfold insK
  simp only [List.length_append, List.length_take, List.length_cons, List.length_drop]
  omega
theorem cntF_set1 {V : Nat → Bool} {i : Nat} (hi : V i = false) : ∀ n : Nat, cntF (setV V i true) n = cntF V n + if i < n then 1 else 0
  | 0 => by simp [cntF]
  | n + 1 => by
    have ih := cntF_set1 hi n
    show cntF (setV V i true) n + (if setV V i true n then 1 else 0) = cntF V n + (if V n then 1 else 0) + if i < n + 1 then 1 else 0
    rw [ih]
    by_cases h : n = i
    · subst h
      have hs : setV V n true n = true := by simp [setV]
      rw [hs, hi, if_neg (show ¬ n < n by omega), if_pos (show n < n + 1 by omega)]; simp
    · have hs : setV V i true n = V n := by simp [setV, h]
      rw [hs]
      by_cases h2 : i < n
      · rw [if_pos h2, if_pos (show i < n + 1 by omega)]; omega
      · rw [if_neg h2, if_neg (show ¬ i < n + 1 by omega)]; omega
theorem OI.drop {fixed : Nat} {h w V : Nat → Bool} {cs W : List Int} (o : OI fixed h w V cs W) {k : Nat} (hk : k < 14) (hh : h k = true) : OI fixed (setV h k false) (setV w k true) V (decZ cs k) (insK W k) := by
  have hwk := (o.hf k hh).2
  refine ⟨fun j hj => ?_, by rw [decZ_len]; exact o.len, fun j hj => ?_, fun j hj => ?_, fun j hj => ?_, fun v hv => ?_, fun j hj => ?_, ?_⟩
  · rw [o.hV j hj]; unfold setV
    by_cases hjk : j = k
    · rw [if_pos hjk, if_pos hjk, hjk, hh, hwk]; rfl
    · rw [if_neg hjk, if_neg hjk]
  · unfold decZ
    have hl := o.len
    rw [nat_toNat, getD_setW (by omega)]; unfold setV
    by_cases hjk : j = k
    · rw [if_pos hjk, if_pos hjk, o.hc k hk, hh]; rfl
    · rw [if_neg hjk, if_neg hjk, o.hc j hj]
  · unfold setV at hj ⊢
    by_cases hjk : j = k
    · rw [if_pos hjk] at hj; cases hj
    · rw [if_neg hjk] at hj ⊢; exact o.hf j hj
  · unfold setV at hj
    by_cases hjk : j = k
    · rw [hjk]; exact (o.hf k hh).1
    · rw [if_neg hjk] at hj; exact o.wf j hj
  · rcases (ins_mem W k v).mp hv with h1 | h1
    · omega
    · exact o.W1 v h1
  · rw [ins_mem, o.W2 j hj]; unfold setV
    by_cases hjk : j = k
    · rw [if_pos hjk]; exact ⟨fun _ => rfl, fun _ => .inl (by omega)⟩
    · rw [if_neg hjk]; exact ⟨fun h => h.resolve_left (by omega), .inr⟩
  · rw [ins_len, cntF_set1 hwk, if_pos hk, ← o.W3]; rfl
theorem OI.commit {fixed : Nat} {h w V : Nat → Bool} {cs W : List Int} (o : OI fixed h w V cs W) : OI fixed h (fun _ => false) (putV false V W) cs [] := by
  refine ⟨fun j hj => ?_, o.len, o.hc, fun j hj => ⟨(o.hf j hj).1, rfl⟩, fun j hj => (by cases hj), fun v hv => (by simp at hv), fun j hj => (by simp), by decide⟩
  rw [putV_is false W V j fun v hv => (o.W1 v hv).1]
  have h2 := o.W2 j hj
  by_cases hm : (j : Int) ∈ W
  · rw [if_pos hm]
    have hwj := h2.mp hm
    have hfx := o.wf j hwj
    have hhj : h j = false := by
      cases hq : h j
      · rfl
      · have := (o.hf j hq).2; rw [hwj] at this; cases this
    rw [decide_eq_false (by omega), hhj]; rfl
  · rw [if_neg hm]
    have hwj : w j = false := by
      cases hq : w j
      · rfl
      · exact absurd (h2.mpr hq) hm
    rw [o.hV j hj, hwj]
theorem OI.take {fixed : Nat} {h w V : Nat → Bool} {cs W : List Int} (o : OI fixed h w V cs W) {g : Nat} (hg : g < 14) (hfx : fixed ≤ g) (hh : h g = false) (hw : w g = false) : OI fixed (setV h g true) w (setV V g true) (incZ cs g) W := by
  refine ⟨fun j hj => ?_, by rw [incZ_len]; exact o.len, fun j hj => ?_, fun j hj => ?_, o.wf, o.W1, o.W2, o.W3⟩
  · unfold setV
    by_cases hjk : j = g
    · rw [if_pos hjk, if_pos hjk]; simp
    · rw [if_neg hjk, if_neg hjk, o.hV j hj]
  · unfold incZ
    have hl := o.len
    rw [nat_toNat, getD_setW (by omega)]; unfold setV
    by_cases hjk : j = g
    · rw [if_pos hjk, if_pos hjk, o.hc g hg, hh]; rfl
    · rw [if_neg hjk, if_neg hjk, o.hc j hj]
  · unfold setV at hj
    by_cases hjk : j = g
    · rw [hjk]; exact ⟨hfx, hw⟩
    · rw [if_neg hjk] at hj; exact o.hf j hj
/-- The state: the space, and the two arrays. -/
structure OS (N : Nat) (μ : AMem) (H : Nat → Prop) (x : SV) (fixed a b : Nat) (h w V : Nat → Bool) (cs W : List Int) : Prop where
  sp : Sp H N μ x fixed 14 V cs W
  oi : OI fixed h w V cs W
  ha : Arr μ a (arrB h)
  hb : Arr μ b (arrB w)
  na : ¬ H a
  nb : ¬ H b
  ne : a ≠ b
  la : N ≤ a
  lb : N ≤ b
theorem least_loop {μ : AMem} {t x : SV} {fixed a b : Nat} {h w : Nat → Bool} {i : Int} (ha : Arr μ a (arrB h)) (hb : Arr μ b (arrB w)) :
    ∀ (k : Nat) (l : Int), fixed + k ≤ 14 → Fst (fun j => h j || w j) 14 (fixed + k) l → ∃ l', overdublaw13_SpaceOrder_L4 [.s t, .s (.int .i64 fixed), .s x, .s (.ptr a 0 0), .s (.ptr b 0 0), .s (.int .i64 i)] [.s (.int .i64 l), .s (.int .i64 (fixed + k - 1 : Int))] μ = some (.exit 3, [.s t, .s (.int .i64 fixed), .s x, .s (.ptr a 0 0), .s (.ptr b 0 0), .s (.int .i64 i), .s (.int .i64 l')], μ) ∧ Fst (fun j => h j || w j) 14 fixed l'
  | 0, l, hk, hl => by
    refine ⟨l, ?_, hl⟩
    rw [overdublaw13_SpaceOrder_L4_eq, overdublaw13_SpaceOrder_L4_B_eq]
    simp -implicitDefEqProofs (disch := omega) only [lt_t, lt_f, gt_t, gt_f, le_t, le_f, ge_t, ge_f, ne_t, ne_f, eq_t, eq_f, w64, chk_true, Option.bind_some, decide_true, decide_false, cond_true, cond_false, seqJ_n, seqJ_r, seqJ_e, headK_c, asB_bool, asI_int, asS_s, asN_int, extrK_0, extrK_1, extrK_2, Bool.not_true, Bool.not_false, Nat.beq_refl]
  | k + 1, l, hk, hl => by
    have e0 : (fixed : Int) + ((k + 1 : Nat) : Int) - 1 = ((fixed + k : Nat) : Int) := by omega
    have e1 : IntKind.wrap .i64 (((fixed + k : Nat) : Int) - 1) = (fixed : Int) + (k : Int) - 1 := by rw [wr (by omega)]; omega
    have hif : 0 ≤ ((fixed + k : Nat) : Int) ∧ ((fixed + k : Nat) : Int) < ((14 : Nat) : Int) := by omega
    have g1 := ha.cell (arrB_get h (k := fixed + k) (by omega))
    have g2 := hb.cell (arrB_get w (k := fixed + k) (by omega))
    have hge := ge_t (show (fixed : Int) ≤ ((fixed + k : Nat) : Int) by omega)
    rw [overdublaw13_SpaceOrder_L4_eq, overdublaw13_SpaceOrder_L4_B_eq, e0]
    cases hh : h (fixed + k)
    · cases hw : w (fixed + k)
      · obtain ⟨l', q1, q2⟩ := least_loop (t := t) (x := x) (fixed := fixed) (i := i) ha hb k ((fixed + k : Nat) : Int) (by omega) (.inr ⟨fixed + k, rfl, by omega, by omega, by simp [hh, hw], fun j h1 h2 => by omega⟩)
        rw [hh] at g1
        rw [hw] at g2
        refine ⟨l', ?_, q2⟩
        simp -implicitDefEqProofs only [hge, if_pos hif, nat_toNat, g1, g2, e1, Option.bind_some, decide_true, decide_false, cond_true, cond_false, seqJ_n, seqJ_r, seqJ_e, headK_c, asB_bool, asI_int, asS_s, asN_int, extrK_0, extrK_1, extrK_2, Bool.not_true, Bool.not_false, Nat.beq_refl]
        exact q1
      · obtain ⟨l', q1, q2⟩ := least_loop (t := t) (x := x) (fixed := fixed) (i := i) ha hb k l (by omega) (by
          rcases hl with ⟨h1, h2⟩ | ⟨g, h1, h2, h3, h4, h5⟩
          · exact .inl ⟨h1, fun j h3 h4 => by
              by_cases hj : j = fixed + k
              · simp [hj, hw]
              · exact h2 j (by omega) h4⟩
          · exact .inr ⟨g, h1, by omega, h3, h4, fun j h6 h7 => by
              by_cases hj : j = fixed + k
              · simp [hj, hw]
              · exact h5 j (by omega) h7⟩)
        rw [hh] at g1
        rw [hw] at g2
        refine ⟨l', ?_, q2⟩
        simp -implicitDefEqProofs only [hge, if_pos hif, nat_toNat, g1, g2, e1, Option.bind_some, decide_true, decide_false, cond_true, cond_false, seqJ_n, seqJ_r, seqJ_e, headK_c, asB_bool, asI_int, asS_s, asN_int, extrK_0, extrK_1, extrK_2, Bool.not_true, Bool.not_false, Nat.beq_refl]
        exact q1
    · obtain ⟨l', q1, q2⟩ := least_loop (t := t) (x := x) (fixed := fixed) (i := i) ha hb k l (by omega) (by
        rcases hl with ⟨h1, h2⟩ | ⟨g, h1, h2, h3, h4, h5⟩
        · exact .inl ⟨h1, fun j h3 h4 => by
            by_cases hj : j = fixed + k
            · simp [hj, hh]
            · exact h2 j (by omega) h4⟩
        · exact .inr ⟨g, h1, by omega, h3, h4, fun j h6 h7 => by
            by_cases hj : j = fixed + k
            · simp [hj, hh]
            · exact h5 j (by omega) h7⟩)
      rw [hh] at g1
      refine ⟨l', ?_, q2⟩
      simp -implicitDefEqProofs only [hge, if_pos hif, nat_toNat, g1, e1, Option.bind_some, decide_true, decide_false, cond_true, cond_false, seqJ_n, seqJ_r, seqJ_e, headK_c, asB_bool, asI_int, asS_s, asN_int, extrK_0, extrK_1, extrK_2, Bool.not_true, Bool.not_false, Nat.beq_refl]
      exact q1
theorem clear_loop {t x : SV} {fixed : Int} {a b : Nat} {w : Nat → Bool} {i0 : Int} :
    ∀ (k i : Nat) (μ : AMem), i + k = 14 → WF μ → Arr μ b (arrB fun j => if j < i then false else w j) →
      ∃ μ', overdublaw13_SpaceOrder_L3 [.s t, .s (.int .i64 fixed), .s x, .s (.ptr a 0 0), .s (.ptr b 0 0), .s (.int .i64 i0)] [.s (.int .i64 (cntF w i)), .s (.int .i64 i)] μ = some (.exit 5, [.s t, .s (.int .i64 fixed), .s x, .s (.ptr a 0 0), .s (.ptr b 0 0), .s (.int .i64 i0), .s (.int .i64 (cntF w 14))], μ') ∧ Keep (fun j => j = b) μ μ' ∧ Arr μ' b (arrB fun _ => false)
  | 0, i, μ, h, hw, ha => by
    obtain rfl : i = 14 := by omega
    refine ⟨μ, ?_, Keep.refl hw, by rw [← arrB_cong (h := fun j => if j < 14 then false else w j) fun j hj => if_pos hj]; exact ha⟩
    rw [overdublaw13_SpaceOrder_L3_eq, overdublaw13_SpaceOrder_L3_B_eq]
    rfl
  | k + 1, i, μ, h, hw, ha => by
    have hif : 0 ≤ (i : Int) ∧ (i : Int) < ((14 : Nat) : Int) := by omega
    have g1 := ha.cell (arrB_get _ (k := i) (by omega))
    simp only [Nat.lt_irrefl, if_false] at g1
    obtain ⟨m1, s1, s2, s3⟩ := ha.store hw (k := i) (by rw [arrB_len]; omega) (.bool false)
    rw [arrB_set _ (by omega)] at s3
    obtain ⟨m2, e2, k2, a2⟩ := clear_loop (t := t) (x := x) (fixed := fixed) (a := a) (w := w) (i0 := i0) k (i + 1) m1 (by omega) s2.wf (by
      rw [← arrB_cong (h := setV (fun j => if j < i then false else w j) i false) fun j hj => ?_]
      · exact s3
      · show (if j = i then false else if j < i then false else w j) = if j < i + 1 then false else w j
        by_cases h1 : j = i
        · rw [if_pos h1, if_pos (by omega)]
        · rw [if_neg h1]
          by_cases h2 : j < i
          · rw [if_pos h2, if_pos (by omega)]
          · rw [if_neg h2, if_neg (by omega)])
    have hcl := cntF_le w i
    have ei : IntKind.wrap .i64 ((i : Int) + 1) = (i : Int) + 1 := wr (by omega)
    have ec : IntKind.wrap .i64 (cntF w i + 1) = cntF w i + 1 := wr (by omega)
    refine ⟨m2, ?_, s2.trans k2, a2⟩
    rw [overdublaw13_SpaceOrder_L3_eq, overdublaw13_SpaceOrder_L3_B_eq]
    rw [nsu, cntF] at e2
    cases hwi : w i
    · rw [hwi] at g1 e2
      simp only [Bool.false_eq_true, if_false, Int.add_zero] at e2
      simp -implicitDefEqProofs only [lt_t (show (i : Int) < 14 by omega), if_pos hif, nat_toNat, g1, s1, ei, Option.bind_some, decide_true, decide_false, cond_true, cond_false, seqJ_n, seqJ_r, seqJ_e, headK_c, asB_bool, asI_int, asS_s, asN_int, extrK_0, extrK_1, extrK_2, Bool.not_true, Bool.not_false, Nat.beq_refl]
      exact e2
    · rw [hwi] at g1 e2
      simp only [if_true] at e2
      simp -implicitDefEqProofs only [lt_t (show (i : Int) < 14 by omega), if_pos hif, nat_toNat, g1, s1, ei, ec, Option.bind_some, decide_true, decide_false, cond_true, cond_false, seqJ_n, seqJ_r, seqJ_e, headK_c, asB_bool, asI_int, asS_s, asN_int, extrK_0, extrK_1, extrK_2, Bool.not_true, Bool.not_false, Nat.beq_refl]
      exact e2
theorem tdiv14 {n : Int} (h : -9223372036854775808 ≤ n ∧ n ≤ 9223372036854775807) : IntKind.wrap .i64 (Int.tdiv n 14) = Int.tdiv n 14 ∧ -9223372036854775808 ≤ Int.tdiv n 14 ∧ Int.tdiv n 14 ≤ 9223372036854775807 := by
  have hb : -9223372036854775808 ≤ Int.tdiv n 14 ∧ Int.tdiv n 14 ≤ 9223372036854775807 := by
    rcases Int.le_total 0 n with h0 | h0
    · rw [Int.tdiv_eq_ediv_of_nonneg h0]; omega
    · have e : Int.tdiv n 14 = -((-n) / 14) := by
        rw [← Int.tdiv_eq_ediv_of_nonneg (show 0 ≤ -n by omega), Int.neg_tdiv, Int.neg_neg]
      rw [e]; omega
  exact ⟨wr hb, hb⟩
theorem OS.bool {h : Nat → Bool} {k : Nat} {b : Bool} (e : h k = b) : ∀ j, j < 14 → setV h k b j = h j := fun j _ => by
  unfold setV
  by_cases hj : j = k
  · rw [if_pos hj, hj, e]
  · rw [if_neg hj]
theorem act_step {μ0 μ : AMem} (h0 : WF μ0) (hs : Same μ0 μ) {t x : SV} {zs : List Int} (hx : IsRow μ0 .i64 t zs) (hz : ∀ v ∈ zs, (Lit.int .i64 v).wf = true) {H : Nat → Prop} {fixed a b : Nat} (hfx : fixed ≤ 14) {h w V : Nat → Bool} {cs W : List Int} (o : OS μ0.next μ H x fixed a b h w V cs W) {i : Nat} (hi : i < zs.length) (hi2 : i < 40) :
    ∃ μ' H' h' w' V' cs' W', overdublaw13_SpaceOrder_L1_B [.s t, .s (.int .i64 fixed), .s x, .s (.ptr a 0 0), .s (.ptr b 0 0)] [.s (.int .i64 i)] μ = some (.normal, [.s (.int .i64 ((i : Int) + 1))], μ') ∧ Same μ0 μ' ∧ OS μ0.next μ' H' x fixed a b h' w' V' cs' W' := by
  have hx1 := hx.same hs
  have hzi := wf64 (hz _ (getD_mem hi))
  have w1 := within_is (zs.getD i 0) 14 hzi (by omega) (by omega) μ
  obtain ⟨t1, t2⟩ := tdiv14 hzi
  have w2 := within_is (Int.tdiv (zs.getD i 0) 14) 4 t2 (by omega) (by omega) μ
  have hm1 := Int.emod_nonneg (zs.getD i 0) (show ¬ (14 : Int) = 0 by omega)
  have hm2 := Int.emod_lt_of_pos (zs.getD i 0) (show (0 : Int) < 14 by omega)
  obtain ⟨q, hq, hq1⟩ : ∃ q : Nat, zs.getD i 0 % 14 = (q : Int) ∧ q < 14 := ⟨(zs.getD i 0 % 14).toNat, by omega, by omega⟩
  rw [hq] at w1
  obtain ⟨d, hd⟩ : ∃ d, Int.tdiv (zs.getD i 0) 14 % 4 = d := ⟨_, rfl⟩
  rw [hd] at w2
  have c1 := lt_t (show (i : Int) < (zs.length : Int) by omega)
  have c2 := lt_t (show (i : Int) < 40 by omega)
  have r1 := fun {R : Type} (K : AV → Option R) => hx1.ind (i := (i : Int)) (by omega) (by omega) K
  have r2 := fun {R : Type} (K : AV → Option R) => hx1.load (i := (i : Int)) (by omega) (by omega) K
  rw [nat_toNat] at r2
  have ei : IntKind.wrap .i64 ((i : Int) + 1) = (i : Int) + 1 := wr (by omega)
  have hif : 0 ≤ (q : Int) ∧ (q : Int) < ((14 : Nat) : Int) := by omega
  have htt : (true == true) = true := rfl
  have hff : (false == false) = true := rfl
  have hnH : ∀ j, j = a → ¬ H j := fun j hj => hj ▸ o.na
  have hnHb : ∀ j, j = b → ¬ H j := fun j hj => hj ▸ o.nb
  rw [overdublaw13_SpaceOrder_L1_B_eq, hx1.len]
  by_cases hd0 : d = 0
  · -- drop
    have g1 := o.ha.cell (arrB_get h hq1)
    obtain ⟨d1, d2⟩ := spDrop_is hs.wf hs.next o.sp (o.oi.fit 0 (by omega)) (by have := o.oi.Wlen; omega) (q : Int)
    rw [o.oi.of hq1] at d1 d2
    cases hh : h q
    · rw [hh] at d1 g1
      have e1 := d1 rfl
      cases hwq : w q
      · obtain ⟨m1, s1, s2, s3⟩ := o.hb.store hs.wf (k := q) (by rw [arrB_len]; omega) (.bool false)
        obtain ⟨m2, s4, s5, s6⟩ := (o.ha.keep s2 (fun e => o.ne e)).store s2.wf (k := q) (by rw [arrB_len]; omega) (.bool false)
        rw [arrB_set _ hq1, arrB_cong (OS.bool hwq)] at s3
        rw [arrB_set _ hq1, arrB_cong (OS.bool hh)] at s6
        have g2 := o.hb.cell (arrB_get w hq1)
        rw [hwq] at g2
        refine ⟨m2, H, h, w, V, cs, W, ?_, keepSame h0 (keepSame h0 hs s2 fun j hj => hj ▸ o.lb) s5 fun j hj => hj ▸ o.la, ⟨(o.sp.off s2 hnHb).off s5 hnH, o.oi, s6, s3.keep s5 (fun e => o.ne e.symm), o.na, o.nb, o.ne, o.la, o.lb⟩⟩
        simp -implicitDefEqProofs only [c1, c2, r1, r2, w1, t1, w2, eq_t hd0, if_pos hif, nat_toNat, g1, e1, chk_true, hff, g2, s1, s4, ei, Option.bind_some, decide_true, decide_false, cond_true, cond_false, seqJ_n, seqJ_r, seqJ_e, headK_c, asB_bool, asI_int, asS_s, asN_int, extrK_0, extrK_1, extrK_2, Bool.not_true, Bool.not_false, Nat.beq_refl]
      · obtain ⟨m1, s1, s2, s3⟩ := o.hb.store hs.wf (k := q) (by rw [arrB_len]; omega) (.bool true)
        obtain ⟨m2, s4, s5, s6⟩ := (o.ha.keep s2 (fun e => o.ne e)).store s2.wf (k := q) (by rw [arrB_len]; omega) (.bool false)
        rw [arrB_set _ hq1, arrB_cong (OS.bool hwq)] at s3
        rw [arrB_set _ hq1, arrB_cong (OS.bool hh)] at s6
        have g2 := o.hb.cell (arrB_get w hq1)
        rw [hwq] at g2
        refine ⟨m2, H, h, w, V, cs, W, ?_, keepSame h0 (keepSame h0 hs s2 fun j hj => hj ▸ o.lb) s5 fun j hj => hj ▸ o.la, ⟨(o.sp.off s2 hnHb).off s5 hnH, o.oi, s6, s3.keep s5 (fun e => o.ne e.symm), o.na, o.nb, o.ne, o.la, o.lb⟩⟩
        simp -implicitDefEqProofs only [c1, c2, r1, r2, w1, t1, w2, eq_t hd0, if_pos hif, nat_toNat, g1, e1, chk_true, hff, g2, s1, s4, ei, Option.bind_some, decide_true, decide_false, cond_true, cond_false, seqJ_n, seqJ_r, seqJ_e, headK_c, asB_bool, asI_int, asS_s, asN_int, extrK_0, extrK_1, extrK_2, Bool.not_true, Bool.not_false, Nat.beq_refl]
    · rw [hh] at d2 g1
      obtain ⟨m1, H1, e1, k1, hsub, p1⟩ := d2 (by simp)
      rw [if_pos (by simp)] at p1
      have hwq := (o.oi.hf q hh).2
      have al : a < μ.next := by obtain ⟨ob, hob, _⟩ := o.ha; exact hs.wf.lt hob
      have bl : b < μ.next := by obtain ⟨ob, hob, _⟩ := o.hb; exact hs.wf.lt hob
      have na1 : ¬ H1 a := fun h => by rcases hsub a h with h | h; exact o.na h; omega
      have nb1 : ¬ H1 b := fun h => by rcases hsub b h with h | h; exact o.nb h; omega
      have a1 := o.ha.keep k1 o.na
      have b1 := o.hb.keep k1 o.nb
      obtain ⟨m2, s1, s2, s3⟩ := b1.store k1.wf (k := q) (by rw [arrB_len]; omega) (.bool true)
      obtain ⟨m3, s4, s5, s6⟩ := (a1.keep s2 (fun e => o.ne e)).store s2.wf (k := q) (by rw [arrB_len]; omega) (.bool false)
      rw [arrB_set _ hq1] at s3 s6
      have g2 := b1.cell (arrB_get w hq1)
      rw [hwq] at g2
      have g3 := a1.cell (arrB_get h hq1)
      rw [hh] at g3
      refine ⟨m3, H1, _, _, V, _, _, ?_, keepSame h0 (keepSame h0 (o.sp.since h0 hs k1) s2 fun j hj => hj ▸ o.lb) s5 fun j hj => hj ▸ o.la, ⟨(p1.off s2 fun j hj => hj ▸ nb1).off s5 fun j hj => hj ▸ na1, o.oi.drop hq1 hh, s6, s3.keep s5 (fun e => o.ne e.symm), na1, nb1, o.ne, o.la, o.lb⟩⟩
      simp -implicitDefEqProofs only [c1, c2, r1, r2, w1, t1, w2, eq_t hd0, if_pos hif, nat_toNat, g1, e1, chk_true, htt, g2, g3, s1, s4, ei, Option.bind_some, decide_true, decide_false, cond_true, cond_false, seqJ_n, seqJ_r, seqJ_e, headK_c, asB_bool, asI_int, asS_s, asN_int, extrK_0, extrK_1, extrK_2, Bool.not_true, Bool.not_false, Nat.beq_refl]
  · by_cases hd1 : d = 1
    · -- commit
      obtain ⟨m1, e1, k1, b1⟩ := clear_loop (t := t) (x := x) (fixed := (fixed : Int)) (a := a) (w := w) (i0 := (i : Int)) 14 0 μ (by omega) hs.wf (by
        rw [← arrB_cong (h := w) fun j hj => (if_neg (by omega)).symm]
        exact o.hb)
      rw [n0, show cntF w 0 = 0 from rfl] at e1
      have hs1 := keepSame h0 hs k1 fun j hj => hj ▸ o.lb
      obtain ⟨m2, e2, k2, p2⟩ := spCommit_is hs1.wf (o.sp.off k1 hnHb) (by omega) (by have := o.oi.Wlen; omega) o.oi.W1
      rw [o.oi.W3] at e2
      refine ⟨m2, H, h, _, _, cs, _, ?_, o.sp.off k1 hnHb |>.since h0 hs1 k2, ⟨p2, o.oi.commit, (o.ha.keep k1 (fun e => o.ne e)).keep k2 o.na, b1.keep k2 o.nb, o.na, o.nb, o.ne, o.la, o.lb⟩⟩
      simp -implicitDefEqProofs only [c1, c2, r1, r2, w1, t1, w2, eq_f hd0, eq_t hd1, e1, e2, ne_f (rfl : cntF w 14 = cntF w 14), ei, Option.bind_some, decide_true, decide_false, cond_true, cond_false, seqJ_n, seqJ_r, seqJ_e, headK_c, asB_bool, asI_int, asS_s, asN_int, extrK_0, extrK_1, extrK_2, Bool.not_true, Bool.not_false, Nat.beq_refl]
    · -- take
      obtain ⟨l, e1, hl⟩ := least_loop (t := t) (x := x) (fixed := fixed) (i := (i : Int)) o.ha o.hb (14 - fixed) (-1) (by omega) (.inl ⟨rfl, fun j h1 h2 => by omega⟩)
      rw [show (fixed : Int) + ((14 - fixed : Nat) : Int) - 1 = 13 by omega] at e1
      obtain ⟨t3, t4⟩ := spTake_is hs.wf o.sp (by omega) (o.oi.fit 1 (by omega))
      rcases hl with ⟨rfl, hall⟩ | ⟨g, rfl, g1, g2, g3, g4⟩
      · have e2 := t3 fun j hj => by
          rw [o.oi.hV j hj]
          by_cases hjf : j < fixed
          · rw [decide_eq_true hjf]; rfl
          · rw [show (h j || w j) = true from hall j (by omega) hj, Bool.or_true]
        refine ⟨μ, H, h, w, V, cs, W, ?_, hs, o⟩
        simp -implicitDefEqProofs only [c1, c2, r1, r2, w1, t1, w2, eq_f hd0, eq_f hd1, e1, e2, eq_f (show ¬ (3 : Int) = 0 by omega), ge_f (show (-1 : Int) < 0 by omega), hff, ei, Option.bind_some, decide_true, decide_false, cond_true, cond_false, seqJ_n, seqJ_r, seqJ_e, headK_c, asB_bool, asI_int, asS_s, asN_int, extrK_0, extrK_1, extrK_2, Bool.not_true, Bool.not_false, Nat.beq_refl]
      · have hhw : h g = false ∧ w g = false := by simpa using g3
        obtain ⟨m1, e2, k1, p1⟩ := t4 g g2 (by rw [o.oi.hV g g2, hhw.1, hhw.2, decide_eq_false (by omega)]; rfl) (fun j hj => by
          rw [o.oi.hV j (by omega)]
          by_cases hjf : j < fixed
          · rw [decide_eq_true hjf]; rfl
          · rw [show (h j || w j) = true from g4 j (by omega) hj, Bool.or_true])
        obtain ⟨m2, s1, s2, s3⟩ := (o.ha.keep k1 o.na).store k1.wf (k := g) (by rw [arrB_len]; omega) (.bool true)
        rw [arrB_set _ g2] at s3
        refine ⟨m2, H, _, w, _, _, W, ?_, keepSame h0 (o.sp.since h0 hs k1) s2 fun j hj => hj ▸ o.la, ⟨p1.off s2 hnH, o.oi.take g2 g1 hhw.1 hhw.2, s3, (o.hb.keep k1 o.nb).keep s2 (fun e => o.ne e.symm), o.na, o.nb, o.ne, o.la, o.lb⟩⟩
        have hip := fun {R : Type} (K : AV → Option R) => indP_p 14 a 0 0 (i := (g : Int)) (by omega) K
        simp -implicitDefEqProofs only [c1, c2, r1, r2, w1, t1, w2, eq_f hd0, eq_f hd1, e1, e2, eq_t (rfl : (0 : Int) = 0), ge_t (show (0 : Int) ≤ (g : Int) by omega), htt, ne_f (rfl : (g : Int) = (g : Int)), hip, nat_toNat, storeAt_p, s1, ei, Option.bind_some, decide_true, decide_false, cond_true, cond_false, seqJ_n, seqJ_r, seqJ_e, headK_c, asB_bool, asI_int, asS_s, asN_int, extrK_0, extrK_1, extrK_2, Bool.not_true, Bool.not_false, Nat.beq_refl]
theorem act_loop {μ0 : AMem} (h0 : WF μ0) {t x : SV} {zs : List Int} (hx : IsRow μ0 .i64 t zs) (hz : ∀ v ∈ zs, (Lit.int .i64 v).wf = true) {fixed a b : Nat} (hfx : fixed ≤ 14) :
    ∀ (k i : Nat) (μ : AMem) (H : Nat → Prop) (h w V : Nat → Bool) (cs W : List Int), i + k = min 40 zs.length → Same μ0 μ → OS μ0.next μ H x fixed a b h w V cs W →
      ∃ μ' H' h' w' V' cs' W', overdublaw13_SpaceOrder_L1 [.s t, .s (.int .i64 fixed), .s x, .s (.ptr a 0 0), .s (.ptr b 0 0)] [.s (.int .i64 i)] μ = some (.exit 0, [.s (.int .i64 fixed), .s x, .s (.ptr a 0 0), .s (.ptr b 0 0)], μ') ∧ Same μ0 μ' ∧ OS μ0.next μ' H' x fixed a b h' w' V' cs' W'
  | 0, i, μ, H, h, w, V, cs, W, hk, hs, o => by
    refine ⟨μ, H, h, w, V, cs, W, ?_, hs, o⟩
    rw [overdublaw13_SpaceOrder_L1_eq, overdublaw13_SpaceOrder_L1_B_eq, (hx.same hs).len]
    by_cases h1 : (i : Int) < (zs.length : Int)
    · simp -implicitDefEqProofs (disch := omega) only [lt_t, lt_f, gt_t, gt_f, le_t, le_f, ge_t, ge_f, ne_t, ne_f, eq_t, eq_f, w64, chk_true, Option.bind_some, decide_true, decide_false, cond_true, cond_false, seqJ_n, seqJ_r, seqJ_e, headK_c, asB_bool, asI_int, asS_s, asN_int, extrK_0, extrK_1, extrK_2, Bool.not_true, Bool.not_false, Nat.beq_refl]
    · simp -implicitDefEqProofs (disch := omega) only [lt_t, lt_f, gt_t, gt_f, le_t, le_f, ge_t, ge_f, ne_t, ne_f, eq_t, eq_f, w64, chk_true, Option.bind_some, decide_true, decide_false, cond_true, cond_false, seqJ_n, seqJ_r, seqJ_e, headK_c, asB_bool, asI_int, asS_s, asN_int, extrK_0, extrK_1, extrK_2, Bool.not_true, Bool.not_false, Nat.beq_refl]
  | k + 1, i, μ, H, h, w, V, cs, W, hk, hs, o => by
    obtain ⟨m1, H1, h1, w1, V1, c1, W1, e1, k1, o1⟩ := act_step h0 hs hx hz hfx o (i := i) (by omega) (by omega)
    obtain ⟨m2, H2, h2, w2, V2, c2, W2, e2, k2, o2⟩ := act_loop h0 hx hz hfx k (i + 1) m1 H1 h1 w1 V1 c1 W1 (by omega) k1 o1
    rw [nsu] at e2
    refine ⟨m2, H2, h2, w2, V2, c2, W2, ?_, k2, o2⟩
    rw [overdublaw13_SpaceOrder_L1_eq, e1]
    exact e2
theorem end_loop {N : Nat} {μ : AMem} {H : Nat → Prop} {x : SV} {fixed a b : Nat} {h w V : Nat → Bool} {cs W : List Int} (o : OS N μ H x fixed a b h w V cs W) :
    ∀ k i : Nat, i + k = 14 → overdublaw13_SpaceOrder_L2 [.s (.int .i64 fixed), .s x, .s (.ptr a 0 0), .s (.ptr b 0 0)] [.s (.int .i64 i)] μ = some (.exit 7, [], μ)
  | 0, i, hk => by
    obtain rfl : i = 14 := by omega
    rw [overdublaw13_SpaceOrder_L2_eq, overdublaw13_SpaceOrder_L2_B_eq]
    rfl
  | k + 1, i, hk => by
    have ih := end_loop o k (i + 1) (by omega)
    rw [nsu] at ih
    have e1 := spOf_is o.sp (i : Int)
    have e2 := spUsed_is o.sp (i : Int)
    rw [o.oi.of (by omega)] at e1
    rw [usedI_in (by omega), o.oi.hV i (by omega)] at e2
    have g1 := o.ha.cell (arrB_get h (k := i) (by omega))
    have g2 := o.hb.cell (arrB_get w (k := i) (by omega))
    have ei : IntKind.wrap .i64 ((i : Int) + 1) = (i : Int) + 1 := wr (by omega)
    have hip := fun {R : Type} (s : Nat) (K : AV → Option R) => indP_p 14 s 0 0 (i := (i : Int)) (by omega) K
    have htt : (true == true) = true := rfl
    have hff : (false == false) = true := rfl
    have h01 : ((0 : Int) == 1) = false := rfl
    have h11 : ((1 : Int) == 1) = true := rfl
    rw [overdublaw13_SpaceOrder_L2_eq, overdublaw13_SpaceOrder_L2_B_eq]
    cases hh : h i
    · rw [hh] at e1 e2 g1
      simp only [Bool.false_eq_true, if_false] at e1
      by_cases hfi : i < fixed
      · rw [decide_eq_true hfi, Bool.true_or] at e2
        simp -implicitDefEqProofs only [lt_t (show (i : Int) < 14 by omega), hip, nat_toNat, loadAt_p, g1, e1, chk_true, h01, hff, e2, lt_t (show (i : Int) < (fixed : Int) by omega), htt, ei, Option.bind_some, decide_true, decide_false, cond_true, cond_false, seqJ_n, seqJ_r, seqJ_e, headK_c, asB_bool, asI_int, asS_s, asN_int, extrK_0, extrK_1, extrK_2, Bool.not_true, Bool.not_false, Nat.beq_refl]
        exact ih
      · rw [decide_eq_false hfi, Bool.false_or, Bool.false_or] at e2
        have hww : (w i == w i) = true := by simp
        simp -implicitDefEqProofs only [lt_t (show (i : Int) < 14 by omega), hip, nat_toNat, loadAt_p, g1, e1, chk_true, h01, hff, e2, lt_f (show (fixed : Int) ≤ (i : Int) by omega), g2, hww, ei, Option.bind_some, decide_true, decide_false, cond_true, cond_false, seqJ_n, seqJ_r, seqJ_e, headK_c, asB_bool, asI_int, asS_s, asN_int, extrK_0, extrK_1, extrK_2, Bool.not_true, Bool.not_false, Nat.beq_refl]
        exact ih
    · rw [hh] at e1 e2 g1
      simp only [if_true] at e1
      have hfi := (o.oi.hf i hh).1
      rw [Bool.true_or, Bool.or_true] at e2
      simp -implicitDefEqProofs only [lt_t (show (i : Int) < 14 by omega), hip, nat_toNat, loadAt_p, g1, e1, chk_true, h11, htt, e2, lt_f (show (fixed : Int) ≤ (i : Int) by omega), ei, Option.bind_some, decide_true, decide_false, cond_true, cond_false, seqJ_n, seqJ_r, seqJ_e, headK_c, asB_bool, asI_int, asS_s, asN_int, extrK_0, extrK_1, extrK_2, Bool.not_true, Bool.not_false, Nat.beq_refl]
      exact ih
theorem pureSpaceOrder (x0 : Arg) (z0 : List Int) (s0 : Arg.isRow .i64 z0 x0) (w0 : ∀ n ∈ z0, (Lit.int .i64 n).wf = true) (y0 : z0.length * 8 ≤ 140737488351232) (a1 : Int) (w1 : (Lit.int .i64 a1).wf = true) :
    ∃ μ', overdublaw13_SpaceOrder (argVals 0 [x0, .i .i64 a1]) (argMem [x0, .i .i64 a1]) = some (.s (.bool true), μ') := by
  obtain ⟨a, ha, hx⟩ := IsRow.arg (l := [x0, .i .i64 a1]) (j := 0) s0 rfl
  have hw := WF.args [x0, .i .i64 a1]
  show ∃ μ', overdublaw13_SpaceOrder [x0.val 0, .s (.int .i64 a1)] _ = _
  rw [ha]
  generalize argMem [x0, .i .i64 a1] = μ at *
  have hm1 := Int.emod_nonneg a1 (show ¬ (4 : Int) = 0 by omega)
  have hm2 := Int.emod_lt_of_pos a1 (show (0 : Int) < 4 by omega)
  obtain ⟨fixed, hf, hf1⟩ : ∃ n : Nat, a1 % 4 = (n : Int) ∧ n ≤ 3 := ⟨(a1 % 4).toNat, by omega, by omega⟩
  have e0 := within_is a1 4 (wf64 w1) (by omega) (by omega) μ
  rw [hf] at e0
  obtain ⟨x, H, m1, e1, k1, p1⟩ := spNew_is hw (n := 14) (fixed := fixed) (by omega) (by omega) (by omega)
  rw [show ((14 : Nat) : Int) = 14 from rfl] at e1
  obtain ⟨m2, hm2⟩ : ∃ m2, m2 = (m1.bump 1).set (m1.next + 0) (rowObj [.bool false, .bool false, .bool false, .bool false, .bool false, .bool false, .bool false, .bool false, .bool false, .bool false, .bool false, .bool false, .bool false, .bool false] 14 28 (some 1)) := ⟨_, rfl⟩
  obtain ⟨m3, hm3⟩ : ∃ m3, m3 = (m2.bump 1).set (m2.next + 0) (rowObj [.bool false, .bool false, .bool false, .bool false, .bool false, .bool false, .bool false, .bool false, .bool false, .bool false, .bool false, .bool false, .bool false, .bool false] 14 28 (some 1)) := ⟨_, rfl⟩
  have hn2 : m2.next = m1.next + 1 := by rw [hm2]; rfl
  have k2 : Same m1 m2 := by rw [hm2]; exact Same.bumpSet k1.wf (by omega) _
  have k3 : Same m2 m3 := by rw [hm3]; exact Same.bumpSet k2.wf (by omega) _
  have a2 : Arr m2 (m1.next + 0) (arrB fun _ => false) := by rw [hm2]; exact Arr.new (set_self ..)
  have b3 : Arr m3 (m2.next + 0) (arrB fun _ => false) := by rw [hm3]; exact Arr.new (set_self ..)
  have hk1 := k1.next
  have o : OS μ.next m3 H x fixed (m1.next + 0) (m2.next + 0) (fun _ => false) (fun _ => false) (fun j => decide (j < fixed)) (List.replicate 14 0) [] := by
    refine ⟨(p1.same k2).same k3, ⟨fun j _ => by simp, by simp, fun j hj => rep_getD 14 j, fun j hj => (by cases hj), fun j hj => (by cases hj), fun v hv => (by simp at hv), fun j hj => (by simp), by decide⟩, a2.keep k3 (fun h => h), b3, fun h => ?_, fun h => ?_, by omega, by omega, by omega⟩
    · have := (p1.bound _ h).2; omega
    · have := (p1.bound _ h).2; omega
  have k13 := (k1.trans k2).trans k3
  obtain ⟨m4, H4, h4, w4, V4, c4, W4, e4, k4, o4⟩ := act_loop hw hx w0 (by omega) _ 0 m3 _ _ _ _ _ _ (Nat.zero_add _) k13 o
  rw [n0] at e4
  have e5 := end_loop o4 14 0 (by omega)
  rw [n0] at e5
  obtain ⟨mw, w⟩ := wakes_is m4 k4.wf
  refine ⟨mw, ?_⟩
  rw [overdublaw13_SpaceOrder_eq]
  simp -implicitDefEqProofs only [e0, e1, p1.nn, ne_f (rfl : (0 : Int) = 0), ← hm2, ← hm3, e4, e5, w, Option.bind_some, decide_true, decide_false, cond_true, cond_false, seqJ_n, seqJ_r, seqJ_e, headK_c, asB_bool, asI_int, asS_s, asN_int, extrK_0, extrK_1, extrK_2, Bool.not_true, Bool.not_false, Nat.beq_refl]
end Go.Proofs.Ytkikncdhmifkaaa
