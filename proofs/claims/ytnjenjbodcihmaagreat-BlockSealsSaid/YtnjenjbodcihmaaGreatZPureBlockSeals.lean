/- The plain answer of BlockSeals. -/
import Derived.Test.YtnjenjbodcihmaaGreatZkc
namespace Go.Proofs.YtnjenjbodcihmaaGreat
open Go Go.Proofs.YtnjenjbodcihmaaGreat.E
set_option linter.unusedVariables false
set_option linter.unusedSimpArgs false
theorem counts_is {N : Nat} {μ : AMem} {p tid : Nat} {b : Bool} {s o : Int} (h : Cd N μ p tid b s o) : block_Coder_Counts [.s (.ptr p 0 0)] μ = some (.tuple [.s (.int .i64 s), .s (.int .i64 o)], μ) := by
  obtain ⟨h0, h1, h2⟩ := h.cell
  have e1 : atomic_Int64_Load [.s (.ptr p 0 (0 + 1))] μ = some (.s (.int .i64 s), μ) := by
    unfold atomic_Int64_Load loadI64F
    simp only [h1, Option.bind_some]
  have e2 : atomic_Int64_Load [.s (.ptr p 0 (0 + 2))] μ = some (.s (.int .i64 o), μ) := by
    unfold atomic_Int64_Load loadI64F
    simp only [h2, Option.bind_some]
  rw [block_Coder_Counts_eq]
  simp -implicitDefEqProofs only [e1, e2, ss]
theorem cutI {μ : AMem} {x : SV} {zs : List Int} (h : IsRow μ .u8 x zs) (n : Nat) : ∃ y, (∀ μ', IsRow μ' .u8 x zs → overdubkeep_Cut_byte [.s x, .s (.int .i64 n)] μ' = some (.s y, μ')) ∧ IsRow μ .u8 y (zs.take n) := by
  have e : (if ((n : Nat) : Int) < ((zs.length : Nat) : Int) then ((n : Nat) : Int) else ((zs.length : Nat) : Int)) = ((min n zs.length : Nat) : Int) := by split <;> omega
  refine ⟨cutV x 0 ((min n zs.length : Nat) : Int), fun μ' h' => ?_, ?_⟩
  · rw [overdubkeep_Cut_byte_eq, h'.len]
    simp only [Option.bind_some]
    rw [e, h'.cut (by omega) (by omega) (by omega)]
  · have := h.cutRow (a := 0) (b := ((min n zs.length : Nat) : Int)) (by omega) (by omega) (by omega)
    have e2 : (zs.take (((min n zs.length : Nat) : Int)).toNat).drop (0 : Int).toNat = zs.take n := by
      simp only [Int.toNat_zero, List.drop_zero]
      rw [show (((min n zs.length : Nat) : Int)).toNat = min n zs.length by omega]
      rcases Nat.le_total n zs.length with hl | hl
      · rw [Nat.min_eq_left hl]
      · rw [Nat.min_eq_right hl, List.take_of_length_le (Nat.le_refl _), List.take_of_length_le hl]
    rw [e2] at this
    exact this
theorem sector_is {N : Nat} {μ : AMem} {p tid : Nat} {b : Bool} {s o : Int} (hw : WF μ) (hN : N ≤ μ.next) (h : Cd N μ p tid b s o) (ho : 0 ≤ o ∧ o ≤ 1000) {y : SV} {bs : List Int} (hy : IsRow μ .u8 y bs) (hb : ∀ v ∈ bs, 0 ≤ v ∧ v < 256) (hyt : ∀ j, isId y j → ¬ cf p tid j) :
    ∃ x68 x73 x78 m1 m2 m3 m4 b4 o4, block_Coder_Unseal [.s (.ptr p 0 0), .s y] μ = some (.tuple [.s x68, .s (.int .i64 (if wholeB bs then 0 else 2))], m1) ∧ block_Coder_Open [.s (.ptr p 0 0), .s y] m1 = some (.tuple [.s x73, .s (.int .i64 (if (openO bs).isSome then 0 else 2))], m2) ∧
      overdubref05_Open [.s y] m2 = some (.tuple [.s x78, .s (.int .i64 (if (openO bs).isSome then 0 else 2))], m3) ∧ overdubref01_Whole [.s y] m3 = some (.s (.bool (wholeB bs)), m4) ∧ Keep (cf p tid) μ m4 ∧ Cd N m4 p tid b4 s o4 ∧ o4 = o + (if wholeB bs then 1 else 0) + (if (openO bs).isSome then 1 else 0) ∧
      (wholeB bs = false → lenS (.s x68) = some 0) ∧ (wholeB bs = true → ∃ x84, (∀ {R : Type} (K : AV → Option R), cutS 1 (.s y) 0 124 K = K (.s x84)) ∧ overdubkeep_Same_byte [.s x68, .s x84] m4 = some (.s (.bool true), m4)) ∧
      overdubkeep_Same_int [.s x73, .s x78] m4 = some (.s (.bool true), m4) := by
  have hlt := h.lt hw
  obtain ⟨x68, b1, m1, e1, k1, c1, o1⟩ := Unseal_is hw hN h (by omega) hy hb hyt
  have off : ∀ j, cf p tid j → ¬ isId y j := fun j hj e => hyt j e hj
  have hy1 := rowKeep hy k1 off
  have hn1 := k1.next
  obtain ⟨x73, b2, m2, e2, k2, c2, o2⟩ := Open_is k1.wf (by omega) c1 (by split <;> omega) hy1 hb hyt
  have hy2 := rowKeep hy1 k2 off
  have hn2 := k2.next
  obtain ⟨x78, m3, e3, k3, o3⟩ := refOpen_is k2.wf hy2 hb
  have hy3 := hy2.same k3
  obtain ⟨m4, e4, k4⟩ := refWhole_is k3.wf hy3 hb
  have hy4 := hy3.same k4
  have o1' : OwnRow μ.next m4 .u8 5 x68 (if wholeB bs then bs.take 124 else []) := (ownKeep o1 k2 fun j hj e => offNew hlt o1 j e hj).old fun id ob hob _ => k4.old id ob (k3.old id ob hob fun h => h) fun h => h
  have o2' : IsRow m4 .i64 x73 ((openO bs).getD []) := (o2.row.same k3).same k4
  have o3' : IsRow m4 .i64 x78 ((openO bs).getD []) := o3.row.same k4
  have hol : ((openO bs).getD []).length ≤ 4611686018427387904 := by
    unfold openO
    split
    · have := decO_le (bs.take 124); omega
    · simp
  have e5 := same_is o2' o3' hol
  rw [decide_eq_true rfl] at e5
  refine ⟨x68, x73, x78, m1, m2, m3, m4, b2, _, e1, e2, e3, e4, k1.trans (k2.trans (k3.any.trans k4.any)), (c2.same k3).same k4, ?_, fun hq => ?_, fun hq => ?_, e5⟩
  · cases wholeB bs <;> cases (openO bs).isSome <;> simp
  · rw [hq] at o1'
    have := o1'.row.len
    simpa using this
  · rw [hq] at o1'
    have hl := wholeB_len hq
    have g1 := fun {R : Type} (K : AV → Option R) => hy4.cut (a := 0) (b := 124) (by omega) (by omega) (by omega) K
    have r1 : IsRow m4 .u8 (cutV y 0 124) (bs.take 124) := by
      have := hy4.cutRow (a := 0) (b := 124) (by omega) (by omega) (by omega)
      simpa using this
    refine ⟨_, g1, ?_⟩
    have e6 := sameB_is o1'.row r1 (by simp; omega)
    simp only [if_true] at e6
    rw [e6]
    simp
set_option maxHeartbeats 4000000 in
theorem seals_round {μ0 : AMem} (h0 : WF μ0) {x : SV} {len : Nat} (ha : IsRR .u8 μ0 x len) {W : Bool} {N p tid : Nat} (hN0 : μ0.next ≤ N) {i : Nat} (hil : i < len) (hi6 : i < 6) {μ : AMem} {b : Bool} {s o : Int} (hs : Same μ0 μ) (hN : N ≤ μ.next) (hC : Cd N μ p tid b s o) (hs1 : 0 ≤ s ∧ s ≤ i) (ho1 : 0 ≤ o ∧ o ≤ 2 * i) :
    ∃ m6 b6 s1 o6, Same μ0 m6 ∧ N ≤ m6.next ∧ Cd N m6 p tid b6 s1 o6 ∧ (0 ≤ s1 ∧ s1 ≤ ((i + 1 : Nat) : Int)) ∧ (0 ≤ o6 ∧ o6 ≤ 2 * ((i + 1 : Nat) : Int)) ∧
      ∀ r, overdublaw09_BlockSeals_L1 [.s x, .s (.bool W), .s (.ptr p 0 0)] [.s (.int .i64 s1), .s (.int .i64 o6), .s (.int .i64 ((i + 1 : Nat) : Int))] m6 = some r → overdublaw09_BlockSeals_L1 [.s x, .s (.bool W), .s (.ptr p 0 0)] [.s (.int .i64 s), .s (.int .i64 o), .s (.int .i64 (i : Int))] μ = some r := by
  have ei : IntKind.wrap .i64 ((i : Int) + 1) = ((i + 1 : Nat) : Int) := by rw [wr (by omega)]; rfl
  have hlt := hC.lt hs.wf
  obtain ⟨r, zs, g1, g2, hr, hz⟩ := ha.at (i := i) (by omega)
  have l1 := fun {R : Type} (K : AV → Option R) => g2 μ K hs
  obtain ⟨x24, gc, r24⟩ := cutI hr 140
  have ec := gc μ (hr.same hs)
  rw [show ((140 : Nat) : Int) = 140 from rfl] at ec
  have hb24 : ∀ v ∈ zs.take 140, 0 ≤ v ∧ v < 256 := fun v hv => wfB (hz v (List.mem_of_mem_take hv))
  have hoff24 := offOld h0 hC hN0 r24
  have hl24 : (zs.take 140).length ≤ 140 := by simp; omega
  generalize zs.take 140 = bs at *
  have r24m := r24.same hs
  have off24 : ∀ j, cf p tid j → ¬ isId x24 j := fun j hj e => hoff24 j e hj
  have hA : ∃ x27 x32 n29 m1 m2 b1 s1, block_Coder_Seal [.s (.ptr p 0 0), .s x24] μ = some (.tuple [.s x27, .s (.int .i64 n29)], m1) ∧ overdubref05_Seal [.s x24] m1 = some (.tuple [.s x32, .s (.int .i64 n29)], m2) ∧ overdubkeep_Same_byte [.s x27, .s x32] m2 = some (.s (.bool true), m2) ∧
      Keep (cf p tid) μ m2 ∧ Cd N m2 p tid b1 s1 o ∧ IsRow m2 .u8 x24 bs ∧ ((n29 = 0 ∧ s1 = s + 1 ∧ IsRow m2 .u8 x32 (sealZ bs) ∧ bs.length ≤ 124 ∧ (∀ j, isId x32 j → ¬ cf p tid j)) ∨ (n29 = 4 ∧ s1 = s ∧ x32 = .nilSlice)) := by
    by_cases hl : bs.length ≤ 124
    · obtain ⟨x27, m1, e1, k1, c1, o1⟩ := seal_is hs.wf hN hC (by omega) r24m hl
      have r1 := rowKeep r24m k1 off24
      obtain ⟨x32, m2, e2, k2, o2⟩ := refSeal_is k1.wf r1 hb24 hl
      have e3 := sameB_is (o1.row.same k2) o2.row (by rw [sealZ_len hl]; omega)
      rw [decide_eq_true rfl] at e3
      have hn1 := k1.next
      exact ⟨x27, x32, 0, m1, m2, true, s + 1, e1, e2, e3, k1.trans k2.any, c1.same k2, r1.same k2, .inl ⟨rfl, rfl, o2.row, hl, offNew (by omega) o2⟩⟩
    · have e1 := seal_no (p := p) r24m (by omega)
      have e2 := refSeal_no r24m (by omega)
      have e3 := sameB_is (μ := μ) (x := .nilSlice) (y := .nilSlice) (zs := []) (ws := []) (.inl ⟨rfl, rfl⟩) (.inl ⟨rfl, rfl⟩) (by simp)
      rw [decide_eq_true rfl] at e3
      exact ⟨.nilSlice, .nilSlice, 4, μ, μ, b, s, e1, e2, e3, Keep.refl hs.wf, hC, r24m, .inr ⟨rfl, rfl, rfl⟩⟩
  obtain ⟨x27, x32, n29, m1, m2, b1, s1, e1, e2, e3, k2, c2, r2, hcase⟩ := hA
  have hn2 := k2.next
  have hs2 : Same μ0 m2 := keepSame h0 hs k2 fun j hj => by
    have := hC.lowp
    have := hC.lowt
    rcases hj with rfl | rfl <;> omega
  have hX : ∃ x65 X, IsRow m2 .u8 x65 X ∧ (∀ v ∈ X, 0 ≤ v ∧ v < 256) ∧ (∀ j, isId x65 j → ¬ cf p tid j) ∧ ∃ L32 : Nat, lenS (.s x32) = some L32 ∧ ((W = true ∧ (L32 : Int) > 0 ∧ x65 = x32) ∨ (W = true ∧ ¬ (L32 : Int) > 0 ∧ x65 = x24) ∨ (W = false ∧ x65 = x24)) := by
    cases hW : W
    · rcases hcase with ⟨_, _, r32, hl, _⟩ | ⟨_, _, rfl⟩
      · exact ⟨x24, bs, r2, hb24, hoff24, _, r32.len, .inr (.inr ⟨rfl, rfl⟩)⟩
      · exact ⟨x24, bs, r2, hb24, hoff24, 0, rfl, .inr (.inr ⟨rfl, rfl⟩)⟩
    · rcases hcase with ⟨_, _, r32, hl, h32⟩ | ⟨_, _, rfl⟩
      · exact ⟨x32, sealZ bs, r32, sealZ_byte hb24, h32, _, r32.len, .inl ⟨rfl, by rw [sealZ_len hl]; omega, rfl⟩⟩
      · exact ⟨x24, bs, r2, hb24, hoff24, 0, rfl, .inr (.inl ⟨rfl, by omega, rfl⟩)⟩
  obtain ⟨x65, X, hrX, hbX, hoX, L32, l32, hsel⟩ := hX
  obtain ⟨x68, x73, x78, m3, m4, m5, m6, b6, o6, e4, e5, e6, e7, k6, c6, ho6, hnw, hwh, e8⟩ := sector_is k2.wf (by omega) c2 (by omega) hrX hbX hoX
  have e9 := counts_is c6
  have hs6 : Same μ0 m6 := keepSame h0 hs2 k6 fun j hj => by
    have := hC.lowp
    have := hC.lowt
    rcases hj with rfl | rfl <;> omega
  have hn6 := k6.next
  have hs1b : 0 ≤ s1 ∧ s1 ≤ ((i + 1 : Nat) : Int) := by rcases hcase with ⟨_, h, _⟩ | ⟨_, h, _⟩ <;> omega
  have ho6b : 0 ≤ o6 ∧ o6 ≤ 2 * ((i + 1 : Nat) : Int) := by
    rw [ho6]
    cases wholeB X <;> cases (openO X).isSome <;> simp <;> omega
  refine ⟨m6, b6, s1, o6, hs6, by omega, c6, hs1b, ho6b, fun r q1 => ?_⟩
  have ws : IntKind.wrap .i64 (s + 1) = s + 1 := wr (by omega)
  have wo : IntKind.wrap .i64 (o + 1) = o + 1 := wr (by omega)
  have wo2 : IntKind.wrap .i64 (o + 1 + 1) = o + 1 + 1 := wr (by omega)
  have hpart : (openO X).isSome = true → wholeB X = true := fun hh => by
    cases hq : wholeB X
    · unfold openO at hh; rw [hq] at hh; cases hh
    · rfl
  rw [overdublaw09_BlockSeals_L1_eq, overdublaw09_BlockSeals_L1_B_eq, (ha.same hs).lenS]
  cases hq : wholeB X
  · have hd : (openO X).isSome = false := by
      cases hh : (openO X).isSome
      · rfl
      · rw [hpart hh] at hq; cases hq
    rw [hq] at e4 e7 ho6
    rw [hd] at e5 e6 ho6
    have l68 := hnw hq
    have ho6' : o6 = o := by rw [ho6]; simp
    subst ho6'
    rcases hcase with ⟨rfl, rfl, _⟩ | ⟨rfl, rfl, _⟩ <;> rcases hsel with ⟨hW, hL, rfl⟩ | ⟨hW, hL, rfl⟩ | ⟨hW, rfl⟩ <;> subst hW
    all_goals first
      | (simp -implicitDefEqProofs only [lt_t (show (i : Int) < (len : Int) by omega), lt_t (show (i : Int) < 6 by omega), g1, l1, ec, e1, e2, ne_f (rfl : (0 : Int) = 0), e3, eq_t (rfl : (0 : Int) = 0), ws, l32, decide_eq_true hL, e4, e5, e6, e7, if_false, Bool.false_eq_true, eq_f (show ¬ (2 : Int) = 0 by omega), BEq.rfl, ne_t (show ¬ (2 : Int) = 0 by omega), ne_f (rfl : (2 : Int) = 2), l68, gt_f (show ((0 : Nat) : Int) ≤ 0 by omega), e8, e9, ne_f (rfl : s + 1 = s + 1), ne_f (rfl : o6 = o6), ei, ss]; exact q1)
      | (simp -implicitDefEqProofs only [lt_t (show (i : Int) < (len : Int) by omega), lt_t (show (i : Int) < 6 by omega), g1, l1, ec, e1, e2, ne_f (rfl : (0 : Int) = 0), e3, eq_t (rfl : (0 : Int) = 0), ws, l32, decide_eq_false hL, e4, e5, e6, e7, if_false, Bool.false_eq_true, eq_f (show ¬ (2 : Int) = 0 by omega), BEq.rfl, ne_t (show ¬ (2 : Int) = 0 by omega), ne_f (rfl : (2 : Int) = 2), l68, gt_f (show ((0 : Nat) : Int) ≤ 0 by omega), e8, e9, ne_f (rfl : s + 1 = s + 1), ne_f (rfl : o6 = o6), ei, ss]; exact q1)
      | (simp -implicitDefEqProofs only [lt_t (show (i : Int) < (len : Int) by omega), lt_t (show (i : Int) < 6 by omega), g1, l1, ec, e1, e2, ne_f (rfl : (0 : Int) = 0), e3, eq_t (rfl : (0 : Int) = 0), ws, e4, e5, e6, e7, if_false, Bool.false_eq_true, eq_f (show ¬ (2 : Int) = 0 by omega), BEq.rfl, ne_t (show ¬ (2 : Int) = 0 by omega), ne_f (rfl : (2 : Int) = 2), l68, gt_f (show ((0 : Nat) : Int) ≤ 0 by omega), e8, e9, ne_f (rfl : s + 1 = s + 1), ne_f (rfl : o6 = o6), ei, ss]; exact q1)
      | (simp -implicitDefEqProofs only [lt_t (show (i : Int) < (len : Int) by omega), lt_t (show (i : Int) < 6 by omega), g1, l1, ec, e1, e2, ne_f (rfl : (4 : Int) = 4), e3, eq_f (show ¬ (4 : Int) = 0 by omega), l32, decide_eq_true hL, e4, e5, e6, e7, if_false, Bool.false_eq_true, eq_f (show ¬ (2 : Int) = 0 by omega), BEq.rfl, ne_t (show ¬ (2 : Int) = 0 by omega), ne_f (rfl : (2 : Int) = 2), l68, gt_f (show ((0 : Nat) : Int) ≤ 0 by omega), e8, e9, ne_f (rfl : s1 = s1), ne_f (rfl : o6 = o6), ei, ss]; exact q1)
      | (simp -implicitDefEqProofs only [lt_t (show (i : Int) < (len : Int) by omega), lt_t (show (i : Int) < 6 by omega), g1, l1, ec, e1, e2, ne_f (rfl : (4 : Int) = 4), e3, eq_f (show ¬ (4 : Int) = 0 by omega), l32, decide_eq_false hL, e4, e5, e6, e7, if_false, Bool.false_eq_true, eq_f (show ¬ (2 : Int) = 0 by omega), BEq.rfl, ne_t (show ¬ (2 : Int) = 0 by omega), ne_f (rfl : (2 : Int) = 2), l68, gt_f (show ((0 : Nat) : Int) ≤ 0 by omega), e8, e9, ne_f (rfl : s1 = s1), ne_f (rfl : o6 = o6), ei, ss]; exact q1)
      | (simp -implicitDefEqProofs only [lt_t (show (i : Int) < (len : Int) by omega), lt_t (show (i : Int) < 6 by omega), g1, l1, ec, e1, e2, ne_f (rfl : (4 : Int) = 4), e3, eq_f (show ¬ (4 : Int) = 0 by omega), e4, e5, e6, e7, if_false, Bool.false_eq_true, eq_f (show ¬ (2 : Int) = 0 by omega), BEq.rfl, ne_t (show ¬ (2 : Int) = 0 by omega), ne_f (rfl : (2 : Int) = 2), l68, gt_f (show ((0 : Nat) : Int) ≤ 0 by omega), e8, e9, ne_f (rfl : s1 = s1), ne_f (rfl : o6 = o6), ei, ss]; exact q1)
  · obtain ⟨x84, g84, e84⟩ := hwh hq
    rw [hq] at e4 e7 ho6
    cases hd : (openO X).isSome
    · rw [hd] at e5 e6 ho6
      have ho6' : o6 = o + 1 := by rw [ho6]; simp
      subst ho6'
      rcases hcase with ⟨rfl, rfl, _⟩ | ⟨rfl, rfl, _⟩ <;> rcases hsel with ⟨hW, hL, rfl⟩ | ⟨hW, hL, rfl⟩ | ⟨hW, rfl⟩ <;> subst hW
      all_goals first
        | (simp -implicitDefEqProofs only [lt_t (show (i : Int) < (len : Int) by omega), lt_t (show (i : Int) < 6 by omega), g1, l1, ec, e1, e2, ne_f (rfl : (0 : Int) = 0), e3, eq_t (rfl : (0 : Int) = 0), ws, l32, decide_eq_true hL, e4, e5, e6, e7, if_true, BEq.rfl, g84, e84, if_false, Bool.false_eq_true, ne_f (rfl : (2 : Int) = 2), eq_f (show ¬ (2 : Int) = 0 by omega), wo, e8, e9, ne_f (rfl : s + 1 = s + 1), ne_f (rfl : o + 1 = o + 1), ei, ss]; exact q1)
        | (simp -implicitDefEqProofs only [lt_t (show (i : Int) < (len : Int) by omega), lt_t (show (i : Int) < 6 by omega), g1, l1, ec, e1, e2, ne_f (rfl : (0 : Int) = 0), e3, eq_t (rfl : (0 : Int) = 0), ws, l32, decide_eq_false hL, e4, e5, e6, e7, if_true, BEq.rfl, g84, e84, if_false, Bool.false_eq_true, ne_f (rfl : (2 : Int) = 2), eq_f (show ¬ (2 : Int) = 0 by omega), wo, e8, e9, ne_f (rfl : s + 1 = s + 1), ne_f (rfl : o + 1 = o + 1), ei, ss]; exact q1)
        | (simp -implicitDefEqProofs only [lt_t (show (i : Int) < (len : Int) by omega), lt_t (show (i : Int) < 6 by omega), g1, l1, ec, e1, e2, ne_f (rfl : (0 : Int) = 0), e3, eq_t (rfl : (0 : Int) = 0), ws, e4, e5, e6, e7, if_true, BEq.rfl, g84, e84, if_false, Bool.false_eq_true, ne_f (rfl : (2 : Int) = 2), eq_f (show ¬ (2 : Int) = 0 by omega), wo, e8, e9, ne_f (rfl : s + 1 = s + 1), ne_f (rfl : o + 1 = o + 1), ei, ss]; exact q1)
        | (simp -implicitDefEqProofs only [lt_t (show (i : Int) < (len : Int) by omega), lt_t (show (i : Int) < 6 by omega), g1, l1, ec, e1, e2, ne_f (rfl : (4 : Int) = 4), ne_f (rfl : (0 : Int) = 0), e3, eq_f (show ¬ (4 : Int) = 0 by omega), eq_t (rfl : (0 : Int) = 0), l32, decide_eq_true hL, e4, e5, e6, e7, if_true, BEq.rfl, g84, e84, if_false, Bool.false_eq_true, ne_f (rfl : (2 : Int) = 2), eq_f (show ¬ (2 : Int) = 0 by omega), wo, e8, e9, ne_f (rfl : s1 = s1), ne_f (rfl : o + 1 = o + 1), ei, ss]; exact q1)
        | (simp -implicitDefEqProofs only [lt_t (show (i : Int) < (len : Int) by omega), lt_t (show (i : Int) < 6 by omega), g1, l1, ec, e1, e2, ne_f (rfl : (4 : Int) = 4), ne_f (rfl : (0 : Int) = 0), e3, eq_f (show ¬ (4 : Int) = 0 by omega), eq_t (rfl : (0 : Int) = 0), l32, decide_eq_false hL, e4, e5, e6, e7, if_true, BEq.rfl, g84, e84, if_false, Bool.false_eq_true, ne_f (rfl : (2 : Int) = 2), eq_f (show ¬ (2 : Int) = 0 by omega), wo, e8, e9, ne_f (rfl : s1 = s1), ne_f (rfl : o + 1 = o + 1), ei, ss]; exact q1)
        | (simp -implicitDefEqProofs only [lt_t (show (i : Int) < (len : Int) by omega), lt_t (show (i : Int) < 6 by omega), g1, l1, ec, e1, e2, ne_f (rfl : (4 : Int) = 4), ne_f (rfl : (0 : Int) = 0), e3, eq_f (show ¬ (4 : Int) = 0 by omega), eq_t (rfl : (0 : Int) = 0), e4, e5, e6, e7, if_true, BEq.rfl, g84, e84, if_false, Bool.false_eq_true, ne_f (rfl : (2 : Int) = 2), eq_f (show ¬ (2 : Int) = 0 by omega), wo, e8, e9, ne_f (rfl : s1 = s1), ne_f (rfl : o + 1 = o + 1), ei, ss]; exact q1)
    · rw [hd] at e5 e6 ho6
      have ho6' : o6 = o + 1 + 1 := by rw [ho6]; simp
      subst ho6'
      rcases hcase with ⟨rfl, rfl, _⟩ | ⟨rfl, rfl, _⟩ <;> rcases hsel with ⟨hW, hL, rfl⟩ | ⟨hW, hL, rfl⟩ | ⟨hW, rfl⟩ <;> subst hW
      all_goals first
        | (simp -implicitDefEqProofs only [lt_t (show (i : Int) < (len : Int) by omega), lt_t (show (i : Int) < 6 by omega), g1, l1, ec, e1, e2, ne_f (rfl : (0 : Int) = 0), e3, eq_t (rfl : (0 : Int) = 0), ws, l32, decide_eq_true hL, e4, e5, e6, e7, if_true, BEq.rfl, g84, e84, wo, wo2, e8, e9, ne_f (rfl : s + 1 = s + 1), ne_f (rfl : o + 1 + 1 = o + 1 + 1), ei, ss]; exact q1)
        | (simp -implicitDefEqProofs only [lt_t (show (i : Int) < (len : Int) by omega), lt_t (show (i : Int) < 6 by omega), g1, l1, ec, e1, e2, ne_f (rfl : (0 : Int) = 0), e3, eq_t (rfl : (0 : Int) = 0), ws, l32, decide_eq_false hL, e4, e5, e6, e7, if_true, BEq.rfl, g84, e84, wo, wo2, e8, e9, ne_f (rfl : s + 1 = s + 1), ne_f (rfl : o + 1 + 1 = o + 1 + 1), ei, ss]; exact q1)
        | (simp -implicitDefEqProofs only [lt_t (show (i : Int) < (len : Int) by omega), lt_t (show (i : Int) < 6 by omega), g1, l1, ec, e1, e2, ne_f (rfl : (0 : Int) = 0), e3, eq_t (rfl : (0 : Int) = 0), ws, e4, e5, e6, e7, if_true, BEq.rfl, g84, e84, wo, wo2, e8, e9, ne_f (rfl : s + 1 = s + 1), ne_f (rfl : o + 1 + 1 = o + 1 + 1), ei, ss]; exact q1)
        | (simp -implicitDefEqProofs only [lt_t (show (i : Int) < (len : Int) by omega), lt_t (show (i : Int) < 6 by omega), g1, l1, ec, e1, e2, ne_f (rfl : (4 : Int) = 4), ne_f (rfl : (0 : Int) = 0), e3, eq_f (show ¬ (4 : Int) = 0 by omega), eq_t (rfl : (0 : Int) = 0), l32, decide_eq_true hL, e4, e5, e6, e7, if_true, BEq.rfl, g84, e84, wo, wo2, e8, e9, ne_f (rfl : s1 = s1), ne_f (rfl : o + 1 + 1 = o + 1 + 1), ei, ss]; exact q1)
        | (simp -implicitDefEqProofs only [lt_t (show (i : Int) < (len : Int) by omega), lt_t (show (i : Int) < 6 by omega), g1, l1, ec, e1, e2, ne_f (rfl : (4 : Int) = 4), ne_f (rfl : (0 : Int) = 0), e3, eq_f (show ¬ (4 : Int) = 0 by omega), eq_t (rfl : (0 : Int) = 0), l32, decide_eq_false hL, e4, e5, e6, e7, if_true, BEq.rfl, g84, e84, wo, wo2, e8, e9, ne_f (rfl : s1 = s1), ne_f (rfl : o + 1 + 1 = o + 1 + 1), ei, ss]; exact q1)
        | (simp -implicitDefEqProofs only [lt_t (show (i : Int) < (len : Int) by omega), lt_t (show (i : Int) < 6 by omega), g1, l1, ec, e1, e2, ne_f (rfl : (4 : Int) = 4), ne_f (rfl : (0 : Int) = 0), e3, eq_f (show ¬ (4 : Int) = 0 by omega), eq_t (rfl : (0 : Int) = 0), e4, e5, e6, e7, if_true, BEq.rfl, g84, e84, wo, wo2, e8, e9, ne_f (rfl : s1 = s1), ne_f (rfl : o + 1 + 1 = o + 1 + 1), ei, ss]; exact q1)
theorem seals_loop {μ0 : AMem} (h0 : WF μ0) {x : SV} {len : Nat} (ha : IsRR .u8 μ0 x len) {W : Bool} {N p tid : Nat} (hN0 : μ0.next ≤ N) :
    ∀ (k i : Nat) (μ : AMem) (b : Bool) (s o : Int), i + k = min 6 len → Same μ0 μ → N ≤ μ.next → Cd N μ p tid b s o → 0 ≤ s ∧ s ≤ i → 0 ≤ o ∧ o ≤ 2 * i →
      ∃ μ', overdublaw09_BlockSeals_L1 [.s x, .s (.bool W), .s (.ptr p 0 0)] [.s (.int .i64 s), .s (.int .i64 o), .s (.int .i64 (i : Int))] μ = some (.exit 0, [], μ') ∧ WF μ'
  | 0, i, μ, b, s, o, h, hs, hN, hC, hs1, ho1 => by
    refine ⟨μ, ?_, hs.wf⟩
    rw [overdublaw09_BlockSeals_L1_eq, overdublaw09_BlockSeals_L1_B_eq, (ha.same hs).lenS]
    by_cases h1 : (i : Int) < (len : Int)
    · simp -implicitDefEqProofs only [lt_t h1, lt_f (show (6 : Int) ≤ (i : Int) by omega), ss]
    · simp -implicitDefEqProofs only [lt_f (show (len : Int) ≤ (i : Int) by omega), ss]
  | k + 1, i, μ, b, s, o, h, hs, hN, hC, hs1, ho1 => by
    obtain ⟨m6, b6, s1, o6, hs6, hN6, c6, hs1b, ho6b, step⟩ := seals_round (W := W) h0 ha hN0 (i := i) (by omega) (by omega) hs hN hC hs1 ho1
    obtain ⟨μ', q1, q2⟩ := seals_loop (W := W) h0 ha hN0 k (i + 1) m6 b6 s1 o6 (by omega) hs6 hN6 c6 hs1b ho6b
    exact ⟨μ', step _ q1, q2⟩
theorem pureBlockSeals (x0 : ArgN) (t0 : List Cell) (u0 : Nat) (s0 : ArgN.isRecs t0 u0 x0) (q0 : CellsOK [.r .u8] t0 u0) (x1 : Cell) (s1 : CellOK (.r .u8) x1) (a2 : Bool) :
    ∃ μ', overdublaw09_BlockSeals (argValsN 0 [x0, .cell x1, .cell (.leaf (.bool a2))]) (argMemN [x0, .cell x1, .cell (.leaf (.bool a2))]) = some (.s (.bool true), μ') := by
  obtain ⟨A, hA, ha⟩ := IsRR.arg (al := [x0, .cell x1, .cell (.leaf (.bool a2))]) (j := 0) s0 q0 rfl
  have hw : WF (argMemN [x0, .cell x1, .cell (.leaf (.bool a2))]) := WF.argsN _
  have hB : ∃ B, (ArgN.cell x1).val 1 = .s B := ⟨_, rfl⟩
  obtain ⟨B, hB⟩ := hB
  show ∃ μ', overdublaw09_BlockSeals [x0.val 0, (ArgN.cell x1).val 1, .s (.bool a2)] _ = _
  rw [hA, hB]
  generalize argMemN [x0, .cell x1, .cell (.leaf (.bool a2))] = μ at *
  obtain ⟨p, tid, m1, e1, k1, c1⟩ := coderNew_is hw
  obtain ⟨m2, e2, hw2⟩ := seals_loop (W := a2) hw ha (Nat.le_refl _) (min 6 u0) 0 m1 false 0 0 (Nat.zero_add _) k1 k1.next c1 (by omega) (by omega)
  rw [n0] at e2
  obtain ⟨m3, e3⟩ := wakes_is m2 hw2
  refine ⟨m3, ?_⟩
  rw [overdublaw09_BlockSeals_eq]
  simp -implicitDefEqProofs only [e1, isNil_ptr, e2, Nat.beq_refl, e3, ss]
end Go.Proofs.YtnjenjbodcihmaaGreat
