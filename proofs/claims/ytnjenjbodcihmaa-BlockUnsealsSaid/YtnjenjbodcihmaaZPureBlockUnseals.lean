/- The plain answer of BlockUnseals. -/
import Derived.Test.YtnjenjbodcihmaaZkb
/- The plain answer of BlockUnseals. -/
namespace Go.Proofs.Ytnjenjbodcihmaa
open Go Go.Proofs.Ytnjenjbodcihmaa.E
set_option linter.unusedVariables false
set_option linter.unusedSimpArgs false
theorem noughts_loop {μ : AMem} {c z : SV} {a : Int} {w : SV} {ws : List Int} (hw : IsRow μ .u8 w ws) (hl : ws.length ≤ 1000) :
    ∀ (k i : Nat), i + k = ws.length → (∀ j, i ≤ j → j < ws.length → ws.getD j 0 = 0) → overdublaw09_BlockUnseals_L1 [.s (.int .i64 a), .s c, .s z, .s w] [.s (.int .i64 (i : Int))] μ = some (.exit 0, [.s (.int .i64 a), .s c, .s z], μ)
  | 0, i, h, hz => by
    obtain rfl : i = ws.length := by omega
    rw [overdublaw09_BlockUnseals_L1_eq, overdublaw09_BlockUnseals_L1_B_eq, hw.len]
    simp -implicitDefEqProofs only [lt_f (Int.le_refl (ws.length : Int)), Option.bind_some, decide_true, decide_false, cond_true, cond_false, seqJ_n, seqJ_r, seqJ_e, headK_c, asB_bool, asI_int, asS_s, asN_int, extrK_0, extrK_1, extrK_2, Bool.not_true, Bool.not_false, Nat.beq_refl]
  | k + 1, i, h, hz => by
    have ei : IntKind.wrap .i64 ((i : Int) + 1) = ((i + 1 : Nat) : Int) := by rw [wr (by omega)]; rfl
    have g1 := fun {R : Type} (K : AV → Option R) => hw.ind (i := (i : Int)) (by omega) (by omega) K
    have l1 := fun {R : Type} (K : AV → Option R) => hw.load (i := (i : Int)) (by omega) (by omega) K
    have ih := noughts_loop (c := c) (z := z) (a := a) hw hl k (i + 1) (by omega) fun j h1 h2 => hz j (by omega) h2
    rw [overdublaw09_BlockUnseals_L1_eq, overdublaw09_BlockUnseals_L1_B_eq, hw.len]
    simp -implicitDefEqProofs only [lt_t (show (i : Int) < (ws.length : Int) by omega), g1, l1, nat_toNat, hz i (Nat.le_refl _) (by omega), ne_f (rfl : (0 : Int) = 0), ei, Option.bind_some, decide_true, decide_false, cond_true, cond_false, seqJ_n, seqJ_r, seqJ_e, headK_c, asB_bool, asI_int, asS_s, asN_int, extrK_0, extrK_1, extrK_2, Bool.not_true, Bool.not_false, Nat.beq_refl]
    exact ih
theorem pureBlockUnseals (x0 : Arg) (z0 : List Int) (s0 : Arg.isRow .u8 z0 x0) (w0 : ∀ n ∈ z0, (Lit.int .u8 n).wf = true) (y0 : z0.length * 1 ≤ 140737488351232) (a1 : Int) (w1 : (Lit.int .i64 a1).wf = true) :
    ∃ μ', overdublaw09_BlockUnseals (argVals 0 [x0, .i .i64 a1]) (argMem [x0, .i .i64 a1]) = some (.s (.bool true), μ') := by
  obtain ⟨a, ha, hx⟩ := IsRow.arg (l := [x0, .i .i64 a1]) (j := 0) s0 rfl
  have hw := WF.args [x0, .i .i64 a1]
  show ∃ μ', overdublaw09_BlockUnseals [x0.val 0, .s (.int .i64 a1)] _ = _
  rw [ha]
  generalize argMem [x0, .i .i64 a1] = μ at *
  have hb0 : ∀ v ∈ z0, 0 ≤ v ∧ v < 256 := fun v hv => wfB (w0 v hv)
  obtain ⟨x2, e1, r1⟩ := cutB_is hx 124
  rw [show ((124 : Nat) : Int) = 124 from rfl] at e1
  have hbl : (z0.take 124).length ≤ 124 := by simp; omega
  have hbb : ∀ v ∈ z0.take 124, 0 ≤ v ∧ v < 256 := fun v hv => hb0 v (List.mem_of_mem_take hv)
  generalize z0.take 124 = bs at *
  obtain ⟨p, tid, m1, e2, k1, c1⟩ := coderNew_is hw
  obtain ⟨x8, m2, e3, k2, c2, o2⟩ := seal_is k1.wf k1.next c1 (by omega) (r1.same k1) hbl
  have hlt1 := c1.lt k1.wf
  have hn1 := k1.next
  have hn2 := k2.next
  have sb := sealZ_byte hbb
  obtain ⟨u, b3, m3, e4, k3, c3, o3⟩ := Unseal_is k2.wf (by omega) c2 (by omega) o2.row sb (offNew hlt1 o2)
  rw [sealZ_whole hbl] at e4 c3 o3
  simp only [if_true] at e4 c3 o3
  rw [sealZ_take hbl] at o3
  have hn3 := k3.next
  -- what is unsealed
  have k23 : Keep (cf p tid) m1 m3 := k2.trans k3
  have r1' : IsRow m3 .u8 x2 bs := rowKeep (r1.same k1) k23 fun j hj e => offOld hw c1 (Nat.le_refl _) r1 j e hj
  obtain ⟨x19, g19, r19⟩ := o3.row.front (n := bs.length) (by simp)
  have e5 := sameB_is r19 r1' (by simp; omega)
  rw [List.take_left' rfl, decide_eq_true rfl] at e5
  have hul : (bs ++ List.replicate (124 - bs.length) (0 : Int)).length = 124 := by simp; omega
  have e6 := noughts_loop (a := a1) (c := .ptr p 0 0) (z := x8) o3.row (by omega) (124 - bs.length) bs.length (by omega) fun j h1 h2 => by
    rw [List.getD_eq_getElem?_getD, List.getElem?_append_right h1, List.getElem?_replicate]
    split <;> rfl
  -- sectors of other lengths
  have hm1 := Int.emod_nonneg a1 (show ¬ (128 : Int) = 0 by omega)
  have hm2 := Int.emod_lt_of_pos a1 (show (0 : Int) < 128 by omega)
  have e7 := within_is a1 128 (wf64 w1) (by omega) (by omega) m3
  obtain ⟨n, hn⟩ : ∃ n : Nat, a1 % 128 = n := ⟨(a1 % 128).toNat, by omega⟩
  rw [hn] at e7
  have o2' : OwnRow m1.next m3 .u8 5 x8 (sealZ bs) := ownKeep o2 k3 fun j hj e => offNew hlt1 o2 j e hj
  have hsl := sealZ_len hbl
  obtain ⟨x47, g47, r47, i47⟩ := o2'.row.frontI (n := n) (by omega)
  obtain ⟨u4, b4, m4, e8, k4, c4, o4⟩ := Unseal_is k3.wf (by omega) c3 (by omega) r47 (fun v hv => sb v (List.mem_of_mem_take hv)) (fun j hj => offNew hlt1 o2' j (i47 j hj))
  rw [whole_short (by simp; omega)] at e8 c4
  simp only [Bool.false_eq_true, if_false] at e8 c4
  have hn4 := k4.next
  have o2b : OwnRow m1.next m4 .u8 5 x8 (sealZ bs) := ownKeep o2' k4 fun j hj e => offNew hlt1 o2' j e hj
  -- one byte more
  have kb := Keep.bump (S := fun _ => False) k4.wf 11
  have hcp : ∃ x54 m5, overdubkeep_Copy_byte [.s x8] (m4.bump 11) = some (.s x54, m5) ∧ Same (m4.bump 11) m5 ∧ OwnRow (m4.bump 11).next m5 .u8 5 x54 (sealZ bs) := by
    obtain ⟨y, μ', g1, g2, g3⟩ := copyS (e := 5) (B := 1) (b := 1) (n := 3) kb.wf (Keep.refl kb.wf) (o2b.row.same kb) (by omega) (by omega) (by omega)
    refine ⟨y, μ', ?_, g2, g3⟩
    rw [overdubkeep_Copy_byte_eq]
    simp -implicitDefEqProofs only [g1, Option.bind_some, decide_true, decide_false, cond_true, cond_false, seqJ_n, seqJ_r, seqJ_e, headK_c, asB_bool, asI_int, asS_s, asN_int, extrK_0, extrK_1, extrK_2, Bool.not_true, Bool.not_false, Nat.beq_refl]
  obtain ⟨x54, m5, e9, k5, o5⟩ := hcp
  have hn5 := k5.next
  simp only [bump_next] at hn5
  obtain ⟨x57, m6, g57, v6, wf6, n6, h6a, h6b, h6c⟩ := (ownRow_V (o5.less (M := m4.next) (by simp))).pushX (ds := [.int .u8 0]) (B := 1) (ra := m4.next + 3) (rb := m4.next + 4) (q := some 1) k5.wf rfl (by omega) (by omega) (by omega) (by omega) (by omega) (by omega) (by omega) (k5.low _ (by simp) (freshB k4.wf 11 3)) (k5.low _ (by simp) (freshB k4.wf 11 4))
  have o6 : OwnRow m4.next m6 .u8 5 x57 (sealZ bs ++ [0]) := ownV_row (by rw [List.map_append]; exact v6)
  have hx54 : ∀ j, isId x54 j → m4.next ≤ j := fun j hj => by
    have := (own_lives o5 hj).1
    simp only [bump_next] at this
    omega
  have c6 : Cd μ.next m6 p tid b4 1 1 := ((c4.same kb).same k5).old (fun ob h => h6a _ _ h fun e => by have := hx54 _ e; omega) (fun ob h => h6a _ _ h fun e => by have := hx54 _ e; omega)
  obtain ⟨u7, b7, m7, e10, k7, c7, o7⟩ := Unseal_is wf6 (by omega) c6 (by omega) o6.row (fun v hv => by
    rcases List.mem_append.mp hv with h | h
    · exact sb v h
    · rw [List.mem_singleton.mp h]; omega) (offNew (by omega) o6)
  rw [whole_short (by simp; omega)] at e10
  simp only [Bool.false_eq_true, if_false] at e10
  -- a frame that is too long
  have hm3 := Int.emod_nonneg a1 (show ¬ (9 : Int) = 0 by omega)
  have hm4 := Int.emod_lt_of_pos a1 (show (0 : Int) < 9 by omega)
  have e11 := within_is a1 9 (wf64 w1) (by omega) (by omega) (m7.bump 11)
  obtain ⟨q, hq, hq1, hq2⟩ : ∃ q : Nat, IntKind.wrap .i64 (125 + a1 % 9) = (q : Int) ∧ 125 ≤ q ∧ q ≤ 133 := ⟨(125 + a1 % 9).toNat, by rw [wr (by omega)]; omega, by omega, by omega⟩
  have k8 : Same m7 ((m7.bump 11).set (m7.next + 4) (rowObj (zerosA [.int .u8 0] q) 1 5 (some q))) := Same.bumpSet k7.wf (by omega) _
  have r8 : IsRow ((m7.bump 11).set (m7.next + 4) (rowObj (zerosA [.int .u8 0] q) 1 5 (some q))) .u8 (.slice (m7.next + 4) 0 0 q) (List.replicate q 0) := IsRow.made (o := rowObj (zerosA [.int .u8 0] q) 1 5 (some q)) (set_self _ _ _) (by simp) rfl (by show zerosA _ _ = _; rw [zerosA_rep]; simp)
  have e12 := seal_no (p := p) r8 (by simp; omega)
  obtain ⟨m9, e13⟩ := wakes_is _ k8.wf
  refine ⟨m9, ?_⟩
  have hsl' : ((sealZ bs).length : Int) = 128 := by omega
  have hul' : ((bs ++ List.replicate (124 - bs.length) (0 : Int)).length : Int) = 124 := by omega
  rw [overdublaw09_BlockUnseals_eq]
  simp -implicitDefEqProofs only [e1, e2, isNil_ptr, e3, e4, ne_f (rfl : (0 : Int) = 0), o2.row.len, hsl', ne_f (rfl : (128 : Int) = 128), o3.row.len, hul', ne_f (rfl : (124 : Int) = 124), r1.len, g19, e5, e6, e7, g47, e8, e9, g57, e10, e11, hq, Option.bind_some, decide_true, decide_false, cond_true, cond_false, seqJ_n, seqJ_r, seqJ_e, headK_c, asB_bool, asI_int, asS_s, asN_int, extrK_0, extrK_1, extrK_2, Bool.not_true, Bool.not_false, Nat.beq_refl]
  rw [if_pos (by omega)]
  simp -implicitDefEqProofs only [nat_toNat, e12, eq_t (rfl : (2 : Int) = 2), eq_t (rfl : (4 : Int) = 4), e13, Option.bind_some, decide_true, decide_false, cond_true, cond_false, seqJ_n, seqJ_r, seqJ_e, headK_c, asB_bool, asI_int, asS_s, asN_int, extrK_0, extrK_1, extrK_2, Bool.not_true, Bool.not_false, Nat.beq_refl]
end Go.Proofs.Ytnjenjbodcihmaa
