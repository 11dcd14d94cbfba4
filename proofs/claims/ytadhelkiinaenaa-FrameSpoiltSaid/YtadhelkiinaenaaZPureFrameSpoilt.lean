/- The plain answer of FrameSpoilt. -/
import Derived.Test.YtadhelkiinaenaaZkc
/- The plain answer of FrameSpoilt. -/
namespace Go.Proofs.Ytadhelkiinaenaa
open Go Go.Proofs.Ytadhelkiinaenaa.E
set_option linter.unusedVariables false
set_option linter.unusedSimpArgs false
theorem wrap8 (n : Int) : 0 ≤ IntKind.wrap .u8 n ∧ IntKind.wrap .u8 n < 256 := by simp [IntKind.wrap, IntKind.signed, IntKind.bits]; omega
theorem pureFrameSpoilt (x0 : Arg) (z0 : List Int) (s0 : Arg.isRow .i64 z0 x0) (w0 : ∀ n ∈ z0, (Lit.int .i64 n).wf = true) (y0 : z0.length * 8 ≤ 140737488351232) (a1 : Int) (w1 : (Lit.int .i64 a1).wf = true) (a2 : Int) (w2 : (Lit.int .i64 a2).wf = true) (a3 : Int) (w3 : (Lit.int .i64 a3).wf = true) (a4 : Int) (w4 : (Lit.int .i64 a4).wf = true) (a5 : Int) (w5 : (Lit.int .u8 a5).wf = true) (a6 : Int) (w6 : (Lit.int .i64 a6).wf = true) :
    ∃ μ', overdublaw08_FrameSpoilt (argVals 0 [x0, .i .i64 a1, .i .i64 a2, .i .i64 a3, .i .i64 a4, .i .u8 a5, .i .i64 a6]) (argMem [x0, .i .i64 a1, .i .i64 a2, .i .i64 a3, .i .i64 a4, .i .u8 a5, .i .i64 a6]) = some (.s (.bool true), μ') := by
  obtain ⟨a, ha, hx⟩ := IsRow.arg (l := [x0, .i .i64 a1, .i .i64 a2, .i .i64 a3, .i .i64 a4, .i .u8 a5, .i .i64 a6]) (j := 0) s0 rfl
  have hw := WF.args [x0, .i .i64 a1, .i .i64 a2, .i .i64 a3, .i .i64 a4, .i .u8 a5, .i .i64 a6]
  show ∃ μ', overdublaw08_FrameSpoilt [x0.val 0, .s (.int .i64 a1), .s (.int .i64 a2), .s (.int .i64 a3), .s (.int .i64 a4), .s (.int .u8 a5), .s (.int .i64 a6)] _ = _
  rw [ha]
  generalize argMem [x0, .i .i64 a1, .i .i64 a2, .i .i64 a3, .i .i64 a4, .i .u8 a5, .i .i64 a6] = μ at *
  rw [overdublaw08_FrameSpoilt_eq]
  have e0 := within_is a2 64 (wf64 w2) (by omega) (by omega) μ
  have ew : IntKind.wrap .i64 (1 + a2 % 64) = 1 + a2 % 64 := wr (by omega)
  obtain ⟨X, m1, xs, e1, k1, o1, hl, hnr⟩ := tone_is hw hx w0 (n := 1 + a2 % 64) (s2 := a1) (p3 := a3) (by omega) (wf64 w1) (wf64 w3)
  have hl' : 1 ≤ xs.length ∧ xs.length ≤ 64 := by omega
  have ht := near_tame hnr
  have hE : encE xs = 0 := by
    unfold encE
    rw [if_neg (by omega), checkZ_tame ht hl'.2]
  obtain ⟨es, cs, c, m2, hes, hh2, e2, k2, o2⟩ := (refEncode_is k1.wf o1.row (by omega)).2 hE
  have hc2 := encD_small ht hl'.2 hes
  have e3 := within_is a1 19 (wf64 w1) (by omega) (by omega) m2
  have hb5 := wf8 w5
  -- what comes of the chosen row
  have key : ∀ (m : AMem) (y : SV) (bs : List Int), WF m → OwnRow m2.next m .u8 5 y bs ∨ OwnRow m1.next m .u8 5 y bs → (∀ v ∈ bs, 0 ≤ v ∧ v < 256) → bs.length ≤ 10000 → 
      (bs.length = 0 → ∃ m', overdublaw08_wakes [] m = some (.s (.bool true), m')) ∧
      (∀ i : Nat, i < bs.length → ∃ m' m3 m4, (∀ {R : Type} (K : AMem → Option R), storeAt 1 m (plc y (i : Int)) (.s (.int .u8 (IntKind.wrap .u8 (BitVec.toNat ((BitVec.ofInt (IntKind.bits .u8) (bs.getD i 0)) ^^^ (BitVec.ofInt (IntKind.bits .u8) a5)))))) K = K m') ∧ overdublaw08_FrameDecodes [.s y] m' = some (.s (.bool true), m3) ∧ overdublaw08_wakes [] m3 = some (.s (.bool true), m4)) ∧
      (∀ n : Nat, n ≤ bs.length → ∃ y' m3 m4, (∀ {R : Type} (K : AV → Option R), cutS 1 (.s y) 0 (n : Int) K = K (.s y')) ∧ overdublaw08_FrameDecodes [.s y'] m = some (.s (.bool true), m3) ∧ overdublaw08_wakes [] m3 = some (.s (.bool true), m4)) ∧
      (∃ y' m' m3 m4, (∀ {R : Type} (K : AV → AMem → Option R), appendA 5 1 1 (m.next + 3) ((m.bump 5).set (m.next + 2) (rowObj [.int .u8 0, .int .u8 0, .int .u8 a5] 1 5 (some 3))) (.s y) (.s (.slice (m.next + 2) 0 0 3)) K = K (.s y') m') ∧ overdublaw08_FrameDecodes [.s y'] m' = some (.s (.bool true), m3) ∧ overdublaw08_wakes [] m3 = some (.s (.bool true), m4)) ∧
      (∃ m3 m4, overdublaw08_FrameDecodes [.s y] m = some (.s (.bool true), m3) ∧ overdublaw08_wakes [] m3 = some (.s (.bool true), m4)) := by
    intro m y bs hm ho hb hbl
    obtain ⟨N, ho⟩ : ∃ N, OwnRow N m .u8 5 y bs := ho.elim (fun h => ⟨_, h⟩) (fun h => ⟨_, h⟩)
    have ho : OwnRow 0 m .u8 5 y bs := ho.less (Nat.zero_le _)
    refine ⟨fun _ => wakes_is m hm, fun i hi => ?_, fun n hn => ?_, ?_, ?_⟩
    · obtain ⟨m', s1, s2, s3, s4⟩ := storeK hm ho hi (IntKind.wrap .u8 (BitVec.toNat ((BitVec.ofInt (IntKind.bits .u8) (bs.getD i 0)) ^^^ (BitVec.ofInt (IntKind.bits .u8) a5))))
      have hb' : ∀ v ∈ bs.set i (IntKind.wrap .u8 (BitVec.toNat ((BitVec.ofInt (IntKind.bits .u8) (bs.getD i 0)) ^^^ (BitVec.ofInt (IntKind.bits .u8) a5)))), 0 ≤ v ∧ v < 256 := fun v hv => by
        rcases List.mem_or_eq_of_mem_set hv with h | rfl
        · exact hb v h
        · exact wrap8 _
      obtain ⟨m3, d1, d2⟩ := decodes_is s2.wf s3.row hb'
      obtain ⟨m4, d3⟩ := wakes_is m3 d2.wf
      exact ⟨m', m3, m4, s1, d1, d3⟩
    · obtain ⟨y', c1, c2⟩ := ho.row.front hn
      obtain ⟨m3, d1, d2⟩ := decodes_is hm c2 fun v hv => hb v (List.mem_of_mem_take hv)
      obtain ⟨m4, d3⟩ := wakes_is m3 d2.wf
      exact ⟨y', m3, m4, c1, d1, d3⟩
    · have hw1 : WF ((m.bump 5).set (m.next + 2) (rowObj [.int .u8 0, .int .u8 0, .int .u8 a5] 1 5 (some 3))) := (hm.bump 5).set (by simp)
      have hy1 : OwnRow 0 ((m.bump 5).set (m.next + 2) (rowObj [.int .u8 0, .int .u8 0, .int .u8 a5] 1 5 (some 3))) .u8 5 y bs := ho.old fun id o h _ => by
        have := hm.lt h
        rw [set_obj, if_neg (by omega)]; exact h
      have hl3 : IsRow ((m.bump 5).set (m.next + 2) (rowObj [.int .u8 0, .int .u8 0, .int .u8 a5] 1 5 (some 3))) .u8 (.slice (m.next + 2) 0 0 3) [0, 0, a5] :=
        IsRow.made (o := rowObj [.int .u8 0, .int .u8 0, .int .u8 a5] 1 5 (some 3)) (by simp) rfl rfl rfl
      obtain ⟨y', m', p1, p2, p3, p4⟩ := OwnRow.append (B := 1) (nid := m.next + 3) hw1 hy1 hl3 (by omega) (by simp; omega) (by omega) (by simp) (by
        rw [set_obj, if_neg (by omega)]; exact freshB hm 5 3)
      obtain ⟨m3, d1, d2⟩ := decodes_is p3 p2.row fun v hv => by
        rcases List.mem_append.mp hv with h | h
        · exact hb v h
        · simp only [List.mem_cons, List.not_mem_nil, or_false] at h; omega
      obtain ⟨m4, d3⟩ := wakes_is m3 d2.wf
      exact ⟨y', m', m3, m4, p1, d1, d3⟩
    · obtain ⟨m3, d1, d2⟩ := decodes_is hm ho.row hb
      obtain ⟨m4, d3⟩ := wakes_is m3 d2.wf
      exact ⟨m3, m4, d1, d3⟩
  have fin : ∀ (m : AMem) (y : SV) (bs : List Int) (x : SV) (b : Bool), WF m → OwnRow m2.next m .u8 5 y bs ∨ OwnRow m1.next m .u8 5 y bs → (∀ v ∈ bs, 0 ≤ v ∧ v < 256) → bs.length ≤ 10000 → overdubref05_As [.s (.int .i64 (a1 % 19)), .s X] m2 = some (.tuple [.s x, .s (.bool b)], m) → (b = true ∧ Int.tmod a3 2 = 0 ∧ y = x) ∨ ((b = false ∨ ¬ Int.tmod a3 2 = 0) ∧ y = c) → ∃ μ', overdublaw08_FrameSpoilt [.s a, .s (.int .i64 a1), .s (.int .i64 a2), .s (.int .i64 a3), .s (.int .i64 a4), .s (.int .u8 a5), .s (.int .i64 a6)] μ = some (.s (.bool true), μ') := by
    intro m y bs x b hm ho hb hbl e4 hy
    obtain ⟨q1, q2, q3, q4, q5⟩ := key m y bs hm ho hb hbl
    have hlen : lenS (.s y) = some bs.length := ho.elim (fun h => h.row.len) (fun h => h.row.len)
    have hrow : IsRow m .u8 y bs := ho.elim (fun h => h.row) (fun h => h.row)
    have e5 := within_is a6 4 (wf64 w6) (by omega) (by omega) m
    have sel : ∀ (K : List AV → AMem → Option (AV × AMem)) (K1 : List AV → AMem → Option (AV × AMem)) (K2 : Nat → List AV → AMem → Option (AV × AMem)), True := fun _ _ _ => trivial
    have hsel : (b = true ∧ Int.tmod a3 2 = 0 ∧ y = x) ∨ (b = false ∧ y = c) ∨ (b = true ∧ ¬ Int.tmod a3 2 = 0 ∧ y = c) := by
      rcases hy with h | ⟨h | h, hc⟩
      · exact .inl h
      · exact .inr (.inl ⟨h, hc⟩)
      · cases b
        · exact .inr (.inl ⟨rfl, hc⟩)
        · exact .inr (.inr ⟨rfl, h, hc⟩)
    rw [overdublaw08_FrameSpoilt_eq]
    by_cases z : bs.length = 0
    · obtain ⟨m4, f1⟩ := q1 z
      refine ⟨m4, ?_⟩
      rcases hsel with ⟨rfl, h2, rfl⟩ | ⟨rfl, rfl⟩ | ⟨rfl, h2, rfl⟩
      · simp -implicitDefEqProofs only [e0, ew, e1, e2, e3, e4, eq_t h2, hlen, z, n0, BEq.rfl, f1, Option.bind_some, decide_true, decide_false, cond_true, cond_false, seqJ_n, seqJ_r, seqJ_e, headK_c, asB_bool, asI_int, asS_s, asN_int, extrK_0, extrK_1, extrK_2, Bool.not_true, Bool.not_false, Nat.beq_refl]
      · simp -implicitDefEqProofs only [e0, ew, e1, e2, e3, e4, hlen, z, n0, BEq.rfl, f1, Option.bind_some, decide_true, decide_false, cond_true, cond_false, seqJ_n, seqJ_r, seqJ_e, headK_c, asB_bool, asI_int, asS_s, asN_int, extrK_0, extrK_1, extrK_2, Bool.not_true, Bool.not_false, Nat.beq_refl]
      · simp -implicitDefEqProofs only [e0, ew, e1, e2, e3, e4, eq_f h2, hlen, z, n0, BEq.rfl, f1, Option.bind_some, decide_true, decide_false, cond_true, cond_false, seqJ_n, seqJ_r, seqJ_e, headK_c, asB_bool, asI_int, asS_s, asN_int, extrK_0, extrK_1, extrK_2, Bool.not_true, Bool.not_false, Nat.beq_refl]
    · have hz := eq_f (show ¬ ((bs.length : Nat) : Int) = 0 by omega)
      have e6 := within_is a4 (bs.length : Int) (wf64 w4) (by omega) (by omega) m
      have hidx : 0 ≤ a4 % (bs.length : Int) ∧ a4 % (bs.length : Int) < (bs.length : Int) := ⟨Int.emod_nonneg _ (by omega), Int.emod_lt_of_pos _ (by omega)⟩
      obtain ⟨i, hi⟩ : ∃ i : Nat, a4 % (bs.length : Int) = i := ⟨(a4 % (bs.length : Int)).toNat, by omega⟩
      rw [hi] at e6
      by_cases g0 : a6 % 4 = 0
      · obtain ⟨m', m3, m4, f1, f2, f3⟩ := q2 i (by omega)
        have g1 := fun {R : Type} (K : AV → Option R) => hrow.ind (i := (i : Int)) (by omega) (by omega) K
        have l1 := fun {R : Type} (K : AV → Option R) => hrow.load (i := (i : Int)) (by omega) (by omega) K
        refine ⟨m4, ?_⟩
        rcases hsel with ⟨rfl, h2, rfl⟩ | ⟨rfl, rfl⟩ | ⟨rfl, h2, rfl⟩
        · simp -implicitDefEqProofs only [e0, ew, e1, e2, e3, e4, eq_t h2, hlen, hz, e5, eq_t g0, e6, g1, l1, nat_toNat, f1, f2, f3, Option.bind_some, decide_true, decide_false, cond_true, cond_false, seqJ_n, seqJ_r, seqJ_e, headK_c, asB_bool, asI_int, asS_s, asN_int, extrK_0, extrK_1, extrK_2, Bool.not_true, Bool.not_false, Nat.beq_refl]
        · simp -implicitDefEqProofs only [e0, ew, e1, e2, e3, e4, hlen, hz, e5, eq_t g0, e6, g1, l1, nat_toNat, f1, f2, f3, Option.bind_some, decide_true, decide_false, cond_true, cond_false, seqJ_n, seqJ_r, seqJ_e, headK_c, asB_bool, asI_int, asS_s, asN_int, extrK_0, extrK_1, extrK_2, Bool.not_true, Bool.not_false, Nat.beq_refl]
        · simp -implicitDefEqProofs only [e0, ew, e1, e2, e3, e4, eq_f h2, hlen, hz, e5, eq_t g0, e6, g1, l1, nat_toNat, f1, f2, f3, Option.bind_some, decide_true, decide_false, cond_true, cond_false, seqJ_n, seqJ_r, seqJ_e, headK_c, asB_bool, asI_int, asS_s, asN_int, extrK_0, extrK_1, extrK_2, Bool.not_true, Bool.not_false, Nat.beq_refl]
      by_cases g1 : a6 % 4 = 1
      · obtain ⟨y', m3, m4, f1, f2, f3⟩ := q3 i (by omega)
        refine ⟨m4, ?_⟩
        rcases hsel with ⟨rfl, h2, rfl⟩ | ⟨rfl, rfl⟩ | ⟨rfl, h2, rfl⟩
        · simp -implicitDefEqProofs only [e0, ew, e1, e2, e3, e4, eq_t h2, hlen, hz, e5, eq_f g0, eq_t g1, e6, f1, f2, f3, Option.bind_some, decide_true, decide_false, cond_true, cond_false, seqJ_n, seqJ_r, seqJ_e, headK_c, asB_bool, asI_int, asS_s, asN_int, extrK_0, extrK_1, extrK_2, Bool.not_true, Bool.not_false, Nat.beq_refl]
        · simp -implicitDefEqProofs only [e0, ew, e1, e2, e3, e4, hlen, hz, e5, eq_f g0, eq_t g1, e6, f1, f2, f3, Option.bind_some, decide_true, decide_false, cond_true, cond_false, seqJ_n, seqJ_r, seqJ_e, headK_c, asB_bool, asI_int, asS_s, asN_int, extrK_0, extrK_1, extrK_2, Bool.not_true, Bool.not_false, Nat.beq_refl]
        · simp -implicitDefEqProofs only [e0, ew, e1, e2, e3, e4, eq_f h2, hlen, hz, e5, eq_f g0, eq_t g1, e6, f1, f2, f3, Option.bind_some, decide_true, decide_false, cond_true, cond_false, seqJ_n, seqJ_r, seqJ_e, headK_c, asB_bool, asI_int, asS_s, asN_int, extrK_0, extrK_1, extrK_2, Bool.not_true, Bool.not_false, Nat.beq_refl]
      by_cases g2 : a6 % 4 = 2
      · obtain ⟨y', m', m3, m4, f1, f2, f3⟩ := q4
        refine ⟨m4, ?_⟩
        rcases hsel with ⟨rfl, h2, rfl⟩ | ⟨rfl, rfl⟩ | ⟨rfl, h2, rfl⟩
        · simp -implicitDefEqProofs only [e0, ew, e1, e2, e3, e4, eq_t h2, hlen, hz, e5, eq_f g0, eq_f g1, eq_t g2, f1, f2, f3, Option.bind_some, decide_true, decide_false, cond_true, cond_false, seqJ_n, seqJ_r, seqJ_e, headK_c, asB_bool, asI_int, asS_s, asN_int, extrK_0, extrK_1, extrK_2, Bool.not_true, Bool.not_false, Nat.beq_refl]
        · simp -implicitDefEqProofs only [e0, ew, e1, e2, e3, e4, hlen, hz, e5, eq_f g0, eq_f g1, eq_t g2, f1, f2, f3, Option.bind_some, decide_true, decide_false, cond_true, cond_false, seqJ_n, seqJ_r, seqJ_e, headK_c, asB_bool, asI_int, asS_s, asN_int, extrK_0, extrK_1, extrK_2, Bool.not_true, Bool.not_false, Nat.beq_refl]
        · simp -implicitDefEqProofs only [e0, ew, e1, e2, e3, e4, eq_f h2, hlen, hz, e5, eq_f g0, eq_f g1, eq_t g2, f1, f2, f3, Option.bind_some, decide_true, decide_false, cond_true, cond_false, seqJ_n, seqJ_r, seqJ_e, headK_c, asB_bool, asI_int, asS_s, asN_int, extrK_0, extrK_1, extrK_2, Bool.not_true, Bool.not_false, Nat.beq_refl]
      · obtain ⟨m3, m4, f2, f3⟩ := q5
        refine ⟨m4, ?_⟩
        rcases hsel with ⟨rfl, h2, rfl⟩ | ⟨rfl, rfl⟩ | ⟨rfl, h2, rfl⟩
        · simp -implicitDefEqProofs only [e0, ew, e1, e2, e3, e4, eq_t h2, hlen, hz, e5, eq_f g0, eq_f g1, eq_f g2, f2, f3, Option.bind_some, decide_true, decide_false, cond_true, cond_false, seqJ_n, seqJ_r, seqJ_e, headK_c, asB_bool, asI_int, asS_s, asN_int, extrK_0, extrK_1, extrK_2, Bool.not_true, Bool.not_false, Nat.beq_refl]
        · simp -implicitDefEqProofs only [e0, ew, e1, e2, e3, e4, hlen, hz, e5, eq_f g0, eq_f g1, eq_f g2, f2, f3, Option.bind_some, decide_true, decide_false, cond_true, cond_false, seqJ_n, seqJ_r, seqJ_e, headK_c, asB_bool, asI_int, asS_s, asN_int, extrK_0, extrK_1, extrK_2, Bool.not_true, Bool.not_false, Nat.beq_refl]
        · simp -implicitDefEqProofs only [e0, ew, e1, e2, e3, e4, eq_f h2, hlen, hz, e5, eq_f g0, eq_f g1, eq_f g2, f2, f3, Option.bind_some, decide_true, decide_false, cond_true, cond_false, seqJ_n, seqJ_r, seqJ_e, headK_c, asB_bool, asI_int, asS_s, asN_int, extrK_0, extrK_1, extrK_2, Bool.not_true, Bool.not_false, Nat.beq_refl]
  rw [← overdublaw08_FrameSpoilt_eq]
  have hcl : cs.length ≤ 10000 := by have := hh2.1; omega
  cases hA : asD (a1 % 19) xs with
  | none =>
    obtain ⟨m3, e4, k3⟩ := (refAs_is k2.wf (o1.row.same k2) (by omega) (a1 % 19)).1 hA
    exact fin m3 c cs .nilSlice false k3.wf (.inr (ownKeep o2 k3 fun _ h => h.elim)) hh2.2.1 hcl e4 (.inr ⟨.inl rfl, rfl⟩)
  | some ds =>
    obtain ⟨bs, z, m3, hh, e4, k3, o3⟩ := (refAs_is k2.wf (o1.row.same k2) (by omega) (a1 % 19)).2 ds hA
    have hbl : bs.length ≤ 10000 := by have := frameD_small ht hl'.2 (asD_some hA).2.2; have := hh.1; omega
    by_cases g : Int.tmod a3 2 = 0
    · exact fin m3 z bs z true k3.wf (.inl o3) hh.2.1 hbl e4 (.inl ⟨rfl, g, rfl⟩)
    · exact fin m3 c cs z true k3.wf (.inr (ownKeep o2 k3 fun _ h => h.elim)) hh2.2.1 hcl e4 (.inr ⟨.inr g, rfl⟩)
end Go.Proofs.Ytadhelkiinaenaa
