/- The plain answer of BitsReads. -/
import Derived.Test.YtkbecppafippeaaQWakes
import Derived.Test.YtkbecppafippeaaQRefNo
import Derived.Test.YtkbecppafippeaaKLend
import Derived.Test.YtkbecppafippeaaKWithin
import Derived.Test.YtkbecppafippeaaKCutB
namespace Go.Proofs.Ytkbecppafippeaa
open Go Go.Proofs.Ytkbecppafippeaa.E
set_option linter.unusedVariables false
set_option linter.unusedSimpArgs false
theorem keepRid {rid : Nat} {μ μ' m : AMem} (h : Keep (fun j => j = rid) m μ) (k : Keep (fun j => j = rid) μ μ') : Keep (fun j => j = rid) m μ' := h.trans k
theorem reads_loop {μ0 : AMem} (h0 : WF μ0) {t s0 s5 : SV} {zs : List Int} {len : Nat} (hx : IsRecs μ0 .i64 3 t zs len) (hz : ∀ v ∈ zs, (Lit.int .i64 v).wf = true) {m8 : AMem} (hs8 : Same μ0 m8) {rid : Nat} {b : SV} {bs : List Int} (hrid : μ0.next ≤ rid)
    (hbl : bs.length ≤ 1000) (hbv : ∀ v ∈ bs, 0 ≤ v ∧ v < 256) :
    ∀ (k i : Nat) (μ : AMem) (r : SV) (l : List Int) (a : Nat), i + k = min 30 len → Keep (fun j => j = rid) m8 μ → St μ0.next μ rid b (a : Int) bs → a ≤ 8 * bs.length → IsRow μ .u8 r l → At bs a l → (∀ j, isId r j → j ≠ rid) →
      ∃ μ', overdublaw01_BitsReads_L1 [.s s0, .s t, .s s5, .s (.ptr rid 0 0)] [.s r, .s (.int .i64 (i : Int))] μ = some (.exit 0, [.s s0, .s s5], μ') ∧ Keep (fun j => j = rid) m8 μ'
  | 0, i, μ, r, l, a, h, hk, st, ha, hr, hA, hd => by
    obtain rfl : i = min 30 len := by omega
    have hs := keepSame h0 hs8 hk fun j hj => hj ▸ hrid
    refine ⟨μ, ?_, hk⟩
    rw [overdublaw01_BitsReads_L1_eq, overdublaw01_BitsReads_L1_B_eq, (hx.same hs).lenS]
    by_cases h1 : ((min 30 len : Nat) : Int) < (len : Int)
    · simp -implicitDefEqProofs only [lt_t h1, lt_f (show (30 : Int) ≤ ((min 30 len : Nat) : Int) by omega), Option.bind_some, decide_true, decide_false, cond_true, cond_false, seqJ_n, seqJ_r, seqJ_e, headK_c, asB_bool, asI_int, asS_s, asN_int, extrK_0, extrK_1, extrK_2, Bool.not_true, Bool.not_false, Nat.beq_refl]
    · simp -implicitDefEqProofs only [lt_f (show (len : Int) ≤ ((min 30 len : Nat) : Int) by omega), Option.bind_some, decide_true, decide_false, cond_true, cond_false, seqJ_n, seqJ_r, seqJ_e, headK_c, asB_bool, asI_int, asS_s, asN_int, extrK_0, extrK_1, extrK_2, Bool.not_true, Bool.not_false, Nat.beq_refl]
  | k + 1, i, μ, r, l, a, h, hk, st, ha, hr, hA, hd => by
    have hi : i < len := by omega
    have hs := keepSame h0 hs8 hk fun j hj => hj ▸ hrid
    have hx1 := hx.same hs
    have hll := hA.1
    obtain ⟨n, hn⟩ : ∃ n, zs.getD (i * 3 + 2) 0 = n := ⟨_, rfl⟩
    have w2 := within_is (zs.getD (i * 3 + 0) 0) 3 (wf64 (hx.wf hz hi (f := 0) (by omega))) (by omega) (by omega) μ
    have c1 := lt_t (show (i : Int) < (len : Int) by omega)
    have c2 := lt_t (show (i : Int) < 30 by omega)
    have r1 := fun {R : Type} (K : AV → Option R) => hx1.ind (i := (i : Int)) (by omega) (by omega) K
    have r2 := fun {R : Type} (f : Nat) (K : AV → Option R) => hx1.add (i := (i : Int)) (by omega) (by omega) f K
    have l2 := fun {R : Type} (K : AV → Option R) => hx1.load hi (f := 2) (by omega) K
    have l0 := fun {R : Type} (K : AV → Option R) => hx1.load hi (f := 0) (by omega) K
    simp only [hn] at l2
    have ei : IntKind.wrap .i64 ((i : Int) + 1) = ((i + 1 : Nat) : Int) := by rw [wr (by omega)]; rfl
    have hfin : ∀ (m : AMem) (r' : SV) (l' : List Int) (a' : Nat), Keep (fun j => j = rid) μ m → St μ0.next m rid b (a' : Int) bs → a' ≤ 8 * bs.length → IsRow m .u8 r' l' → At bs a' l' → (∀ j, isId r' j → isId r j) →
        bits_Reader_Left [.s (.ptr rid 0 0)] m = some (.s (.int .i64 (l'.length : Int)), m) ∧ bits_Reader_Rest [.s (.ptr rid 0 0)] m = some (.s (.bool (restF bs a' l'.length 0)), m) ∧ overdubref01_Bits_Rest [.s r'] m = some (.s (.bool (restF bs a' l'.length 0)), m) ∧
        ∃ μ', overdublaw01_BitsReads_L1 [.s s0, .s t, .s s5, .s (.ptr rid 0 0)] [.s r', .s (.int .i64 ((i + 1 : Nat) : Int))] m = some (.exit 0, [.s s0, .s s5], μ') ∧ Keep (fun j => j = rid) m8 μ' := by
      intro m r' l' a' hkm st' ha' hr' hA' hdd
      have e1 := Left_is st' ha' (by omega)
      have e2 := Rest_is st' ha' (by omega) hbv
      rw [← hA'.1] at e1 e2
      exact ⟨e1, e2, refRest_is hr' hA' (by rw [hA'.1]; omega), reads_loop h0 hx hz hs8 hrid hbl hbv k (i + 1) m r' l' a' (by omega) (keepRid hk hkm) st' ha' hr' hA' fun j hj => hd j (hdd j hj)⟩
    by_cases ho : zs.getD (i * 3 + 0) 0 % 3 = 2
    · by_cases hv : n < 0 ∨ n > 1024
      · have e1 := (OnesR_is hs.wf st ha (by omega) hbv n).1 hv
        have e2 := refTakeOnes_no (μ := μ) (x := r) hv
        obtain ⟨f1, f2, f3, μ', q1, q2⟩ := hfin μ r l a (Keep.refl hs.wf) st ha hr hA fun j h => h
        refine ⟨μ', ?_, q2⟩
        rw [overdublaw01_BitsReads_L1_eq, overdublaw01_BitsReads_L1_B_eq, hx1.lenS]
        simp -implicitDefEqProofs only [c1, c2, r1, r2, l2, l0, w2, eq_t ho, e1, e2, ne_f (rfl : (0 : Int) = _), BEq.rfl, f1, hr.len, ne_f (rfl : (l.length : Int) = _), f2, f3, ei, Option.bind_some, decide_true, decide_false, cond_true, cond_false, seqJ_n, seqJ_r, seqJ_e, headK_c, asB_bool, asI_int, asS_s, asN_int, extrK_0, extrK_1, extrK_2, Bool.not_true, Bool.not_false, Nat.beq_refl]
        exact q1
      · obtain ⟨m, e1, k1, st1⟩ := (OnesR_is hs.wf st ha (by omega) hbv n).2 (by omega)
        obtain ⟨N, rfl⟩ : ∃ N : Nat, n = N := ⟨n.toNat, by omega⟩
        rw [nat_toNat, ← hll] at e1 st1
        have hrm := rowKeep hr k1 fun j hj hid => hd j hid hj
        have hT := refTakeOnes_is (most := N) hrm hA (by omega) (by omega)
        generalize hR : onesF bs a l.length N 0 = R at *
        obtain ⟨v, ok, a1⟩ := R
        dsimp only at *
        cases ok
        · have := onesF_false bs a l.length N 0 (by rw [hR])
          rw [hR] at this
          obtain ⟨rfl, _, rfl⟩ : v = 0 ∧ true = true ∧ a1 = a := by cases this; exact ⟨rfl, rfl, rfl⟩
          obtain ⟨v, y, e2, rfl, rfl⟩ := hT.1 rfl
          obtain ⟨f1, f2, f3, μ', q1, q2⟩ := hfin m y l a1 k1 st1 ha hrm hA fun j h => h
          refine ⟨μ', ?_, q2⟩
          rw [overdublaw01_BitsReads_L1_eq, overdublaw01_BitsReads_L1_B_eq, hx1.lenS]
          simp -implicitDefEqProofs only [c1, c2, r1, r2, l2, l0, w2, eq_t ho, e1, e2, ne_f (rfl : (0 : Int) = _), BEq.rfl, f1, hrm.len, ne_f (rfl : (l.length : Int) = _), f2, f3, ei, Option.bind_some, decide_true, decide_false, cond_true, cond_false, seqJ_n, seqJ_r, seqJ_e, headK_c, asB_bool, asI_int, asS_s, asN_int, extrK_0, extrK_1, extrK_2, Bool.not_true, Bool.not_false, Nat.beq_refl]
          exact q1
        · obtain ⟨y, d, e2, hy, hda, hdl, hyx⟩ := hT.2 rfl
          have hA2 := hA.drop d
          rw [← hda] at hA2
          obtain ⟨f1, f2, f3, μ', q1, q2⟩ := hfin m y (l.drop d) a1 k1 st1 (by omega) hy hA2 hyx
          refine ⟨μ', ?_, q2⟩
          rw [overdublaw01_BitsReads_L1_eq, overdublaw01_BitsReads_L1_B_eq, hx1.lenS]
          simp -implicitDefEqProofs only [c1, c2, r1, r2, l2, l0, w2, eq_t ho, e1, e2, ne_f (rfl : v = _), BEq.rfl, f1, hy.len, ne_f (rfl : ((l.drop d).length : Int) = _), f2, f3, ei, Option.bind_some, decide_true, decide_false, cond_true, cond_false, seqJ_n, seqJ_r, seqJ_e, headK_c, asB_bool, asI_int, asS_s, asN_int, extrK_0, extrK_1, extrK_2, Bool.not_true, Bool.not_false, Nat.beq_refl]
          exact q1
    · have hG := refGet_is hr hA n
      by_cases hv : n < 0 ∨ n > 62 ∨ n > ((8 * bs.length - a : Nat) : Int)
      · have e1 := (Get_is hs.wf st ha (by omega) hbv n).1 hv
        have e2 := hG.1 (by rw [hll]; exact hv)
        obtain ⟨f1, f2, f3, μ', q1, q2⟩ := hfin μ r l a (Keep.refl hs.wf) st ha hr hA fun j h => h
        refine ⟨μ', ?_, q2⟩
        rw [overdublaw01_BitsReads_L1_eq, overdublaw01_BitsReads_L1_B_eq, hx1.lenS]
        simp -implicitDefEqProofs only [c1, c2, r1, r2, l2, l0, w2, eq_f ho, e1, e2, ne_f (rfl : (0 : Int) = _), BEq.rfl, f1, hr.len, ne_f (rfl : (l.length : Int) = _), f2, f3, ei, Option.bind_some, decide_true, decide_false, cond_true, cond_false, seqJ_n, seqJ_r, seqJ_e, headK_c, asB_bool, asI_int, asS_s, asN_int, extrK_0, extrK_1, extrK_2, Bool.not_true, Bool.not_false, Nat.beq_refl]
        exact q1
      · obtain ⟨m, e1, k1, st1⟩ := (Get_is hs.wf st ha (by omega) hbv n).2 (by omega)
        have hrm := rowKeep hr k1 fun j hj hid => hd j hid hj
        obtain ⟨y, e2, hy, hyx⟩ := (refGet_is hrm hA n).2 (by omega)
        obtain ⟨f1, f2, f3, μ', q1, q2⟩ := hfin m y (l.drop n.toNat) (a + n.toNat) k1 st1 (by omega) hy (hA.drop _) hyx
        refine ⟨μ', ?_, q2⟩
        rw [overdublaw01_BitsReads_L1_eq, overdublaw01_BitsReads_L1_B_eq, hx1.lenS]
        simp -implicitDefEqProofs only [c1, c2, r1, r2, l2, l0, w2, eq_f ho, e1, e2, ne_f (rfl : numB bs a n.toNat = _), BEq.rfl, f1, hy.len, ne_f (rfl : ((l.drop n.toNat).length : Int) = _), f2, f3, ei, Option.bind_some, decide_true, decide_false, cond_true, cond_false, seqJ_n, seqJ_r, seqJ_e, headK_c, asB_bool, asI_int, asS_s, asN_int, extrK_0, extrK_1, extrK_2, Bool.not_true, Bool.not_false, Nat.beq_refl]
        exact q1
theorem pureBitsReads (x0 : Arg) (z0 : List Int) (s0 : Arg.isRow .u8 z0 x0) (w0 : ∀ n ∈ z0, (Lit.int .u8 n).wf = true) (y0 : z0.length * 1 ≤ 140737488351232) (x1 : Arg) (z1 : List Int) (u1 : Nat) (s1 : Arg.isRecs .i64 z1 u1 x1) (q1 : z1.length = u1 * 3) (w1 : ∀ n ∈ z1, (Lit.int .i64 n).wf = true) :
    ∃ μ', overdublaw01_BitsReads (argVals 0 [x0, x1]) (argMem [x0, x1]) = some (.s (.bool true), μ') := by
  obtain ⟨a, ha, hx⟩ := IsRow.arg (l := [x0, x1]) (j := 0) s0 rfl
  obtain ⟨c, hc, hy⟩ := IsRecs.arg (l := [x0, x1]) (j := 1) s1 q1 rfl
  have hw := WF.args [x0, x1]
  show ∃ μ', overdublaw01_BitsReads [x0.val 0, x1.val 1] _ = _
  rw [ha, hc]
  generalize argMem [x0, x1] = μ at *
  obtain ⟨b, e1, hb⟩ := cutB_is hx 60
  rw [show ((60 : Nat) : Int) = 60 from rfl] at e1
  have hwv : ∀ v ∈ z0.take 60, 0 ≤ v ∧ v < 256 := fun v hv => by
    have := w0 v (List.mem_of_mem_take hv)
    simp [Lit.wf, IntKind.min, IntKind.max, IntKind.signed, IntKind.bits] at this
    omega
  have hl60 : (z0.take 60).length ≤ 60 := by simp; omega
  generalize z0.take 60 = bs at *
  obtain ⟨y, m1, e2, k1, L1⟩ := lend_is hw hb (by omega)
  obtain ⟨rid, rb, m2, e3, k2, st⟩ := newReader_is k1.wf L1.row (by omega)
  obtain ⟨r, l, m3, e4, k3, hr, hA, hrn⟩ := Of_is k2.wf (hb.same (k1.trans k2)) hwv (by omega)
  have k03 := (k1.trans k2).trans k3
  have hrid : m1.next ≤ rid := st.1
  have hrl : rid < m2.next := by
    obtain ⟨_, o, ho⟩ := st.ids (j := rid) (.inl rfl)
    exact k2.wf.lt ho
  obtain ⟨m4, e5, k4⟩ := reads_loop (s0 := b) (s5 := y) hw hy w1 k03 (Nat.le_trans k1.next hrid) (by omega) hwv _ 0 m3 r l 0 (Nat.zero_add _) (Keep.refl k3.wf) ((st.less k1.next).same k3) (by omega) hr hA fun j hj e => by have := hrn j hj; omega
  rw [n0] at e5
  have L4 : Lent m4 y bs := by
    obtain ⟨id, rfl, ho⟩ := L1
    exact ⟨id, rfl, k4.old id _ (k3.old id _ (k2.old id _ ho fun h => h) fun h => h) fun e => by have := k1.wf.lt ho; omega⟩
  have hb4 : IsRow m4 .u8 b bs := hb.same (keepSame hw k03 k4 fun j hj => hj ▸ Nat.le_trans k1.next hrid)
  have e6 := intact_is L4 hb4 (by omega)
  obtain ⟨mw, w⟩ := wakes_is m4 k4.wf
  have nnp : isNil (.s (.ptr rid 0 0)) = some false := rfl
  refine ⟨mw, ?_⟩
  rw [overdublaw01_BitsReads_eq]
  simp -implicitDefEqProofs only [e1, e2, e3, nnp, e4, e5, e6, w, Option.bind_some, decide_true, decide_false, cond_true, cond_false, seqJ_n, seqJ_r, seqJ_e, headK_c, asB_bool, asI_int, asS_s, asN_int, extrK_0, extrK_1, extrK_2, Bool.not_true, Bool.not_false, Nat.beq_refl]
end Go.Proofs.Ytkbecppafippeaa
