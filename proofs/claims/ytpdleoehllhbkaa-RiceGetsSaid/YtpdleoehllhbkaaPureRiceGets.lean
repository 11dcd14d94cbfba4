/- The plain answer of RiceGets. -/
import Derived.Test.YtpdleoehllhbkaaQRefGet
import Derived.Test.YtpdleoehllhbkaaQWakes
import Derived.Test.YtpdleoehllhbkaaKCutB
namespace Go.Proofs.Ytpdleoehllhbkaa
open Go Go.Proofs.Ytpdleoehllhbkaa.E
set_option linter.unusedVariables false
set_option linter.unusedSimpArgs false
theorem wf8 {n : Int} (h : (Lit.int .u8 n).wf = true) : 0 ≤ n ∧ n < 256 := by
  have : 0 ≤ n ∧ n ≤ 255 := by simpa [Lit.wf, IntKind.min, IntKind.max, IntKind.signed, IntKind.bits] using h
  omega
theorem gets_loop {μ0 : AMem} (h0 : WF μ0) {N : Nat} {y : SV} {ks bs : List Int} {id : Nat} {b : SV} (hy : IsRow μ0 .i64 y ks) (hb : ∀ v ∈ bs, 0 ≤ v ∧ v < 256) (hbl : bs.length ≤ 1000) (hid : ∀ j, j = id → ¬ isId y j) :
    ∀ (n i : Nat) (μ : AMem) (r : SV) (l : List Int) (a : Nat), i + n = min 20 ks.length → WF μ → IsRow μ .i64 y ks → St N μ id b (a : Int) bs → a ≤ 8 * bs.length → IsRow μ .u8 r l → At bs a l → (∀ j, j = id → ¬ isId r j) →
      ∃ μ', overdublaw02_RiceGets_L1 [.s y, .s (.ptr id 0 0)] [.s r, .s (.int .i64 i)] μ = some (.exit 0, [], μ') ∧ WF μ'
  | 0, i, μ, r, l, a, h, hw, hyk, hst, ha, hr, hA, hid2 => by
    rw [overdublaw02_RiceGets_L1_eq, overdublaw02_RiceGets_L1_B_eq, hyk.len]
    by_cases h1 : (i : Int) < (ks.length : Int)
    · simp -implicitDefEqProofs (disch := omega) only [lt_t, lt_f, gt_t, gt_f, le_t, le_f, ge_t, ge_f, ne_t, ne_f, eq_t, eq_f, w64, chk_true, Option.bind_some, decide_true, decide_false, cond_true, cond_false, seqJ_n, seqJ_r, seqJ_e, headK_c, asB_bool, asI_int, asS_s, asN_int, extrK_0, extrK_1, extrK_2, Bool.not_true, Bool.not_false, Nat.beq_refl]
      exact ⟨μ, rfl, hw⟩
    · simp -implicitDefEqProofs (disch := omega) only [lt_t, lt_f, gt_t, gt_f, le_t, le_f, ge_t, ge_f, ne_t, ne_f, eq_t, eq_f, w64, chk_true, Option.bind_some, decide_true, decide_false, cond_true, cond_false, seqJ_n, seqJ_r, seqJ_e, headK_c, asB_bool, asI_int, asS_s, asN_int, extrK_0, extrK_1, extrK_2, Bool.not_true, Bool.not_false, Nat.beq_refl]
      exact ⟨μ, rfl, hw⟩
  | n + 1, i, μ, r, l, a, h, hw, hyk, hst, ha, hr, hA, hid2 => by
    have hi : i < ks.length := by omega
    have a1 := fun {R : Type} (K : AV → Option R) => hyk.ind (i := (i : Int)) (by omega) (by omega) K
    have a2 := fun {R : Type} (K : AV → Option R) => hyk.load (i := (i : Int)) (by omega) (by omega) K
    rw [nat_toNat] at a2
    have c1 := lt_t (a := (i : Int)) (b := (ks.length : Int)) (by omega)
    have c2 := lt_t (a := (i : Int)) (b := 20) (by omega)
    have ei : IntKind.wrap .i64 ((i : Int) + 1) = (i : Int) + 1 := wr (by omega)
    obtain ⟨m1, f1, k1, st1⟩ := riceGet_is hw hst ha (by omega) hb (ks.getD i 0)
    have hy1 := rowKeep hyk k1 hid
    have hr1 := rowKeep hr k1 hid2
    have b2 := fun {R : Type} (K : AV → Option R) => hy1.load (i := (i : Int)) (by omega) (by omega) K
    rw [nat_toNat] at b2
    have hT := refTakeRice_is hr1 hA ha hbl (ks.getD i 0)
    have hll := hA.1
    have hne : ∀ v : Int, (v != v) = false := fun v => by simp
    rw [overdublaw02_RiceGets_L1_eq, overdublaw02_RiceGets_L1_B_eq, hyk.len]
    cases hok : (getR bs a (ks.getD i 0)).2.1
    · obtain ⟨e, hg⟩ := hT.1 hok
      rw [hg] at f1 st1
      dsimp only at f1 st1
      have hL := Left_is st1 ha (by omega)
      have hlr : ((l.length : Nat) : Int) = ((8 * bs.length - a : Nat) : Int) := by rw [hll]
      obtain ⟨m2, t1, t2⟩ := gets_loop h0 hy hb hbl hid n (i + 1) m1 r l a (by omega) k1.wf hy1 st1 ha hr1 hA hid2
      rw [nsu] at t1
      refine ⟨m2, ?_, t2⟩
      have ff : (false == false) = true := rfl
      simp -implicitDefEqProofs only [c1, c2, a1, a2, f1, b2, e, ff, hne, hL, hr1.len, hlr, ei, Option.bind_some, decide_true, decide_false, cond_true, cond_false, seqJ_n, seqJ_r, seqJ_e, headK_c, asB_bool, asI_int, asS_s, asN_int, extrK_0, extrK_1, extrK_2, Bool.not_true, Bool.not_false, Nat.beq_refl]
      exact t1
    · obtain ⟨y2, c, e, f2, hn, hcl, hyx⟩ := hT.2 hok
      rw [hok] at f1
      rw [hn] at st1
      have hA2 := hA.drop c
      have hL := Left_is st1 (by omega) (by omega)
      have hlr : (((l.drop c).length : Nat) : Int) = ((8 * bs.length - (a + c) : Nat) : Int) := by rw [hA2.1]
      have hid3 : ∀ j, j = id → ¬ isId y2 j := fun j hj hh => hid2 j hj (hyx j hh)
      obtain ⟨m2, t1, t2⟩ := gets_loop h0 hy hb hbl hid n (i + 1) m1 y2 (l.drop c) (a + c) (by omega) k1.wf hy1 st1 (by omega) f2 hA2 hid3
      rw [nsu] at t1
      refine ⟨m2, ?_, t2⟩
      have tt : (true == true) = true := rfl
      simp -implicitDefEqProofs only [c1, c2, a1, a2, f1, b2, e, tt, hne, hL, f2.len, hlr, ei, Option.bind_some, decide_true, decide_false, cond_true, cond_false, seqJ_n, seqJ_r, seqJ_e, headK_c, asB_bool, asI_int, asS_s, asN_int, extrK_0, extrK_1, extrK_2, Bool.not_true, Bool.not_false, Nat.beq_refl]
      exact t1
theorem pureRiceGets (x0 : Arg) (z0 : List Int) (s0 : Arg.isRow .u8 z0 x0) (w0 : ∀ n ∈ z0, (Lit.int .u8 n).wf = true) (y0 : z0.length * 1 ≤ 140737488351232) (x1 : Arg) (z1 : List Int) (s1 : Arg.isRow .i64 z1 x1) (w1 : ∀ n ∈ z1, (Lit.int .i64 n).wf = true) (y1 : z1.length * 8 ≤ 140737488351232) :
    ∃ μ', overdublaw02_RiceGets (argVals 0 [x0, x1]) (argMem [x0, x1]) = some (.s (.bool true), μ') := by
  obtain ⟨a, ha, hx⟩ := IsRow.arg (l := [x0, x1]) (j := 0) s0 rfl
  obtain ⟨b, hb, hy⟩ := IsRow.arg (l := [x0, x1]) (j := 1) s1 rfl
  have hw := WF.args [x0, x1]
  show ∃ μ', overdublaw02_RiceGets [x0.val 0, x1.val 1] _ = _
  rw [ha, hb]
  generalize argMem [x0, x1] = μ at *
  obtain ⟨d, e1, hd⟩ := cutB_is hx 60
  rw [show ((60 : Nat) : Int) = 60 from rfl] at e1
  have hv : ∀ v ∈ z0.take 60, 0 ≤ v ∧ v < 256 := fun v hv => wf8 (w0 v (List.mem_of_mem_take hv))
  have hl : (z0.take 60).length ≤ 60 := by simp; omega
  generalize z0.take 60 = bs at *
  obtain ⟨id, rb, m1, f1, k1, st1⟩ := newReader_is hw hd (by omega)
  obtain ⟨r, l, m2, f2, k2, hr, hA, hrn⟩ := Of_is k1.wf (hd.same k1) hv (by omega)
  have st2 := st1.same k2
  have hy2 := (hy.same k1).same k2
  have hidy : ∀ j, j = id → ¬ isId b j := fun j hj hh => by
    subst hj
    obtain ⟨o, ho⟩ := row_lives hy hh
    have := hw.lt ho
    have := (st1.ids (.inl rfl)).1
    omega
  have hidr : ∀ j, j = id → ¬ isId r j := fun j hj hh => by
    subst hj
    obtain ⟨_, ⟨o, ho, _⟩, _⟩ := st1
    have := k1.wf.lt ho
    have := hrn _ hh
    omega
  obtain ⟨m3, f3, _⟩ := gets_loop hw hy hv (by omega) hidy _ 0 m2 r l 0 (Nat.zero_add _) k2.wf hy2 st2 (by omega) hr hA hidr
  rw [n0] at f3
  have nnp : ∀ i, isNil (.s (.ptr i 0 0)) = some false := fun i => rfl
  rw [overdublaw02_RiceGets_eq]
  simp -implicitDefEqProofs only [e1, f1, nnp, f2, f3, wakes_is, Option.bind_some, decide_true, decide_false, cond_true, cond_false, seqJ_n, seqJ_r, seqJ_e, headK_c, asB_bool, asI_int, asS_s, asN_int, extrK_0, extrK_1, extrK_2, Bool.not_true, Bool.not_false, Nat.beq_refl]
  exact ⟨_, rfl⟩
end Go.Proofs.Ytpdleoehllhbkaa
