/- The plain answer of BitsBack. -/
import Derived.Test.YtkbecppafippeaaQWakes
import Derived.Test.YtkbecppafippeaaQReadRest
import Derived.Test.YtkbecppafippeaaKWithin
import Derived.Test.YtkbecppafippeaaKRecs
namespace Go.Proofs.Ytkbecppafippeaa
open Go Go.Proofs.Ytkbecppafippeaa.E
set_option linter.unusedVariables false
set_option linter.unusedSimpArgs false
/-- How many digits an act asks for. -/
def actK (zs : List Int) (i : Nat) : Nat := (zs.getD (i * 3 + 2) 0 % 40).toNat
def actOne (zs : List Int) (i : Nat) : Bool := zs.getD (i * 3 + 0) 0 % 3 == 2
def actV (zs : List Int) (i : Nat) : Int := zs.getD (i * 3 + 1) 0 % 2 ^ actK zs i
/-- The digits of an act. -/
def actD (zs : List Int) (i : Nat) : List Int := if actOne zs i then List.replicate (actK zs i) 1 ++ [0] else putD (actV zs i) (actK zs i)
def preD (zs : List Int) : Nat → List Int
  | 0 => []
  | i + 1 => preD zs i ++ actD zs i
theorem actK_is (zs : List Int) (i : Nat) : zs.getD (i * 3 + 2) 0 % 40 = (actK zs i : Int) ∧ actK zs i < 40 := by
  unfold actK
  have h1 := Int.emod_nonneg (zs.getD (i * 3 + 2) 0) (show ¬ (40 : Int) = 0 by omega)
  have h2 := Int.emod_lt_of_pos (zs.getD (i * 3 + 2) 0) (show (0 : Int) < 40 by omega)
  omega
theorem actD_len (zs : List Int) (i : Nat) : (actD zs i).length = if actOne zs i then actK zs i + 1 else actK zs i := by
  unfold actD
  split
  · simp
  · rw [putD_len]
theorem actD_le (zs : List Int) (i : Nat) : (actD zs i).length ≤ 40 := by
  have := (actK_is zs i).2
  rw [actD_len]; split <;> omega
theorem preD_le (zs : List Int) : ∀ i, (preD zs i).length ≤ 40 * i
  | 0 => by simp [preD]
  | i + 1 => by
    have := preD_le zs i
    have := actD_le zs i
    rw [preD, List.length_append]; omega
theorem preD_split (zs : List Int) (i : Nat) : ∀ k, ∃ r, preD zs (i + k) = preD zs i ++ r
  | 0 => ⟨[], by simp⟩
  | k + 1 => by
    obtain ⟨r, h⟩ := preD_split zs i k
    exact ⟨r ++ actD zs (i + k), by rw [← Nat.add_assoc, preD, h, List.append_assoc]⟩
theorem pow40 {k : Nat} (h : k < 40) : (1 : Int) ≤ 2 ^ k ∧ (2 : Int) ^ k ≤ 1099511627776 := by
  have h1 : (2 : Int) ^ k = ((2 ^ k : Nat) : Int) := by simp
  have h2 : (2 : Nat) ^ k ≤ 2 ^ 40 := Nat.pow_le_pow_right (by omega) (by omega)
  have h3 : 1 ≤ (2 : Nat) ^ k := Nat.one_le_two_pow
  have h4 : (2 : Nat) ^ 40 = 1099511627776 := by decide
  rw [h1]; omega
theorem write_loop {μ0 : AMem} (h0 : WF μ0) {t x : SV} {zs : List Int} {len : Nat} (hx : IsRecs μ0 .i64 3 t zs len) (hz : ∀ v ∈ zs, (Lit.int .i64 v).wf = true) :
    ∀ (k i : Nat) (μ : AMem) (F : Nat → Prop), i + k = min 30 len → Same μ0 μ → Wr μ0.next μ x F (preD zs i) →
      ∃ μ' F', overdublaw01_BitsBack_L1 [.s t, .s x] [.s (.int .i64 (preD zs i).length), .s (.int .i64 i)] μ = some (.exit 0, [.s t, .s x, .s (.int .i64 (preD zs (min 30 len)).length)], μ') ∧ Same μ0 μ' ∧ Wr μ0.next μ' x F' (preD zs (min 30 len))
  | 0, i, μ, F, h, hs, hw => by
    obtain rfl : i = min 30 len := by omega
    refine ⟨μ, F, ?_, hs, hw⟩
    rw [overdublaw01_BitsBack_L1_eq, overdublaw01_BitsBack_L1_B_eq, (hx.same hs).lenS]
    by_cases h1 : ((min 30 len : Nat) : Int) < (len : Int)
    · simp -implicitDefEqProofs only [lt_t h1, lt_f (show (30 : Int) ≤ ((min 30 len : Nat) : Int) by omega), Option.bind_some, decide_true, decide_false, cond_true, cond_false, seqJ_n, seqJ_r, seqJ_e, headK_c, asB_bool, asI_int, asS_s, asN_int, extrK_0, extrK_1, extrK_2, Bool.not_true, Bool.not_false, Nat.beq_refl]
    · simp -implicitDefEqProofs only [lt_f (show (len : Int) ≤ ((min 30 len : Nat) : Int) by omega), Option.bind_some, decide_true, decide_false, cond_true, cond_false, seqJ_n, seqJ_r, seqJ_e, headK_c, asB_bool, asI_int, asS_s, asN_int, extrK_0, extrK_1, extrK_2, Bool.not_true, Bool.not_false, Nat.beq_refl]
  | k + 1, i, μ, F, h, hs, hw => by
    have hi : i < len := by omega
    have hx1 := hx.same hs
    obtain ⟨hk, hk1⟩ := actK_is zs i
    have hpl := preD_le zs i
    have w1 := within_is (zs.getD (i * 3 + 2) 0) 40 (wf64 (hx.wf hz hi (f := 2) (by omega))) (by omega) (by omega) μ
    rw [hk] at w1
    have w2 := within_is (zs.getD (i * 3 + 0) 0) 3 (wf64 (hx.wf hz hi (f := 0) (by omega))) (by omega) (by omega) μ
    have c1 := lt_t (show (i : Int) < (len : Int) by omega)
    have c2 := lt_t (show (i : Int) < 30 by omega)
    have r1 := fun {R : Type} (K : AV → Option R) => hx1.ind (i := (i : Int)) (by omega) (by omega) K
    have r2 := fun {R : Type} (f : Nat) (K : AV → Option R) => hx1.add (i := (i : Int)) (by omega) (by omega) f K
    have l2 := fun {R : Type} (K : AV → Option R) => hx1.load hi (f := 2) (by omega) K
    have l1 := fun {R : Type} (K : AV → Option R) => hx1.load hi (f := 1) (by omega) K
    have l0 := fun {R : Type} (K : AV → Option R) => hx1.load hi (f := 0) (by omega) K
    have ei : IntKind.wrap .i64 ((i : Int) + 1) = (i : Int) + 1 := wr (by omega)
    have hrec := write_loop (x := x) h0 hx hz k (i + 1)
    rw [preD, List.length_append, actD_len, nsu] at hrec
    by_cases ho : actOne zs i
    · have hd : actD zs i = List.replicate (actK zs i) 1 ++ [0] := if_pos ho
      rw [if_pos ho, hd, ← List.append_assoc] at hrec
      obtain ⟨F1, m1, e1, k1, wr1, _⟩ := (Ones_is hs.wf hw (by omega) (actK zs i : Int)).2 (by omega)
      rw [nat_toNat] at wr1
      obtain ⟨m2, F2, q1, q2, q3⟩ := hrec m1 F1 (by omega) (wrS h0 hs hw k1) wr1
      have hL := Len_is wr1
      have hll : (((preD zs i ++ List.replicate (actK zs i) 1 ++ [0]).length : Nat) : Int) = (((preD zs i).length + (actK zs i + 1) : Nat) : Int) := by simp
      rw [hll] at hL
      have en : IntKind.wrap .i64 (((preD zs i).length : Int) + IntKind.wrap .i64 ((actK zs i : Int) + 1)) = (((preD zs i).length + (actK zs i + 1) : Nat) : Int) := by rw [wr (n := (actK zs i : Int) + 1) (by omega), wr (by omega)]; omega
      refine ⟨m2, F2, ?_, q2, q3⟩
      have ho' : zs.getD (i * 3 + 0) 0 % 3 = 2 := eq_of_beq ho
      rw [overdublaw01_BitsBack_L1_eq, overdublaw01_BitsBack_L1_B_eq, hx1.lenS]
      simp -implicitDefEqProofs only [c1, c2, r1, r2, l2, w1, l0, w2, eq_t ho', e1, en, hL, ne_f (rfl : (((preD zs i).length + (actK zs i + 1) : Nat) : Int) = _), ei, Option.bind_some, decide_true, decide_false, cond_true, cond_false, seqJ_n, seqJ_r, seqJ_e, headK_c, asB_bool, asI_int, asS_s, asN_int, extrK_0, extrK_1, extrK_2, Bool.not_true, Bool.not_false, Nat.beq_refl]
      exact q1
    · have hd : actD zs i = putD (actV zs i) (actK zs i) := if_neg ho
      rw [if_neg ho, hd] at hrec
      have hp := pow40 hk1
      have hu : IntKind.wrap .u64 (actK zs i : Int) = (actK zs i : Int) := u64n (by omega)
      have hmin : min (Int.toNat (actK zs i : Int)) (IntKind.bits .i64) = actK zs i := by show min _ 64 = _; omega
      have hw1 : IntKind.wrap .i64 (1 * 2 ^ actK zs i) = 2 ^ actK zs i := by rw [Int.one_mul, wr (by omega)]
      have w3 := within_is (zs.getD (i * 3 + 1) 0) (2 ^ actK zs i) (wf64 (hx.wf hz hi (f := 1) (by omega))) (by omega) (by omega) μ
      obtain ⟨F1, m1, e1, k1, wr1, _⟩ := (Put_is hs.wf hw (by omega) (actV zs i) (actK zs i : Int)).2 (by omega)
      rw [nat_toNat] at wr1
      unfold actV at e1 wr1
      unfold actV at hrec
      obtain ⟨m2, F2, q1, q2, q3⟩ := hrec m1 F1 (by omega) (wrS h0 hs hw k1) wr1
      have hL := Len_is wr1
      rw [List.length_append, putD_len] at hL
      have en : IntKind.wrap .i64 (((preD zs i).length : Int) + (actK zs i : Int)) = (((preD zs i).length + actK zs i : Nat) : Int) := by rw [wr (by omega)]; omega
      refine ⟨m2, F2, ?_, q2, q3⟩
      have ho' : ¬ zs.getD (i * 3 + 0) 0 % 3 = 2 := fun e => ho (by unfold actOne; rw [e]; rfl)
      rw [overdublaw01_BitsBack_L1_eq, overdublaw01_BitsBack_L1_B_eq, hx1.lenS]
      simp -implicitDefEqProofs only [c1, c2, r1, r2, l2, w1, l0, w2, eq_f ho', l1, hu, if_neg (show ¬ (actK zs i : Int) < 0 by omega), hmin, hw1, w3, e1, en, hL, ne_f (rfl : (((preD zs i).length + actK zs i : Nat) : Int) = _), ei, Option.bind_some, decide_true, decide_false, cond_true, cond_false, seqJ_n, seqJ_r, seqJ_e, headK_c, asB_bool, asI_int, asS_s, asN_int, extrK_0, extrK_1, extrK_2, Bool.not_true, Bool.not_false, Nat.beq_refl]
      exact q1
theorem read_loop {μ0 : AMem} (h0 : WF μ0) {t : SV} {zs : List Int} {len : Nat} (hx : IsRecs μ0 .i64 3 t zs len) (hz : ∀ v ∈ zs, (Lit.int .i64 v).wf = true) {id : Nat} {b : SV} {bs : List Int} {c : Int} (hid : μ0.next ≤ id) (hh : holds bs (preD zs (min 30 len))) :
    ∀ (k i : Nat) (μ : AMem), i + k = min 30 len → Same μ0 μ → St μ0.next μ id b (((preD zs i).length : Nat) : Int) bs →
      ∃ μ', overdublaw01_BitsBack_L2 [.s t, .s (.int .i64 c), .s (.ptr id 0 0)] [.s (.int .i64 i)] μ = some (.exit 2, [.s (.int .i64 c), .s (.ptr id 0 0)], μ') ∧ Same μ0 μ' ∧ St μ0.next μ' id b (((preD zs (min 30 len)).length : Nat) : Int) bs
  | 0, i, μ, h, hs, st => by
    obtain rfl : i = min 30 len := by omega
    refine ⟨μ, ?_, hs, st⟩
    rw [overdublaw01_BitsBack_L2_eq, overdublaw01_BitsBack_L2_B_eq, (hx.same hs).lenS]
    by_cases h1 : ((min 30 len : Nat) : Int) < (len : Int)
    · simp -implicitDefEqProofs only [lt_t h1, lt_f (show (30 : Int) ≤ ((min 30 len : Nat) : Int) by omega), Option.bind_some, decide_true, decide_false, cond_true, cond_false, seqJ_n, seqJ_r, seqJ_e, headK_c, asB_bool, asI_int, asS_s, asN_int, extrK_0, extrK_1, extrK_2, Bool.not_true, Bool.not_false, Nat.beq_refl]
    · simp -implicitDefEqProofs only [lt_f (show (len : Int) ≤ ((min 30 len : Nat) : Int) by omega), Option.bind_some, decide_true, decide_false, cond_true, cond_false, seqJ_n, seqJ_r, seqJ_e, headK_c, asB_bool, asI_int, asS_s, asN_int, extrK_0, extrK_1, extrK_2, Bool.not_true, Bool.not_false, Nat.beq_refl]
  | k + 1, i, μ, h, hs, st => by
    have hi : i < len := by omega
    have hx1 := hx.same hs
    obtain ⟨hk, hk1⟩ := actK_is zs i
    have hbl := hh.1
    have hpl := preD_le zs (min 30 len)
    obtain ⟨rest, hsp⟩ := preD_split zs (i + 1) k
    rw [show i + 1 + k = min 30 len by omega, preD, List.append_assoc] at hsp
    have hlen : (preD zs (min 30 len)).length = (preD zs i).length + ((actD zs i).length + rest.length) := by rw [hsp, List.length_append, List.length_append]
    have hal := actD_len zs i
    have w1 := within_is (zs.getD (i * 3 + 2) 0) 40 (wf64 (hx.wf hz hi (f := 2) (by omega))) (by omega) (by omega) μ
    rw [hk] at w1
    have w2 := within_is (zs.getD (i * 3 + 0) 0) 3 (wf64 (hx.wf hz hi (f := 0) (by omega))) (by omega) (by omega) μ
    have c1 := lt_t (show (i : Int) < (len : Int) by omega)
    have c2 := lt_t (show (i : Int) < 30 by omega)
    have r1 := fun {R : Type} (K : AV → Option R) => hx1.ind (i := (i : Int)) (by omega) (by omega) K
    have r2 := fun {R : Type} (f : Nat) (K : AV → Option R) => hx1.add (i := (i : Int)) (by omega) (by omega) f K
    have l2 := fun {R : Type} (K : AV → Option R) => hx1.load hi (f := 2) (by omega) K
    have l0 := fun {R : Type} (K : AV → Option R) => hx1.load hi (f := 0) (by omega) K
    have ei : IntKind.wrap .i64 ((i : Int) + 1) = (i : Int) + 1 := wr (by omega)
    have hon : (preD zs i).length ≤ 8 * bs.length := by omega
    have hrec := read_loop (b := b) (c := c) h0 hx hz hid hh k (i + 1)
    rw [preD, List.length_append, actD_len, nsu] at hrec
    by_cases ho : actOne zs i
    · have hd : actD zs i = List.replicate (actK zs i) 1 ++ [0] := if_pos ho
      rw [if_pos ho] at hrec hal
      rw [hd, List.append_assoc] at hsp
      have dg : ∀ j, digB bs ((preD zs i).length + j) = (List.replicate (actK zs i) (1 : Int) ++ ([0] ++ rest)).getD j 0 := fun j => by
        rw [hh.2.2, hsp, getD_app, if_neg (by omega), show (preD zs i).length + j - (preD zs i).length = j by omega]
      have d1 : ∀ j, j < actK zs i → digB bs ((preD zs i).length + j) = 1 := fun j hj => by
        rw [dg, getD_app, if_pos (by simp; omega), List.getD_eq_getElem?_getD, List.getElem?_replicate, if_pos hj]; rfl
      have d0 : digB bs ((preD zs i).length + actK zs i) = 0 := by
        rw [dg, getD_app, if_neg (by simp)]; simp
      have en : IntKind.wrap .i64 ((actK zs i : Int) + 1) = ((actK zs i + 1 : Nat) : Int) := by rw [wr (by omega)]; rfl
      obtain ⟨m1, e1, k1, st1⟩ := (OnesR_is hs.wf st hon (by omega) hh.2.1 ((actK zs i + 1 : Nat) : Int)).2 (by omega)
      rw [nat_toNat, ones_stop d0 (by omega) (actK zs i + 1) 0 (by omega) (by omega) (fun j _ hj => by rw [d1 j hj]; omega)] at e1 st1
      obtain ⟨m2, q1, q2, q3⟩ := hrec m1 (by omega) (keepSame h0 hs k1 fun j hj => hj ▸ hid) st1
      refine ⟨m2, ?_, q2, q3⟩
      have ho' : zs.getD (i * 3 + 0) 0 % 3 = 2 := eq_of_beq ho
      rw [overdublaw01_BitsBack_L2_eq, overdublaw01_BitsBack_L2_B_eq, hx1.lenS]
      simp -implicitDefEqProofs only [c1, c2, r1, r2, l2, w1, l0, w2, eq_t ho', en, e1, ne_f (rfl : (actK zs i : Int) = (actK zs i : Int)), ei, Option.bind_some, decide_true, decide_false, cond_true, cond_false, seqJ_n, seqJ_r, seqJ_e, headK_c, asB_bool, asI_int, asS_s, asN_int, extrK_0, extrK_1, extrK_2, Bool.not_true, Bool.not_false, Nat.beq_refl]
      exact q1
    · have hd : actD zs i = putD (actV zs i) (actK zs i) := if_neg ho
      rw [if_neg ho] at hrec hal
      rw [hd] at hsp
      have hp := pow40 hk1
      have hu : IntKind.wrap .u64 (actK zs i : Int) = (actK zs i : Int) := u64n (by omega)
      have hmin : min (Int.toNat (actK zs i : Int)) (IntKind.bits .i64) = actK zs i := by show min _ 64 = _; omega
      have hw1 : IntKind.wrap .i64 (1 * 2 ^ actK zs i) = 2 ^ actK zs i := by rw [Int.one_mul, wr (by omega)]
      obtain ⟨m1, e1, k1, st1⟩ := (Get_is hs.wf st hon (by omega) hh.2.1 (actK zs i : Int)).2 (by omega)
      rw [nat_toNat, numB_put (v := actV zs i) (n := actK zs i) hh.2.2 hsp (actK zs i) (Nat.le_refl _), Nat.sub_self, Int.pow_zero, Int.ediv_one] at e1
      rw [nat_toNat] at st1
      have hvv : actV zs i % 2 ^ actK zs i = actV zs i := by
        unfold actV
        exact Int.emod_eq_of_lt (Int.emod_nonneg _ (by omega)) (Int.emod_lt_of_pos _ (by omega))
      rw [hvv] at e1
      have hs1 := keepSame h0 hs k1 fun j hj => hj ▸ hid
      have hx2 := hx.same hs1
      have r3 := fun {R : Type} (K : AV → Option R) => hx2.ind (i := (i : Int)) (by omega) (by omega) K
      have l1 := fun {R : Type} (K : AV → Option R) => hx2.load hi (f := 1) (by omega) K
      have w3 := within_is (zs.getD (i * 3 + 1) 0) (2 ^ actK zs i) (wf64 (hx.wf hz hi (f := 1) (by omega))) (by omega) (by omega) m1
      obtain ⟨m2, q1, q2, q3⟩ := hrec m1 (by omega) hs1 st1
      refine ⟨m2, ?_, q2, q3⟩
      unfold actV at e1
      have ho' : ¬ zs.getD (i * 3 + 0) 0 % 3 = 2 := fun e => ho (by unfold actOne; rw [e]; rfl)
      rw [overdublaw01_BitsBack_L2_eq, overdublaw01_BitsBack_L2_B_eq, hx1.lenS]
      simp -implicitDefEqProofs only [c1, c2, r1, r2, l2, w1, l0, w2, eq_f ho', e1, l1, hu, if_neg (show ¬ (actK zs i : Int) < 0 by omega), hmin, hw1, w3, ne_f (rfl : zs.getD (i * 3 + 1) 0 % 2 ^ actK zs i = _), ei, Option.bind_some, decide_true, decide_false, cond_true, cond_false, seqJ_n, seqJ_r, seqJ_e, headK_c, asB_bool, asI_int, asS_s, asN_int, extrK_0, extrK_1, extrK_2, Bool.not_true, Bool.not_false, Nat.beq_refl]
      exact q1
theorem pureBitsBack (x0 : Arg) (z0 : List Int) (u0 : Nat) (s0 : Arg.isRecs .i64 z0 u0 x0) (q0 : z0.length = u0 * 3) (w0 : ∀ n ∈ z0, (Lit.int .i64 n).wf = true) :
    ∃ μ', overdublaw01_BitsBack (argVals 0 [x0]) (argMem [x0]) = some (.s (.bool true), μ') := by
  obtain ⟨a, ha, hx⟩ := IsRecs.arg (l := [x0]) (j := 0) s0 q0 rfl
  have hw := WF.args [x0]
  show ∃ μ', overdublaw01_BitsBack [x0.val 0] _ = _
  rw [ha]
  generalize argMem [x0] = μ at *
  obtain ⟨x, F, m1, e1, k1, w1⟩ := newWriter_is hw
  obtain ⟨m2, F2, e2, k2, w2⟩ := write_loop (x := x) hw hx w0 _ 0 m1 F (Nat.zero_add _) k1 w1
  rw [n0, show (((preD z0 0).length : Nat) : Int) = 0 from rfl] at e2
  have hpl := preD_le z0 (min 30 u0)
  obtain ⟨D, hD⟩ : ∃ D, (preD z0 (min 30 u0)).length = D := ⟨_, rfl⟩
  obtain ⟨y, bs, m3, e3, k3, o3, h3⟩ := Bytes_is k2.wf w2 (by omega)
  have hbl := h3.1
  rw [hD] at hbl e2 hpl
  obtain ⟨r, rb, m4, e4, k4, s4⟩ := newReader_is k3.wf o3.row (by omega)
  have k24 := (k2.trans k3).trans k4
  have s4' := s4.less (M := μ.next) (Nat.le_trans k2.next k3.next)
  obtain ⟨m5, e5, k5, s5⟩ := read_loop (c := (D : Int)) hw hx w0 s4'.1 h3 _ 0 m4 (Nat.zero_add _) k24 s4'
  rw [n0] at e5
  rw [hD] at s5
  have e6 := Left_is s4 (by omega) (by omega)
  rw [Nat.sub_zero] at e6
  have e7 := Rest_is s5 (by omega) (by omega) h3.2.1
  rw [restF_all _ 0 fun j _ _ => by rw [h3.2.2, getD_out (by omega)]] at e7
  have e8 := Left_is s5 (by omega) (by omega)
  have hq : IntKind.wrap .i64 (IntKind.wrap .i64 (Int.tdiv (IntKind.wrap .i64 ((D : Int) + 7)) 8) * 8) = ((8 * bs.length : Nat) : Int) := by
    rw [wr (n := (D : Int) + 7) (by omega), Int.tdiv_eq_ediv_of_nonneg (by omega), wr (n := ((D : Int) + 7) / 8) (by omega), wr (by omega)]; omega
  have hq2 : Int.tmod (IntKind.wrap .i64 (8 - Int.tmod (D : Int) 8)) 8 = ((8 * bs.length - D : Nat) : Int) := by
    rw [Int.tmod_eq_emod_of_nonneg (a := (D : Int)) (by omega), wr (by omega), Int.tmod_eq_emod_of_nonneg (by omega)]; omega
  obtain ⟨mw, w⟩ := wakes_is m5 k5.wf
  have nnp : isNil (.s (.ptr r 0 0)) = some false := rfl
  refine ⟨mw, ?_⟩
  rw [overdublaw01_BitsBack_eq]
  simp -implicitDefEqProofs only [e1, w1.nn, e2, e3, e4, nnp, e6, hq, ne_f (rfl : ((8 * bs.length : Nat) : Int) = _), e5, e7, e8, hq2, eq_t (rfl : ((8 * bs.length - D : Nat) : Int) = _), w, Option.bind_some, decide_true, decide_false, cond_true, cond_false, seqJ_n, seqJ_r, seqJ_e, headK_c, asB_bool, asI_int, asS_s, asN_int, extrK_0, extrK_1, extrK_2, Bool.not_true, Bool.not_false, Nat.beq_refl]
end Go.Proofs.Ytkbecppafippeaa
