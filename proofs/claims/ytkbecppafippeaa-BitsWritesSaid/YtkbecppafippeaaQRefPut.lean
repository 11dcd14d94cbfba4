/- The document's digits: numbers and ones put, the bytes of all. -/
import Derived.Test.YtkbecppafippeaaQDigits
namespace Go.Proofs.Ytkbecppafippeaa
open Go Go.Proofs.Ytkbecppafippeaa.E
set_option linter.unusedVariables false
set_option linter.unusedSimpArgs false
theorem wu8 {n : Int} (h : 0 ≤ n ∧ n < 256) : IntKind.wrap .u8 n = n := by simp [IntKind.wrap, IntKind.signed, IntKind.bits]; omega
theorem refPut_loop {μ0 : AMem} (h0 : WF μ0) {v : Int} :
    ∀ (k : Nat) (μ : AMem) (y : SV) (zs : List Int), k ≤ 63 → zs.length + k ≤ 1000000 → Same μ0 μ → OwnRow μ0.next μ .u8 5 y zs →
      ∃ y' μ', overdubref01_Bits_Put_L1 [.s (.int .i64 v)] [.s y, .s (.int .i64 ((k : Int) - 1))] μ = some (.exit 0, [.s y'], μ') ∧ Same μ0 μ' ∧ OwnRow μ0.next μ' .u8 5 y' (zs ++ putD v k)
  | 0, μ, y, zs, hk, hl, hs, hy => by
    rw [overdubref01_Bits_Put_L1_eq, overdubref01_Bits_Put_L1_B_eq, putD, List.append_nil]
    simp -implicitDefEqProofs (disch := omega) only [lt_t, lt_f, gt_t, gt_f, le_t, le_f, ge_t, ge_f, ne_t, ne_f, eq_t, eq_f, w64, chk_true, Option.bind_some, decide_true, decide_false, cond_true, cond_false, seqJ_n, seqJ_r, seqJ_e, headK_c, asB_bool, asI_int, asS_s, asN_int, extrK_0, extrK_1, extrK_2, Bool.not_true, Bool.not_false, Nat.beq_refl]
    exact ⟨y, μ, rfl, hs, hy⟩
  | k + 1, μ, y, zs, hk, hl, hs, hy => by
    obtain ⟨y', μ', p1, p2, p3⟩ := pushS (B := 1) (a := 7) (b := 8) (n := 10) (q := some 1) h0 hs hy (v / 2 ^ k % 2) (by omega) (by omega) (by omega) (by omega) (by omega)
    obtain ⟨y2, μ2, q1, q2, q3⟩ := refPut_loop h0 (v := v) k μ' y' _ (by omega) (by simp; omega) p2 p3
    rw [List.append_assoc] at q3
    refine ⟨y2, μ2, ?_, q2, q3⟩
    have e0 : ((k + 1 : Nat) : Int) - 1 = (k : Int) := by omega
    have hu := u64n (n := k) (by omega)
    have hmin : min (Int.toNat (k : Int)) (IntKind.bits .i64) = k := by show min _ 64 = k; omega
    have hw := wu8 (n := v / 2 ^ k % 2) (by omega)
    have ei : IntKind.wrap .i64 ((k : Int) - 1) = (k : Int) - 1 := wr (by omega)
    rw [e0, overdubref01_Bits_Put_L1_eq, overdubref01_Bits_Put_L1_B_eq]
    simp -implicitDefEqProofs only [ge_t (show (0 : Int) ≤ k by omega), hu, if_neg (show ¬ (k : Int) < 0 by omega), hmin, and_one, fdivp2, hw, p1, ei, Option.bind_some, decide_true, decide_false, cond_true, cond_false, seqJ_n, seqJ_r, seqJ_e, headK_c, asB_bool, asI_int, asS_s, asN_int, extrK_0, extrK_1, extrK_2, Bool.not_true, Bool.not_false, Nat.beq_refl]
    exact q1
theorem refPut_is {μ : AMem} (h0 : WF μ) {x : SV} {ds : List Int} (hx : IsRow μ .u8 x ds) (hl : ds.length ≤ 900000) (v n : Int) :
    ((n < 0 ∨ n > 62) → overdubref01_Bits_Put [.s x, .s (.int .i64 v), .s (.int .i64 n)] μ = some (.tuple [.s x, .s (.bool false)], μ)) ∧
    (0 ≤ n ∧ n ≤ 62 → ∃ y μ', overdubref01_Bits_Put [.s x, .s (.int .i64 v), .s (.int .i64 n)] μ = some (.tuple [.s y, .s (.bool true)], μ') ∧ Same μ μ' ∧ OwnRow μ.next μ' .u8 5 y (ds ++ putD v n.toNat)) := by
  refine ⟨fun hn => ?_, fun hn => ?_⟩
  · rw [overdubref01_Bits_Put_eq]
    by_cases h1 : n < 0
    · simp -implicitDefEqProofs (disch := omega) only [lt_t, lt_f, gt_t, gt_f, le_t, le_f, ge_t, ge_f, ne_t, ne_f, eq_t, eq_f, w64, chk_true, Option.bind_some, decide_true, decide_false, cond_true, cond_false, seqJ_n, seqJ_r, seqJ_e, headK_c, asB_bool, asI_int, asS_s, asN_int, extrK_0, extrK_1, extrK_2, Bool.not_true, Bool.not_false, Nat.beq_refl]
    · simp -implicitDefEqProofs (disch := omega) only [lt_t, lt_f, gt_t, gt_f, le_t, le_f, ge_t, ge_f, ne_t, ne_f, eq_t, eq_f, w64, chk_true, Option.bind_some, decide_true, decide_false, cond_true, cond_false, seqJ_n, seqJ_r, seqJ_e, headK_c, asB_bool, asI_int, asS_s, asN_int, extrK_0, extrK_1, extrK_2, Bool.not_true, Bool.not_false, Nat.beq_refl]
  · obtain ⟨y, m, g1, g2, g3⟩ := copyS (e := 5) (B := 1) (b := 1) (n := 3) h0 (Keep.refl h0) hx (by omega) (by omega) (by omega)
    obtain ⟨y2, m2, q1, q2, q3⟩ := refPut_loop h0 (v := v) n.toNat m y ds (by omega) (by omega) g2 g3
    have e0 : ((n.toNat : Nat) : Int) - 1 = n - 1 := by omega
    rw [e0] at q1
    refine ⟨y2, m2, ?_, q2, q3⟩
    have c1 := lt_f (a := n) (b := 0) (by omega)
    have c2 := gt_f (a := n) (b := 62) (by omega)
    have c3 : IntKind.wrap .i64 (n - 1) = n - 1 := wr (by omega)
    rw [overdubref01_Bits_Put_eq]
    simp -implicitDefEqProofs only [c1, c2, c3, g1, q1, Option.bind_some, decide_true, decide_false, cond_true, cond_false, seqJ_n, seqJ_r, seqJ_e, headK_c, asB_bool, asI_int, asS_s, asN_int, extrK_0, extrK_1, extrK_2, Bool.not_true, Bool.not_false, Nat.beq_refl]
theorem refOnes_loop {μ0 : AMem} (h0 : WF μ0) {n : Nat} (hn : n ≤ 1024) :
    ∀ (k i : Nat) (μ : AMem) (y : SV) (zs : List Int), i + k = n → zs.length + k ≤ 1000000 → Same μ0 μ → OwnRow μ0.next μ .u8 5 y zs →
      ∃ y' μ', overdubref01_Bits_Ones_L1 [.s (.int .i64 n)] [.s y, .s (.int .i64 i)] μ = some (.exit 0, [.s y'], μ') ∧ Same μ0 μ' ∧ OwnRow μ0.next μ' .u8 5 y' (zs ++ List.replicate k 1)
  | 0, i, μ, y, zs, hi, hl, hs, hy => by
    rw [overdubref01_Bits_Ones_L1_eq, overdubref01_Bits_Ones_L1_B_eq, List.replicate_zero, List.append_nil]
    simp -implicitDefEqProofs (disch := omega) only [lt_t, lt_f, gt_t, gt_f, le_t, le_f, ge_t, ge_f, ne_t, ne_f, eq_t, eq_f, w64, chk_true, Option.bind_some, decide_true, decide_false, cond_true, cond_false, seqJ_n, seqJ_r, seqJ_e, headK_c, asB_bool, asI_int, asS_s, asN_int, extrK_0, extrK_1, extrK_2, Bool.not_true, Bool.not_false, Nat.beq_refl]
    exact ⟨y, μ, rfl, hs, hy⟩
  | k + 1, i, μ, y, zs, hi, hl, hs, hy => by
    obtain ⟨y', μ', p1, p2, p3⟩ := pushS (B := 1) (a := 1) (b := 2) (n := 4) (q := some 1) h0 hs hy 1 (by omega) (by omega) (by omega) (by omega) (by omega)
    obtain ⟨y2, μ2, q1, q2, q3⟩ := refOnes_loop h0 hn k (i + 1) μ' y' _ (by omega) (by simp; omega) p2 p3
    rw [nsu] at q1
    rw [List.append_assoc] at q3
    refine ⟨y2, μ2, ?_, q2, q3⟩
    rw [overdubref01_Bits_Ones_L1_eq, overdubref01_Bits_Ones_L1_B_eq]
    simp -implicitDefEqProofs (disch := omega) only [lt_t, lt_f, gt_t, gt_f, le_t, le_f, ge_t, ge_f, ne_t, ne_f, eq_t, eq_f, w64, chk_true, Option.bind_some, decide_true, decide_false, cond_true, cond_false, seqJ_n, seqJ_r, seqJ_e, headK_c, asB_bool, asI_int, asS_s, asN_int, extrK_0, extrK_1, extrK_2, Bool.not_true, Bool.not_false, Nat.beq_refl, p1]
    exact q1
theorem refOnes_is {μ : AMem} (h0 : WF μ) {x : SV} {ds : List Int} (hx : IsRow μ .u8 x ds) (hl : ds.length ≤ 900000) (n : Int) (hn : 0 ≤ n ∧ n ≤ 1024) :
    ∃ y μ', overdubref01_Bits_Ones [.s x, .s (.int .i64 n)] μ = some (.tuple [.s y, .s (.bool true)], μ') ∧ Same μ μ' ∧ OwnRow μ.next μ' .u8 5 y (ds ++ List.replicate n.toNat 1 ++ [0]) := by
  obtain ⟨y, m, g1, g2, g3⟩ := copyS (e := 5) (B := 1) (b := 1) (n := 3) h0 (Keep.refl h0) hx (by omega) (by omega) (by omega)
  obtain ⟨y2, m2, q1, q2, q3⟩ := refOnes_loop h0 (n := n.toNat) (by omega) n.toNat 0 m y ds (by omega) (by omega) g2 g3
  rw [n0, show ((n.toNat : Nat) : Int) = n by omega] at q1
  obtain ⟨y3, m3, p1, p2, p3⟩ := pushS (B := 1) (a := 1) (b := 2) (n := 5) (q := some 1) h0 q2 q3 0 (by omega) (by simp; omega) (by omega) (by omega) (by omega)
  refine ⟨y3, m3, ?_, p2, p3⟩
  have c1 := lt_f (a := n) (b := 0) (by omega)
  have c2 := gt_f (a := n) (b := 1024) (by omega)
  rw [overdubref01_Bits_Ones_eq]
  simp -implicitDefEqProofs only [c1, c2, g1, q1, p1, Option.bind_some, decide_true, decide_false, cond_true, cond_false, seqJ_n, seqJ_r, seqJ_e, headK_c, asB_bool, asI_int, asS_s, asN_int, extrK_0, extrK_1, extrK_2, Bool.not_true, Bool.not_false, Nat.beq_refl]
theorem orV_fin : ∀ v : Fin 256, ∀ r : Fin 8, IntKind.wrap .u8 (BitVec.toNat ((BitVec.ofInt (IntKind.bits .u8) (v.val : Int)) ||| (BitVec.ofInt (IntKind.bits .u8) (IntKind.wrap .u8 (1 * 2 ^ (7 - r.val)))))) = orB (v.val : Int) r.val ∧
    IntKind.wrap .u8 (BitVec.toNat ((BitVec.ofInt (IntKind.bits .u8) (v.val : Int)) ||| (BitVec.ofInt (IntKind.bits .u8) (IntKind.wrap .u8 (0 * 2 ^ (7 - r.val)))))) = (v.val : Int) := by decide +kernel
theorem orV {v : Int} (h : 0 ≤ v ∧ v < 256) {r : Nat} (hr : r < 8) {d : Int} (hd : d = 0 ∨ d = 1) : IntKind.wrap .u8 (BitVec.toNat ((BitVec.ofInt (IntKind.bits .u8) v) ||| (BitVec.ofInt (IntKind.bits .u8) (IntKind.wrap .u8 (d * 2 ^ (7 - r)))))) = if d = 1 then orB v r else v := by
  have := orV_fin ⟨v.toNat, by omega⟩ ⟨r, hr⟩
  have e : ((v.toNat : Nat) : Int) = v := by omega
  simp only [e] at this
  rcases hd with rfl | rfl
  · rw [if_neg (by omega)]; exact this.2
  · rw [if_pos rfl]; exact this.1
/-- Bytes that hold the first digits. -/
def part (bs ds : List Int) (i : Nat) : Prop := bs.length = (ds.length + 7) / 8 ∧ (∀ v ∈ bs, 0 ≤ v ∧ v < 256) ∧ ∀ j, digB bs j = if j < i then ds.getD j 0 else 0
theorem part_step {bs ds : List Int} {i : Nat} (h : part bs ds i) (hi : i < ds.length) (hd : ds.getD i 0 = 0 ∨ ds.getD i 0 = 1) : part (bs.set (i / 8) (if ds.getD i 0 = 1 then orB (bs.getD (i / 8) 0) (i % 8) else bs.getD (i / 8) 0)) ds (i + 1) := by
  obtain ⟨h1, h2, h3⟩ := h
  have hx : i / 8 < bs.length := by omega
  have hv := h2 _ (getD_mem hx)
  obtain ⟨o1, o2⟩ := orB_dig hv (r := i % 8) (by omega)
  refine ⟨by simp; omega, fun v hv' => ?_, fun j => ?_⟩
  · rcases List.mem_or_eq_of_mem_set hv' with h | h
    · exact h2 v h
    · rw [h]; split
      · exact o1
      · exact hv
  · unfold digB
    rw [getD_setB hx]
    have h3j := h3 j
    unfold digB at h3j
    by_cases c : j / 8 = i / 8
    · rw [if_pos c]
      rw [c] at h3j
      rcases hd with hd | hd
      · rw [if_neg (by omega), h3j]
        by_cases c2 : j = i
        · subst c2; rw [if_neg (by omega), if_pos (by omega), hd]
        · by_cases c3 : j < i
          · rw [if_pos c3, if_pos (by omega)]
          · rw [if_neg c3, if_neg (by omega)]
      · rw [if_pos hd, o2 _ (by omega)]
        by_cases c2 : j = i
        · subst c2; rw [if_pos rfl, if_pos (by omega), hd]
        · rw [if_neg (by omega), h3j]
          by_cases c3 : j < i
          · rw [if_pos c3, if_pos (by omega)]
          · rw [if_neg c3, if_neg (by omega)]
    · rw [if_neg c, h3j]
      by_cases c3 : j < i
      · rw [if_pos c3, if_pos (by omega)]
      · rw [if_neg c3, if_neg (by omega)]
theorem refBytes_loop {μ0 : AMem} (h0 : WF μ0) {x y : SV} {ds : List Int} (hl : ds.length ≤ 900000) (h01 : ∀ v ∈ ds, v = 0 ∨ v = 1) (hap : Apart y x) :
    ∀ (k i : Nat) (μ : AMem) (bs : List Int), i + k = ds.length → Same μ0 μ → IsRow μ .u8 x ds → OwnRow μ0.next μ .u8 5 y bs → part bs ds i →
      ∃ bs' μ', overdubref01_Bits_Bytes_L1 [.s x, .s y, .s (.int .i64 ds.length)] [.s (.int .i64 i)] μ = some (.exit 0, [.s y], μ') ∧ Same μ0 μ' ∧ OwnRow μ0.next μ' .u8 5 y bs' ∧ part bs' ds ds.length
  | 0, i, μ, bs, h, hs, hx, hy, hp => by
    obtain rfl : i = ds.length := by omega
    rw [overdubref01_Bits_Bytes_L1_eq, overdubref01_Bits_Bytes_L1_B_eq]
    simp -implicitDefEqProofs (disch := omega) only [lt_t, lt_f, gt_t, gt_f, le_t, le_f, ge_t, ge_f, ne_t, ne_f, eq_t, eq_f, w64, chk_true, Option.bind_some, decide_true, decide_false, cond_true, cond_false, seqJ_n, seqJ_r, seqJ_e, headK_c, asB_bool, asI_int, asS_s, asN_int, extrK_0, extrK_1, extrK_2, Bool.not_true, Bool.not_false, Nat.beq_refl]
    exact ⟨bs, μ, rfl, hs, hy, hp⟩
  | k + 1, i, μ, bs, h, hs, hx, hy, hp => by
    have hi : i < ds.length := by omega
    have hd := h01 _ (getD_mem hi)
    have hb8 : i / 8 < bs.length := by have := hp.1; omega
    have hv := hp.2.1 _ (getD_mem hb8)
    obtain ⟨m1, s1, s2, s3, s4⟩ := storeK hs.wf hy (i := i / 8) hb8 (if ds.getD i 0 = 1 then orB (bs.getD (i / 8) 0) (i % 8) else bs.getD (i / 8) 0)
    have hs1 := keepSame h0 hs s2 fun j hj => (own_lives hy hj).1
    obtain ⟨bs', μ', q1, q2, q3, q4⟩ := refBytes_loop h0 hl h01 hap k (i + 1) m1 _ (by omega) hs1 (rowKeep hx s2 hap) s3 (part_step hp hi hd)
    rw [nsu] at q1
    refine ⟨bs', μ', ?_, q2, q3, q4⟩
    have e1 : IntKind.wrap .i64 (Int.tdiv (i : Int) 8) = ((i / 8 : Nat) : Int) := by rw [Int.tdiv_eq_ediv_of_nonneg (by omega), wr (by omega)]; omega
    have e2 : IntKind.wrap .i64 (7 - Int.tmod (i : Int) 8) = ((7 - i % 8 : Nat) : Int) := by rw [Int.tmod_eq_emod_of_nonneg (by omega), wr (by omega)]; omega
    have e3 := u64n (n := 7 - i % 8) (by omega)
    have e4 : min (Int.toNat ((7 - i % 8 : Nat) : Int)) (IntKind.bits .u8) = 7 - i % 8 := by show min _ 8 = _; omega
    have e5 := orV hv (r := i % 8) (by omega) hd
    have c1 := lt_t (a := (i : Int)) (b := (ds.length : Int)) (by omega)
    have hyi := fun {R : Type} (K : AV → Option R) => hy.row.ind (i := ((i / 8 : Nat) : Int)) (by omega) (by omega) K
    have hyl := fun {R : Type} (K : AV → Option R) => hy.row.load (i := ((i / 8 : Nat) : Int)) (by omega) (by omega) K
    have hxi := fun {R : Type} (K : AV → Option R) => hx.ind (i := (i : Int)) (by omega) (by omega) K
    have hxl := fun {R : Type} (K : AV → Option R) => hx.load (i := (i : Int)) (by omega) (by omega) K
    rw [nat_toNat] at hyl hxl
    have ei : IntKind.wrap .i64 ((i : Int) + 1) = (i : Int) + 1 := wr (by omega)
    rw [overdubref01_Bits_Bytes_L1_eq, overdubref01_Bits_Bytes_L1_B_eq]
    simp -implicitDefEqProofs only [c1, e1, e2, e3, if_neg (show ¬ ((7 - i % 8 : Nat) : Int) < 0 by omega), e4, hyi, hyl, hxi, hxl, e5, s1, ei, Option.bind_some, decide_true, decide_false, cond_true, cond_false, seqJ_n, seqJ_r, seqJ_e, headK_c, asB_bool, asI_int, asS_s, asN_int, extrK_0, extrK_1, extrK_2, Bool.not_true, Bool.not_false, Nat.beq_refl]
    exact q1
theorem refBytes_is {μ : AMem} (h0 : WF μ) {x : SV} {ds : List Int} (hx : IsRow μ .u8 x ds) (hl : ds.length ≤ 900000) (h01 : ∀ v ∈ ds, v = 0 ∨ v = 1) :
    ∃ y bs μ', overdubref01_Bits_Bytes [.s x] μ = some (.s y, μ') ∧ Same μ μ' ∧ OwnRow μ.next μ' .u8 5 y bs ∧ holds bs ds := by
  have hq : IntKind.wrap .i64 (Int.tdiv (IntKind.wrap .i64 (((ds.length : Nat) : Int) + 7)) 8) = (((ds.length + 7) / 8 : Nat) : Int) := by
    rw [wr (n := ((ds.length : Nat) : Int) + 7) (by omega), Int.tdiv_eq_ediv_of_nonneg (by omega), wr (by omega)]; omega
  obtain ⟨L, hL⟩ : ∃ L, L = (ds.length + 7) / 8 := ⟨_, rfl⟩
  have hif : 0 ≤ (L : Int) ∧ (L : Int) ≤ (L : Int) ∧ (L : Int) ≤ 9223372036854775807 ∧ ((1 : Nat) : Int) * (L : Int) ≤ 140737488355328 := by omega
  have k1 := Same.bumpSet h0 (n := 6) (a := 4) (by omega) (rowObj (zerosA [.int .u8 0] L) 1 5 (some L))
  have z1 : OwnRow μ.next ((μ.bump 6).set (μ.next + 4) (rowObj (zerosA [.int .u8 0] L) 1 5 (some L))) .u8 5 (.slice (μ.next + 4) 0 0 L) (List.replicate L 0) :=
    OwnRow.new (o := rowObj (zerosA [.int .u8 0] L) 1 5 (some L)) (by simp) (by omega) (by simp) rfl rfl rfl rfl (by show zerosA _ _ = _; rw [zerosA_rep]; simp)
  have hp : part (List.replicate L 0) ds 0 := by
    refine ⟨by rw [List.length_replicate, hL], fun v hv => by rw [(List.mem_replicate.mp hv).2]; omega, fun j => ?_⟩
    rw [if_neg (by omega)]
    unfold digB
    have : (List.replicate L (0 : Int)).getD (j / 8) 0 = 0 := by rw [List.getD_eq_getElem?_getD, List.getElem?_replicate]; split <;> rfl
    rw [this, digV_zero]
  obtain ⟨bs, m, q1, q2, q3, q4⟩ := refBytes_loop h0 hl h01 (apart_old h0 z1 hx) ds.length 0 _ _ (by omega) k1 (hx.same k1) z1 hp
  rw [n0] at q1
  refine ⟨_, bs, m, ?_, q2, q3, q4.1, q4.2.1, fun j => ?_⟩
  · rw [overdubref01_Bits_Bytes_eq]
    simp -implicitDefEqProofs only [hx.len, hq, ← hL, nat_toNat, Option.bind_some, decide_true, decide_false, cond_true, cond_false, seqJ_n, seqJ_r, seqJ_e, headK_c, asB_bool, asI_int, asS_s, asN_int, extrK_0, extrK_1, extrK_2, Bool.not_true, Bool.not_false, Nat.beq_refl]
    rw [if_pos hif]
    simp -implicitDefEqProofs only [q1, Option.bind_some, decide_true, decide_false, cond_true, cond_false, seqJ_n, seqJ_r, seqJ_e, headK_c, asB_bool, asI_int, asS_s, asN_int, extrK_0, extrK_1, extrK_2, Bool.not_true, Bool.not_false, Nat.beq_refl]
  · rw [q4.2.2]
    split
    · rfl
    · rw [getD_out (by omega)]
end Go.Proofs.Ytkbecppafippeaa
