/- What the functions come to. -/
import Derived.Test.YtadhelkiinaenaaZkb
/- Frames: what a frame's bytes are read as. -/
namespace Go.Proofs.Ytadhelkiinaenaa
open Go Go.Proofs.Ytadhelkiinaenaa.E
set_option linter.unusedVariables false
set_option linter.unusedSimpArgs false
theorem frFill_loop {m0 : AMem} (h0 : WF m0) {f rid : Nat} {b : SV} {bs : List Int} {N a n : Nat} {bad : Bool} {v : Int} (hin : ∀ j, j = f ∨ j = rid ∨ isId b j → j < m0.next) (hn : n ≤ 1000) :
    ∀ (k i : Nat) (μ : AMem) (y : SV), i + k = n → 1 ≤ i → Go1 m0 μ f rid b bs N a bad y (List.replicate i v) →
      ∃ y' μ', frame_reader_body_L1 [.s (.int .i64 (n : Int))] [.s y] μ = some (.exit 1, [.s y'], μ') ∧ Go1 m0 μ' f rid b bs N a bad y' (List.replicate n v)
  | 0, i, μ, y, h, h1, hg => by
    obtain rfl : i = n := by omega
    refine ⟨y, μ, ?_, hg⟩
    rw [frame_reader_body_L1_eq, frame_reader_body_L1_B_eq, hg.2.2.2.row.len]
    simp -implicitDefEqProofs only [List.length_replicate, lt_f (Int.le_refl (i : Int)), Option.bind_some, decide_true, decide_false, cond_true, cond_false, seqJ_n, seqJ_r, seqJ_e, headK_c, asB_bool, asI_int, asS_s, asN_int, extrK_0, extrK_1, extrK_2, Bool.not_true, Bool.not_false, Nat.beq_refl]
  | k + 1, i, μ, y, h, h1, hg => by
    have hwf := hg.1.wf
    obtain ⟨y1, m1, p1, p2⟩ := hg.push (n := 7) h0 hin (Keep.refl (hwf.bump 7)) (hg.2.1.old fun id o ho _ => ho) hg.2.2.1 v (by simp; omega) (ra := 4) (rb := 5) (by omega) (by omega) (by omega)
    rw [← List.replicate_succ'] at p2
    obtain ⟨y2, m2, q1, q2⟩ := frFill_loop h0 hin hn k (i + 1) m1 y1 (by omega) (by omega) p2
    have hyb := hg.2.2.2.row.same (Keep.bump hwf 7)
    have g0 := fun {R : Type} (K : AV → Option R) => hg.2.2.2.row.ind (i := 0) (by omega) (by simp; omega) K
    have l0 := fun {R : Type} (K : AV → Option R) => hyb.load (i := 0) (by omega) (by simp; omega) K
    have hv : (List.replicate i v).getD (0 : Int).toNat 0 = v := by
      rw [List.getD_eq_getElem?_getD, List.getElem?_replicate, if_pos (by show 0 < i; omega)]; rfl
    refine ⟨y2, m2, ?_, q2⟩
    rw [frame_reader_body_L1_eq, frame_reader_body_L1_B_eq, hg.2.2.2.row.len]
    simp -implicitDefEqProofs only [List.length_replicate, lt_t (show (i : Int) < (n : Int) by omega), g0, l0, hv, p1, Option.bind_some, decide_true, decide_false, cond_true, cond_false, seqJ_n, seqJ_r, seqJ_e, headK_c, asB_bool, asI_int, asS_s, asN_int, extrK_0, extrK_1, extrK_2, Bool.not_true, Bool.not_false, Nat.beq_refl]
    exact q1
/-- Behind what is read: memory goes on, all stays. -/
theorem Go1.same {m0 m m' : AMem} {f rid : Nat} {b : SV} {bs zs : List Int} {N a : Nat} {bad : Bool} {y : SV} (h : Go1 m0 m f rid b bs N a bad y zs) (hs : Same m m') : Go1 m0 m' f rid b bs N a bad y zs :=
  ⟨h.1.trans (hs.weak fun _ h => h.elim), h.2.1.old fun id o ho _ => hs.old id o ho fun h => h, h.2.2.1, ownKeep h.2.2.2 hs fun _ h => h.elim⟩
theorem Go1.other {m0 m : AMem} {f rid : Nat} {b : SV} {bs zs ws : List Int} {N a : Nat} {bad : Bool} {y z : SV} (h : Go1 m0 m f rid b bs N a bad y zs) (hz : OwnRow m0.next m .i64 3 z ws) : Go1 m0 m f rid b bs N a bad z ws := ⟨h.1, h.2.1, h.2.2.1, hz⟩
/-- One behind the other: both rows. -/
theorem Go1.trans {m0 m1 m2 : AMem} {f rid : Nat} {b : SV} {bs zs ws : List Int} {N a1 a2 : Nat} {b1 b2 : Bool} {y z : SV} (hin : ∀ j, j = f ∨ j = rid ∨ isId b j → j < m0.next) (h : Go1 m0 m1 f rid b bs N a1 b1 y zs) (k : Go1 m1 m2 f rid b bs N a2 b2 z ws) :
    Go1 m0 m2 f rid b bs N a2 b2 z ws ∧ OwnRow m0.next m2 .i64 3 y zs :=
  ⟨⟨h.1.trans k.1, k.2.1, k.2.2.1, k.2.2.2.less h.1.next⟩, ownKeep h.2.2.2 k.1 fun j hj hy => by
    have := (own_lives h.2.2.2 hy).1
    have := hin j (hj.elim .inl fun h => .inr (.inl h))
    omega⟩
theorem frBody_is {m0 : AMem} (h0 : WF m0) {f rid : Nat} {b : SV} {bs : List Int} {N a : Nat} {bad : Bool} (hin : ∀ j, j = f ∨ j = rid ∨ isId b j → j < m0.next) (hl : bs.length ≤ 1000000) (hb : ∀ v ∈ bs, 0 ≤ v ∧ v < 256) (hf : Fr N m0 f rid b bs a bad) (ha : a ≤ 8 * bs.length) {kind n : Int} (hk : 0 ≤ kind ∧ kind < 256) (hn : 0 ≤ n ∧ n < 256) :
    ∃ y e μ' xs a' bad', frame_reader_body [.s (.ptr f 0 0), .s (.int .i64 kind), .s (.int .i64 n)] m0 = some (.tuple [.s y, .s (.int .i64 e)], μ') ∧ Go1 m0 μ' f rid b bs N a' bad' y xs ∧ (bad = true → bad' = true) ∧
      (∀ q, bodyO bs kind n a = some q → e = 0 ∧ bad' = bad ∧ xs = q.1 ∧ a' = q.2) ∧ (bodyO bs kind n a = none → bad' = true ∨ e ≠ 0) := by
  have fail : frame_reader_body [.s (.ptr f 0 0), .s (.int .i64 kind), .s (.int .i64 n)] m0 = some (.tuple [.s .nilSlice, .s (.int .i64 2)], m0) → bodyO bs kind n a = none →
      ∃ y e μ' xs a' bad', frame_reader_body [.s (.ptr f 0 0), .s (.int .i64 kind), .s (.int .i64 n)] m0 = some (.tuple [.s y, .s (.int .i64 e)], μ') ∧ Go1 m0 μ' f rid b bs N a' bad' y xs ∧ (bad = true → bad' = true) ∧
      (∀ q, bodyO bs kind n a = some q → e = 0 ∧ bad' = bad ∧ xs = q.1 ∧ a' = q.2) ∧ (bodyO bs kind n a = none → bad' = true ∨ e ≠ 0) := fun e1 e2 =>
    ⟨.nilSlice, 2, m0, [], a, bad, e1, Go1.nil h0 hf ha, fun h => h, fun q hq => (by rw [e2] at hq; cases hq), fun _ => .inr (by omega)⟩
  by_cases c1 : n < 1
  · refine fail ?_ (by unfold bodyO; rw [if_pos (.inr (.inl c1))])
    rw [frame_reader_body_eq]
    simp -implicitDefEqProofs only [lt_t c1, Option.bind_some, decide_true, decide_false, cond_true, cond_false, seqJ_n, seqJ_r, seqJ_e, headK_c, asB_bool, asI_int, asS_s, asN_int, extrK_0, extrK_1, extrK_2, Bool.not_true, Bool.not_false, Nat.beq_refl]
  by_cases c2 : n > 64
  · refine fail ?_ (by unfold bodyO; rw [if_pos (.inr (.inr c2))])
    rw [frame_reader_body_eq]
    simp -implicitDefEqProofs only [lt_f (show 1 ≤ n by omega), gt_t c2, Option.bind_some, decide_true, decide_false, cond_true, cond_false, seqJ_n, seqJ_r, seqJ_e, headK_c, asB_bool, asI_int, asS_s, asN_int, extrK_0, extrK_1, extrK_2, Bool.not_true, Bool.not_false, Nat.beq_refl]
  have d1 := lt_f (show 1 ≤ n by omega)
  have d2 := gt_f (show n ≤ 64 by omega)
  obtain ⟨nn, rfl⟩ : ∃ nn : Nat, n = nn := ⟨n.toNat, by omega⟩
  have cut : kind ≤ 18 → bodyO bs kind nn a = (if kind = 0 then (valO bs 24 (-8388608) 1 a).map fun q => (List.replicate nn (q.1.getD 0 0), q.2)
      else if kind = 1 then valO bs 24 (-8388608) nn a
      else if kind ≤ 6 then (if kind - 2 ≤ (nn : Int) then (valO bs 24 (-8388608) (kind - 2).toNat a).bind fun w => (resO bs ((nn : Int) - (kind - 2)).toNat w.2).bind fun r => if frestE w.1 r.1 = 0 then some (frestZ w.1 r.1, r.2) else none else none)
      else (if kind - 6 < (nn : Int) then (valO bs 24 (-8388608) (kind - 6).toNat a).bind fun w => (valO bs 16 (-32768) (kind - 6).toNat w.2).bind fun c => (resO bs ((nn : Int) - (kind - 6)).toNat c.2).bind fun r => if restE w.1 r.1 c.1 = 0 then some (restZ w.1 r.1 c.1, r.2) else none else none)) := fun h => by
    unfold bodyO
    rw [if_neg (by omega)]; rfl
  by_cases c0 : kind = 0
  · subst c0
    obtain ⟨y, m1, l, a1, bad1, e1, g1, hll, hbb, s1, s2⟩ := frSamples_is h0 hin hl hb (n := 1) (by omega) hf ha
    rw [show ((1 : Nat) : Int) = 1 from rfl] at e1
    obtain ⟨v, rfl⟩ : ∃ v, l = [v] := by
      match l, hll with
      | [v], _ => exact ⟨v, rfl⟩
    obtain ⟨y2, m2, e2, g2⟩ := frFill_loop (v := v) (n := nn) h0 hin (by omega) (nn - 1) 1 m1 y (by omega) (by omega) g1
    refine ⟨y2, 0, m2, _, a1, bad1, ?_, g2, hbb, fun q hq => ?_, fun hq => ?_⟩
    · rw [frame_reader_body_eq]
      simp -implicitDefEqProofs only [d1, d2, BEq.rfl, e1, e2, Option.bind_some, decide_true, decide_false, cond_true, cond_false, seqJ_n, seqJ_r, seqJ_e, headK_c, asB_bool, asI_int, asS_s, asN_int, extrK_0, extrK_1, extrK_2, Bool.not_true, Bool.not_false, Nat.beq_refl]
    · rw [cut (by omega), if_pos rfl] at hq
      obtain ⟨r, hr, rfl⟩ := Option.map_eq_some_iff.mp hq
      obtain ⟨h1, rfl, rfl⟩ := s1 r hr
      exact ⟨rfl, rfl, by rw [← h1]; rfl, rfl⟩
    · rw [cut (by omega), if_pos rfl] at hq
      exact .inl (s2 (by simpa using hq))
  by_cases c1' : kind = 1
  · subst c1'
    obtain ⟨y, m1, l, a1, bad1, e1, g1, hll, hbb, s1, s2⟩ := frSamples_is h0 hin hl hb (n := nn) (by omega) hf ha
    refine ⟨y, 0, m1, l, a1, bad1, ?_, g1, hbb, fun q hq => ?_, fun hq => ?_⟩
    · rw [frame_reader_body_eq]
      simp -implicitDefEqProofs only [d1, d2, eq_f c0, BEq.rfl, e1, Option.bind_some, decide_true, decide_false, cond_true, cond_false, seqJ_n, seqJ_r, seqJ_e, headK_c, asB_bool, asI_int, asS_s, asN_int, extrK_0, extrK_1, extrK_2, Bool.not_true, Bool.not_false, Nat.beq_refl]
    · rw [cut (by omega), if_neg c0, if_pos rfl] at hq
      obtain ⟨h1, h2, h3⟩ := s1 q hq
      exact ⟨rfl, h3, h1, h2⟩
    · rw [cut (by omega), if_neg c0, if_pos rfl] at hq
      exact .inl (s2 hq)
  by_cases c6 : kind ≤ 6
  · have ew : IntKind.wrap .i64 (kind - 2) = kind - 2 := wr (by omega)
    by_cases c3 : kind - 2 ≤ (nn : Int)
    · obtain ⟨p, hp⟩ : ∃ p : Nat, kind - 2 = p := ⟨(kind - 2).toNat, by omega⟩
      have ewp : IntKind.wrap .i64 (p : Int) = p := wr (by omega)
      obtain ⟨y, m1, l, a1, bad1, e1, g1, hll, hbb, s1, s2⟩ := frSamples_is h0 hin hl hb (n := p) (by omega) hf ha
      have hin1 : ∀ j, j = f ∨ j = rid ∨ isId b j → j < m1.next := fun j hj => by have := hin j hj; have := g1.1.next; omega
      have ew2 : IntKind.wrap .i64 ((nn : Int) - (l.length : Int)) = ((nn - p : Nat) : Int) := by rw [wr (by omega)]; omega
      obtain ⟨z, m2, r, a2, bad2, e2, g2, hrl, hbb2, s3, s4⟩ := frRes_is g1.1.wf hin1 hl hb (n := nn - p) (by omega) g1.2.1 g1.2.2.1
      obtain ⟨g12, hy2⟩ := g1.trans hin g2
      obtain ⟨o, m3, e3, k3, o3⟩ := fixRest_is g2.1.wf hy2.row g2.2.2.2.row (by omega) (by omega)
      have hpe : (kind - 2).toNat = p := by omega
      have hne : ((nn : Int) - (kind - 2)).toNat = nn - p := by omega
      refine ⟨o, frestE l r, m3, _, a2, bad2, ?_, (g12.same k3).other (o3.less g12.1.next), fun h => hbb2 (hbb h), fun q hq => ?_, fun hq => ?_⟩
      · rw [frame_reader_body_eq]
        simp -implicitDefEqProofs only [d1, d2, eq_f c0, eq_f c1', ge_t (show 2 ≤ kind by omega), le_t c6, hp, ewp, ge_t (show (p : Int) ≤ (nn : Int) by omega), e1, g1.2.2.2.row.len, ew2, e2, e3, Option.bind_some, decide_true, decide_false, cond_true, cond_false, seqJ_n, seqJ_r, seqJ_e, headK_c, asB_bool, asI_int, asS_s, asN_int, extrK_0, extrK_1, extrK_2, Bool.not_true, Bool.not_false, Nat.beq_refl]
      · rw [cut (by omega), if_neg c0, if_neg c1', if_pos c6, if_pos c3, hpe, hne] at hq
        obtain ⟨w, hw, hq⟩ := Option.bind_eq_some_iff.mp hq
        obtain ⟨w2, hw2, hq⟩ := Option.bind_eq_some_iff.mp hq
        obtain ⟨rfl, rfl, rfl⟩ := s1 w hw
        obtain ⟨rfl, rfl, rfl⟩ := s3 w2 hw2
        split at hq
        · rename_i he
          cases hq
          exact ⟨he, rfl, rfl, rfl⟩
        · cases hq
      · rw [cut (by omega), if_neg c0, if_neg c1', if_pos c6, if_pos c3, hpe, hne] at hq
        cases hv : valO bs 24 (-8388608) p a with
        | none => exact .inl (hbb2 (s2 hv))
        | some w =>
          obtain ⟨rfl, rfl, rfl⟩ := s1 w hv
          rw [hv, Option.bind_some] at hq
          cases hv2 : resO bs (nn - p) w.2 with
          | none => exact .inl (s4 hv2)
          | some w2 =>
            obtain ⟨rfl, rfl, rfl⟩ := s3 w2 hv2
            rw [hv2, Option.bind_some] at hq
            split at hq
            · cases hq
            · rename_i he; exact .inr he
    · refine fail ?_ ?_
      · rw [frame_reader_body_eq]
        simp -implicitDefEqProofs only [d1, d2, eq_f c0, eq_f c1', ge_t (show 2 ≤ kind by omega), le_t c6, ew, ge_f (show (nn : Int) < kind - 2 by omega), gt_f c6, Option.bind_some, decide_true, decide_false, cond_true, cond_false, seqJ_n, seqJ_r, seqJ_e, headK_c, asB_bool, asI_int, asS_s, asN_int, extrK_0, extrK_1, extrK_2, Bool.not_true, Bool.not_false, Nat.beq_refl]
      · rw [cut (by omega), if_neg c0, if_neg c1', if_pos c6, if_neg c3]
  by_cases c18 : kind ≤ 18
  · have ew : IntKind.wrap .i64 (kind - 6) = kind - 6 := wr (by omega)
    by_cases c3 : kind - 6 < (nn : Int)
    · obtain ⟨p, hp⟩ : ∃ p : Nat, kind - 6 = p := ⟨(kind - 6).toNat, by omega⟩
      have ewp : IntKind.wrap .i64 (p : Int) = p := wr (by omega)
      obtain ⟨y, m1, l, a1, bad1, e1, g1, hll, hbb, s1, s2⟩ := frSamples_is h0 hin hl hb (n := p) (by omega) hf ha
      have hin1 : ∀ j, j = f ∨ j = rid ∨ isId b j → j < m1.next := fun j hj => by have := hin j hj; have := g1.1.next; omega
      obtain ⟨y', m2, c, a2, bad2, e2, g2, hcl, hbb2, s3, s4⟩ := frCoef_loop (s2 := (nn : Int)) (s10 := y) g1.1.wf hin1 hl hb (n := l.length) (by omega) l.length 0 m1 .nilSlice [] a1 bad1 (Nat.zero_add _) rfl (Go1.nil g1.1.wf g1.2.1 g1.2.2.1)
      rw [n0] at e2
      rw [List.nil_append] at g2
      obtain ⟨g12, hy2⟩ := g1.trans hin g2
      have hin2 : ∀ j, j = f ∨ j = rid ∨ isId b j → j < m2.next := fun j hj => by have := hin j hj; have := g12.1.next; omega
      have ew2 : IntKind.wrap .i64 ((nn : Int) - (l.length : Int)) = ((nn - p : Nat) : Int) := by rw [wr (by omega)]; omega
      obtain ⟨z, m3, r, a3, bad3, e3, g3, hrl, hbb3, s5, s6⟩ := frRes_is g2.1.wf hin2 hl hb (n := nn - p) (by omega) g2.2.1 g2.2.2.1
      obtain ⟨g13, hc3⟩ := g12.trans hin g3
      obtain ⟨_, hy3⟩ := (g12.other hy2).trans hin g3
      obtain ⟨o, m4, e4, k4, o4⟩ := lpcRest_is g3.1.wf hy3.row g3.2.2.2.row hc3.row (by omega) (by omega) (by omega)
      have hpe : (kind - 6).toNat = p := by omega
      have hne : ((nn : Int) - (kind - 6)).toNat = nn - p := by omega
      refine ⟨o, restE l r c, m4, _, a3, bad3, ?_, (g13.same k4).other (o4.less g13.1.next), fun h => hbb3 (hbb2 (hbb h)), fun q hq => ?_, fun hq => ?_⟩
      · rw [frame_reader_body_eq]
        simp -implicitDefEqProofs only [d1, d2, eq_f c0, eq_f c1', ge_t (show 2 ≤ kind by omega), le_f (show 6 < kind by omega), gt_t (show 6 < kind by omega), le_t c18, hp, ewp, gt_t (show (p : Int) < (nn : Int) by omega), e1, g1.2.2.2.row.len, e2, hy2.row.len, ew2, e3, e4, Option.bind_some, decide_true, decide_false, cond_true, cond_false, seqJ_n, seqJ_r, seqJ_e, headK_c, asB_bool, asI_int, asS_s, asN_int, extrK_0, extrK_1, extrK_2, Bool.not_true, Bool.not_false, Nat.beq_refl]
      · rw [cut c18, if_neg c0, if_neg c1', if_neg c6, if_pos c3, hpe, hne] at hq
        obtain ⟨w, hw, hq⟩ := Option.bind_eq_some_iff.mp hq
        obtain ⟨w2, hw2, hq⟩ := Option.bind_eq_some_iff.mp hq
        obtain ⟨w3, hw3, hq⟩ := Option.bind_eq_some_iff.mp hq
        obtain ⟨rfl, rfl, rfl⟩ := s1 w hw
        rw [← hll] at hw2
        obtain ⟨rfl, rfl, rfl⟩ := s3 w2 hw2
        obtain ⟨rfl, rfl, rfl⟩ := s5 w3 hw3
        split at hq
        · rename_i he
          cases hq
          exact ⟨he, rfl, rfl, rfl⟩
        · cases hq
      · rw [cut c18, if_neg c0, if_neg c1', if_neg c6, if_pos c3, hpe, hne] at hq
        cases hv : valO bs 24 (-8388608) p a with
        | none => exact .inl (hbb3 (hbb2 (s2 hv)))
        | some w =>
          obtain ⟨rfl, rfl, rfl⟩ := s1 w hv
          rw [hv, Option.bind_some] at hq
          cases hv2 : valO bs 16 (-32768) p w.2 with
          | none => exact .inl (hbb3 (s4 (by rw [hll]; exact hv2)))
          | some w2 =>
            obtain ⟨rfl, rfl, rfl⟩ := s3 w2 (by rw [hll]; exact hv2)
            rw [hv2, Option.bind_some] at hq
            cases hv3 : resO bs (nn - p) w2.2 with
            | none => exact .inl (s6 hv3)
            | some w3 =>
              obtain ⟨rfl, rfl, rfl⟩ := s5 w3 hv3
              rw [hv3, Option.bind_some] at hq
              split at hq
              · cases hq
              · rename_i he; exact .inr he
    · refine fail ?_ ?_
      · rw [frame_reader_body_eq]
        simp -implicitDefEqProofs only [d1, d2, eq_f c0, eq_f c1', ge_t (show 2 ≤ kind by omega), le_f (show 6 < kind by omega), gt_t (show 6 < kind by omega), le_t c18, ew, gt_f (show (nn : Int) ≤ kind - 6 by omega), Option.bind_some, decide_true, decide_false, cond_true, cond_false, seqJ_n, seqJ_r, seqJ_e, headK_c, asB_bool, asI_int, asS_s, asN_int, extrK_0, extrK_1, extrK_2, Bool.not_true, Bool.not_false, Nat.beq_refl]
      · rw [cut c18, if_neg c0, if_neg c1', if_neg c6, if_neg c3]
  · refine fail ?_ (by unfold bodyO; rw [if_pos (.inl (by omega))])
    rw [frame_reader_body_eq]
    simp -implicitDefEqProofs only [d1, d2, eq_f c0, eq_f c1', ge_t (show 2 ≤ kind by omega), le_f (show 6 < kind by omega), gt_t (show 6 < kind by omega), le_f (show 18 < kind by omega), Option.bind_some, decide_true, decide_false, cond_true, cond_false, seqJ_n, seqJ_r, seqJ_e, headK_c, asB_bool, asI_int, asS_s, asN_int, extrK_0, extrK_1, extrK_2, Bool.not_true, Bool.not_false, Nat.beq_refl]
theorem decode_is {μ : AMem} (h0 : WF μ) {y : SV} {bs : List Int} (hy : IsRow μ .u8 y bs) (hb : ∀ v ∈ bs, 0 ≤ v ∧ v < 256) (hl : bs.length ≤ 1000000) :
    ∃ z μ', frame_Decode [.s y] μ = some (.tuple [.s z, .s (.int .i64 (if (decO bs).isSome then 0 else 2))], μ') ∧ Same μ μ' ∧ OwnRow μ.next μ' .i64 3 z ((decO bs).getD []) := by
  obtain ⟨rid, b, m1, e1, k1, s1⟩ := newReader_is (h0.bump 5) (hy.same (Keep.bump h0 5)) hl
  have hfn : m1.obj (μ.next + 3) = none := k1.low _ (by simp) (freshB h0 5 3)
  have hn1 := k1.next
  simp only [bump_next] at hn1
  have hrid : μ.next + 5 ≤ rid := s1.1
  have hbn : ∀ j, isId b j → μ.next + 5 ≤ j := fun j hj => (own_lives s1.2.2.1 hj).1
  have k2 : Same μ (m1.set (μ.next + 3) (rowObj [.ptr rid 0 0, .bool false] 2 64 (some 1))) := Keep.setS h0 ((bumpS (Keep.refl h0) 5).trans k1) (by omega) (by omega)
  have f2 : Fr μ.next (m1.set (μ.next + 3) (rowObj [.ptr rid 0 0, .bool false] 2 64 (some 1))) (μ.next + 3) rid b bs 0 false := by
    refine ⟨by omega, ⟨_, set_self _ _ _, rfl, rfl, rfl⟩, ?_, by omega, fun h => by have := hbn _ h; omega⟩
    obtain ⟨t1, ⟨p, hp, hq⟩, t3, t4⟩ := s1
    refine ⟨by simp only [bump_next] at t1; omega, ⟨p, ?_, hq⟩, (t3.old fun id o ho hi => ?_).less (by simp), t4⟩
    · rw [set_obj, if_neg (by omega)]; exact hp
    · have := hbn id hi
      rw [set_obj, if_neg (by omega)]; exact ho
  generalize hM : m1.set (μ.next + 3) (rowObj [.ptr rid 0 0, .bool false] 2 64 (some 1)) = m2 at *
  have hlive2 : ∀ j, j = μ.next + 3 ∨ j = rid ∨ isId b j → j < m2.next := fun j hj => by
    obtain ⟨_, o, ho⟩ := f2.ids hj
    exact k2.wf.lt ho
  obtain ⟨kv, a3, bad3, m3, e3, k3, f3, ha3, hv3, hbb3, g3, g3'⟩ := frGet_is k2.wf f2 (by omega) hl hb 8 (by omega)
  obtain ⟨nv, a4, bad4, m4, e4, k4, f4, ha4, hv4, hbb4, g4, g4'⟩ := frGet_is k3.wf f3 ha3 hl hb 8 (by omega)
  rw [show ((8 : Nat) : Int) = 8 from rfl] at e3 e4
  have h256 : (2 : Int) ^ 8 = 256 := by decide
  have hlive4 : ∀ j, j = μ.next + 3 ∨ j = rid ∨ isId b j → j < m4.next := fun j hj => by have := hlive2 j hj; have := (k3.trans k4).next; omega
  obtain ⟨z, e, m5, xs, a5, bad5, e5, g5, hbb5, s5, s6⟩ := frBody_is k4.wf hlive4 hl hb f4 ha4 (kind := kv) (n := nv) (by omega) (by omega)
  have htwo : ∀ j, two (μ.next + 3) rid j → μ.next ≤ j := fun j hj => (f2.ids (hj.elim .inl fun h => .inr (.inl h))).1
  have k5 : Same μ m5 := keepSame h0 k2 ((k3.trans k4).trans g5.1) htwo
  have hc1 := g5.2.1.cell1
  have hc0 := g5.2.1.cell0
  have hR := Rest_is g5.2.1.2.2.1 g5.2.2.1 hl hb
  have hdec : decO bs = if bad5 = true ∨ e ≠ 0 ∨ restF bs a5 (8 * bs.length - a5) 0 = false then none else some xs := by
    unfold decO
    cases hg : getO bs 0 8 with
    | none =>
      have : bad5 = true := hbb5 (hbb4 (g3' hg))
      rw [if_pos (.inl this)]; rfl
    | some r =>
      obtain ⟨rfl, rfl, rfl⟩ := g3 r hg
      rw [Option.bind_some]
      cases hg2 : getO bs r.2 8 with
      | none =>
        have : bad5 = true := hbb5 (g4' hg2)
        rw [if_pos (.inl this)]; rfl
      | some r2 =>
        obtain ⟨rfl, rfl, rfl⟩ := g4 r2 hg2
        rw [Option.bind_some]
        cases hbo : bodyO bs r.1 r2.1 r2.2 with
        | none =>
          rw [Option.bind_none]
          rcases s6 hbo with h | h
          · rw [if_pos (.inl h)]
          · rw [if_pos (.inr (.inl h))]
        | some q =>
          obtain ⟨rfl, rfl, rfl, rfl⟩ := s5 q hbo
          rw [Option.bind_some]
          cases hrf : restF bs q.2 (8 * bs.length - q.2) 0
          · rw [if_neg (by simp), if_pos (.inr (.inr rfl))]
          · rw [if_pos rfl, if_neg (by simp)]
  have bad : (bad5 = true ∨ e ≠ 0 ∨ restF bs a5 (8 * bs.length - a5) 0 = false) → frame_Decode [.s y] μ = some (.tuple [.s .nilSlice, .s (.int .i64 2)], m5) →
      ∃ z μ', frame_Decode [.s y] μ = some (.tuple [.s z, .s (.int .i64 (if (decO bs).isSome then 0 else 2))], μ') ∧ Same μ μ' ∧ OwnRow μ.next μ' .i64 3 z ((decO bs).getD []) := fun h1 h2 => by
    have hd : decO bs = none := by rw [hdec, if_pos h1]
    rw [hd]
    exact ⟨.nilSlice, m5, h2, k5, OwnRow.nil _ _ _ _⟩
  cases hb5 : bad5
  · rw [hb5] at hc1
    by_cases he : e = 0
    · subst he
      cases hrf : restF bs a5 (8 * bs.length - a5) 0
      · rw [hrf] at hR
        refine bad (.inr (.inr hrf)) ?_
        rw [frame_Decode_eq]
        simp -implicitDefEqProofs only [e1, hM, e3, e4, e5, hc1, hc0, hR, ne_f (rfl : (0 : Int) = 0), Option.bind_some, decide_true, decide_false, cond_true, cond_false, seqJ_n, seqJ_r, seqJ_e, headK_c, asB_bool, asI_int, asS_s, asN_int, extrK_0, extrK_1, extrK_2, Bool.not_true, Bool.not_false, Nat.beq_refl]
      · rw [hrf] at hR
        have hd : decO bs = some xs := by rw [hdec, if_neg (by rw [hb5, hrf]; simp)]
        rw [hd]
        refine ⟨z, m5, ?_, k5, g5.2.2.2.less (Nat.le_trans k2.next (k3.trans k4).next)⟩
        rw [frame_Decode_eq]
        simp -implicitDefEqProofs only [e1, hM, e3, e4, e5, hc1, hc0, hR, ne_f (rfl : (0 : Int) = 0), Option.isSome_some, if_true, Option.bind_some, decide_true, decide_false, cond_true, cond_false, seqJ_n, seqJ_r, seqJ_e, headK_c, asB_bool, asI_int, asS_s, asN_int, extrK_0, extrK_1, extrK_2, Bool.not_true, Bool.not_false, Nat.beq_refl]
    · refine bad (.inr (.inl he)) ?_
      rw [frame_Decode_eq]
      simp -implicitDefEqProofs only [e1, hM, e3, e4, e5, hc1, ne_t he, Option.bind_some, decide_true, decide_false, cond_true, cond_false, seqJ_n, seqJ_r, seqJ_e, headK_c, asB_bool, asI_int, asS_s, asN_int, extrK_0, extrK_1, extrK_2, Bool.not_true, Bool.not_false, Nat.beq_refl]
  · rw [hb5] at hc1
    refine bad (.inl hb5) ?_
    rw [frame_Decode_eq]
    simp -implicitDefEqProofs only [e1, hM, e3, e4, e5, hc1, Option.bind_some, decide_true, decide_false, cond_true, cond_false, seqJ_n, seqJ_r, seqJ_e, headK_c, asB_bool, asI_int, asS_s, asN_int, extrK_0, extrK_1, extrK_2, Bool.not_true, Bool.not_false, Nat.beq_refl]
/-- The kind of a frame, by its first byte. -/
def kindZ (bs : List Int) : Int := if (decO bs).isSome then bs.getD 0 0 else -1
theorem decO_len {bs xs : List Int} (h : decO bs = some xs) : 2 ≤ bs.length := by
  unfold decO at h
  obtain ⟨r, hr, h⟩ := Option.bind_eq_some_iff.mp h
  obtain ⟨r2, hr2, h⟩ := Option.bind_eq_some_iff.mp h
  unfold getO at hr hr2
  split at hr
  · cases hr
    dsimp only at hr2
    split at hr2
    · omega
    · cases hr2
  · cases hr
theorem kind_is {μ : AMem} (h0 : WF μ) {y : SV} {bs : List Int} (hy : IsRow μ .u8 y bs) (hb : ∀ v ∈ bs, 0 ≤ v ∧ v < 256) (hl : bs.length ≤ 1000000) :
    ∃ μ', frame_Kind [.s y] μ = some (.s (.int .i64 (kindZ bs)), μ') ∧ Same μ μ' := by
  obtain ⟨z, m, e1, k1, _⟩ := decode_is h0 hy hb hl
  refine ⟨m, ?_, k1⟩
  unfold kindZ
  rw [frame_Kind_eq]
  cases hd : decO bs with
  | none =>
    rw [hd] at e1
    simp only [Option.isSome_none, Bool.false_eq_true, if_false] at e1 ⊢
    simp -implicitDefEqProofs only [e1, ne_t (show ¬ (2 : Int) = 0 by omega), Option.bind_some, decide_true, decide_false, cond_true, cond_false, seqJ_n, seqJ_r, seqJ_e, headK_c, asB_bool, asI_int, asS_s, asN_int, extrK_0, extrK_1, extrK_2, Bool.not_true, Bool.not_false, Nat.beq_refl]
  | some xs =>
    have hlen := decO_len hd
    rw [hd] at e1
    simp only [Option.isSome_some, if_true] at e1 ⊢
    have hy1 := hy.same k1
    have g0 := fun {R : Type} (K : AV → Option R) => hy1.ind (i := 0) (by omega) (by omega) K
    have l0 := fun {R : Type} (K : AV → Option R) => hy1.load (i := 0) (by omega) (by omega) K
    have hv : 0 ≤ bs.getD 0 0 ∧ bs.getD 0 0 < 256 := hb _ (getD_mem (by omega))
    have ew : IntKind.wrap .i64 (bs.getD 0 0) = bs.getD 0 0 := wr (by omega)
    simp -implicitDefEqProofs only [e1, ne_f (rfl : (0 : Int) = 0), g0, l0, Int.toNat_zero, ew, Option.bind_some, decide_true, decide_false, cond_true, cond_false, seqJ_n, seqJ_r, seqJ_e, headK_c, asB_bool, asI_int, asS_s, asN_int, extrK_0, extrK_1, extrK_2, Bool.not_true, Bool.not_false, Nat.beq_refl]
end Go.Proofs.Ytadhelkiinaenaa
/- The example of the document holds. -/
namespace Go.Proofs.Ytadhelkiinaenaa
open Go Go.Proofs.Ytadhelkiinaenaa.E
set_option linter.unusedVariables false
set_option linter.unusedSimpArgs false
set_option maxRecDepth 100000
theorem enc777 : encD [7, 7, 7] = some (headD 2 3 ++ resD [7, 7, 7]) := by decide +kernel
theorem frame777 : frameD 2 [7, 7, 7] = some (headD 2 3 ++ resD [7, 7, 7]) := by decide +kernel
theorem len777 : (headD 2 3 ++ resD [7, 7, 7]).length = 36 := by decide +kernel
theorem tame777 : tame [7, 7, 7] := fun v hv => by
  simp only [List.mem_cons, List.not_mem_nil, or_false, or_self] at hv
  omega
theorem wakesS (μ : AMem) (hw : WF μ) : ∃ μ', overdublaw08_wakes [] μ = some (.s (.bool true), μ') ∧ Same μ μ' := by
  have k0 : Same μ ((μ.bump 7).set (μ.next + 0) (rowObj [.int .i64 7, .int .i64 7, .int .i64 7] 1 3 (some 3))) := Same.bumpSet hw (by omega) _
  have hx : IsRow ((μ.bump 7).set (μ.next + 0) (rowObj [.int .i64 7, .int .i64 7, .int .i64 7] 1 3 (some 3))) .i64 (.slice (μ.next + 0) 0 0 3) [7, 7, 7] :=
    IsRow.made (o := rowObj [.int .i64 7, .int .i64 7, .int .i64 7] 1 3 (some 3)) (by simp) rfl rfl rfl
  have hE : encE [7, 7, 7] = 0 := by decide
  obtain ⟨ds, bs, z, m1, hds, hh, e1, k1, f1⟩ := (encode_is k0.wf hx (by simp)).2 hE
  rw [enc777] at hds
  obtain rfl := Option.some.inj hds
  have hl : bs.length = 5 := by have := hh.1; rw [len777] at this; omega
  have hl5 : ((bs.length : Nat) : Int) = 5 := by omega
  obtain ⟨m2, e2, k2⟩ := kind_is k1.wf f1.own.row hh.2.1 (by omega)
  have hk : kindZ bs = 2 := kind_back tame777 (by simp) frame777 (Rd.of hh) hh.2.1
  rw [hk] at e2
  refine ⟨m2, ?_, k0.trans (k1.trans k2)⟩
  rw [overdublaw08_wakes_eq]
  simp -implicitDefEqProofs only [e1, f1.own.row.len, hl5, e2, BEq.rfl, Option.bind_some, decide_true, decide_false, cond_true, cond_false, seqJ_n, seqJ_r, seqJ_e, headK_c, asB_bool, asI_int, asS_s, asN_int, extrK_0, extrK_1, extrK_2, Bool.not_true, Bool.not_false, Nat.beq_refl]
theorem wakes_is (μ : AMem) (hw : WF μ) : ∃ μ', overdublaw08_wakes [] μ = some (.s (.bool true), μ') := by
  obtain ⟨m, e, _⟩ := wakesS μ hw
  exact ⟨m, e⟩
end Go.Proofs.Ytadhelkiinaenaa
/- Samples that go on: how many there are, and that they may be. -/
namespace Go.Proofs.Ytadhelkiinaenaa
open Go Go.Proofs.Ytadhelkiinaenaa.E
set_option linter.unusedVariables false
set_option linter.unusedSimpArgs false
/-- Numbers that are near nought. -/
def near (l : List Int) : Prop := ∀ v ∈ l, -300000 ≤ v ∧ v ≤ 300000
theorem near_tame {l : List Int} (h : near l) : tame l := fun v hv => by have := h v hv; omega
def toneV (a b c i k : Int) : Int := if k = 1 then a + b * i else if k = 2 then a + (b * i + c * i * i) else if k = 3 then a + b * (i % 7) else a
theorem toneV_le {a b c : Int} {i : Nat} (ha : -50000 ≤ a ∧ a ≤ 50000) (hb : -1000 ≤ b ∧ b ≤ 1000) (hc : -20 ≤ c ∧ c ≤ 20) (hi : i ≤ 64) (k : Int) : (-64000 ≤ b * (i : Int) ∧ b * (i : Int) ≤ 64000) ∧ (-1280 ≤ c * (i : Int) ∧ c * (i : Int) ≤ 1280) ∧ (-81920 ≤ c * (i : Int) * (i : Int) ∧ c * (i : Int) * (i : Int) ≤ 81920) ∧ (-7000 ≤ b * ((i : Int) % 7) ∧ b * ((i : Int) % 7) ≤ 7000) ∧ -200000 ≤ toneV a b c i k ∧ toneV a b c i k ≤ 200000 := by
  have h1 := prod_le (a := b) (b := (i : Int)) (A := 1000) (B := 64) (by omega) (by omega) (by omega) (by omega)
  have h2 := prod_le (a := c) (b := (i : Int)) (A := 20) (B := 64) (by omega) (by omega) (by omega) (by omega)
  have h3 := prod_le (a := c * (i : Int)) (b := (i : Int)) (A := 1280) (B := 64) (by omega) (by omega) (by omega) (by omega)
  have h4 := prod_le (a := b) (b := (i : Int) % 7) (A := 1000) (B := 7) (by omega) (by omega) (by omega) (by omega)
  unfold toneV
  refine ⟨by omega, by omega, by omega, by omega, ?_⟩
  split
  · omega
  · split
    · omega
    · split <;> omega
theorem tone1 {a b c s2 : Int} {i : Nat} (ha : -50000 ≤ a ∧ a ≤ 50000) (hb : -1000 ≤ b ∧ b ≤ 1000) (hc : -20 ≤ c ∧ c ≤ 20) (hi : i ≤ 64) (h2 : -9223372036854775808 ≤ s2 ∧ s2 ≤ 9223372036854775807) (μ : AMem) :
    ((overdubkeep_Within [.s (.int .i64 s2), .s (.int .i64 4)] μ).bind fun r51 =>
      asI .i64 r51.1 fun n52 =>
      bif (n52 == 1) then
      (some (.normal, [.s (.int .i64 (IntKind.wrap .i64 (a + (IntKind.wrap .i64 (b * (i : Int))))))], r51.2))
      else
      (bif (n52 == 2) then
        (some (.normal, [.s (.int .i64 (IntKind.wrap .i64 (a + (IntKind.wrap .i64 ((IntKind.wrap .i64 (b * (i : Int))) + (IntKind.wrap .i64 ((IntKind.wrap .i64 (c * (i : Int))) * (i : Int))))))))], r51.2))
        else
        (bif (n52 == 3) then
          (some (.normal, [.s (.int .i64 (IntKind.wrap .i64 (a + (IntKind.wrap .i64 (b * (Int.tmod (i : Int) 7))))))], r51.2))
          else
          (some (.normal, [.s (.int .i64 a)], r51.2))))) = (some (.normal, [.s (.int .i64 (toneV a b c i (s2 % 4)))], μ) : Option Res) := by
  have w := within_is s2 4 h2 (by omega) (by omega) μ
  obtain ⟨t1, t2, t3, t4, _⟩ := toneV_le ha hb hc hi 0
  have m7 : Int.tmod (i : Int) 7 = (i : Int) % 7 := Int.tmod_eq_emod_of_nonneg (by omega)
  unfold toneV
  by_cases k1 : s2 % 4 = 1
  · rw [if_pos k1]
    have e : IntKind.wrap .i64 (a + (IntKind.wrap .i64 (b * (i : Int)))) = a + b * (i : Int) := by rw [wr (n := b * (i : Int)) (by omega), wr (by omega)]
    simp -implicitDefEqProofs only [w, eq_t k1, e, Option.bind_some, decide_true, decide_false, cond_true, cond_false, seqJ_n, seqJ_r, seqJ_e, headK_c, asB_bool, asI_int, asS_s, asN_int, extrK_0, extrK_1, extrK_2, Bool.not_true, Bool.not_false, Nat.beq_refl]
  · by_cases k2 : s2 % 4 = 2
    · rw [if_neg k1, if_pos k2]
      have e : IntKind.wrap .i64 (a + (IntKind.wrap .i64 ((IntKind.wrap .i64 (b * (i : Int))) + (IntKind.wrap .i64 ((IntKind.wrap .i64 (c * (i : Int))) * (i : Int)))))) = a + (b * (i : Int) + c * (i : Int) * (i : Int)) := by
        rw [wr (n := b * (i : Int)) (by omega), wr (n := c * (i : Int)) (by omega), wr (n := c * (i : Int) * (i : Int)) (by omega), wr (n := b * (i : Int) + c * (i : Int) * (i : Int)) (by omega), wr (by omega)]
      simp -implicitDefEqProofs only [w, eq_f k1, eq_t k2, e, Option.bind_some, decide_true, decide_false, cond_true, cond_false, seqJ_n, seqJ_r, seqJ_e, headK_c, asB_bool, asI_int, asS_s, asN_int, extrK_0, extrK_1, extrK_2, Bool.not_true, Bool.not_false, Nat.beq_refl]
    · by_cases k3 : s2 % 4 = 3
      · rw [if_neg k1, if_neg k2, if_pos k3]
        have e : IntKind.wrap .i64 (a + (IntKind.wrap .i64 (b * (Int.tmod (i : Int) 7)))) = a + b * ((i : Int) % 7) := by rw [m7, wr (n := b * ((i : Int) % 7)) (by omega), wr (by omega)]
        simp -implicitDefEqProofs only [w, eq_f k1, eq_f k2, eq_t k3, e, Option.bind_some, decide_true, decide_false, cond_true, cond_false, seqJ_n, seqJ_r, seqJ_e, headK_c, asB_bool, asI_int, asS_s, asN_int, extrK_0, extrK_1, extrK_2, Bool.not_true, Bool.not_false, Nat.beq_refl]
      · rw [if_neg k1, if_neg k2, if_neg k3]
        simp -implicitDefEqProofs only [w, eq_f k1, eq_f k2, eq_f k3, Option.bind_some, decide_true, decide_false, cond_true, cond_false, seqJ_n, seqJ_r, seqJ_e, headK_c, asB_bool, asI_int, asS_s, asN_int, extrK_0, extrK_1, extrK_2, Bool.not_true, Bool.not_false, Nat.beq_refl]
theorem tone_loop {μ0 : AMem} (h0 : WF μ0) {x : SV} {zs : List Int} (hx : IsRow μ0 .i64 x zs) (hz : ∀ v ∈ zs, (Lit.int .i64 v).wf = true) {a b c s2 s3 : Int} {n : Nat} (hn : n ≤ 64) (ha : -50000 ≤ a ∧ a ≤ 50000) (hb : -1000 ≤ b ∧ b ≤ 1000) (hc : -20 ≤ c ∧ c ≤ 20) (h2 : -9223372036854775808 ≤ s2 ∧ s2 ≤ 9223372036854775807) (h3 : 0 ≤ s3 ∧ s3 < 4000) :
    ∀ (k i : Nat) (μ : AMem) (y : SV) (ys : List Int), i + k = n → ys.length = i → near ys → Same μ0 μ → OwnRow μ0.next μ .i64 3 y ys →
      ∃ y' μ' ys', overdublaw08_Tone_L1 [.s x, .s (.int .i64 (n : Int)), .s (.int .i64 s2), .s (.int .i64 s3), .s (.int .i64 a), .s (.int .i64 b), .s (.int .i64 c)] [.s y, .s (.int .i64 (i : Int))] μ = some (.exit 0, [.s y'], μ') ∧ Same μ0 μ' ∧ OwnRow μ0.next μ' .i64 3 y' ys' ∧ ys'.length = n ∧ near ys'
  | 0, i, μ, y, ys, h, hl, ht, hs, hy => by
    refine ⟨y, μ, ys, ?_, hs, hy, by omega, ht⟩
    rw [overdublaw08_Tone_L1_eq, overdublaw08_Tone_L1_B_eq]
    simp -implicitDefEqProofs (disch := omega) only [lt_t, lt_f, gt_t, gt_f, le_t, le_f, ge_t, ge_f, ne_t, ne_f, eq_t, eq_f, w64, chk_true, Option.bind_some, decide_true, decide_false, cond_true, cond_false, seqJ_n, seqJ_r, seqJ_e, headK_c, asB_bool, asI_int, asS_s, asN_int, extrK_0, extrK_1, extrK_2, Bool.not_true, Bool.not_false, Nat.beq_refl]
  | k + 1, i, μ, y, ys, h, hl, ht, hs, hy => by
    have hx1 := hx.same hs
    have ht1 := tone1 (s2 := s2) ha hb hc (show i ≤ 64 by omega) h2 μ
    obtain ⟨_, _, _, _, hv1, hv2⟩ := toneV_le ha hb hc (show i ≤ 64 by omega) (s2 % 4)
    have c1 := lt_t (show (i : Int) < (n : Int) by omega)
    have ei : IntKind.wrap .i64 ((i : Int) + 1) = ((i + 1 : Nat) : Int) := by rw [wr (by omega)]; rfl
    have hgo : ∀ v : Int, -300000 ≤ v ∧ v ≤ 300000 → ∃ y1 m1 y' μ' ys', (∀ {R : Type} (K : AV → AMem → Option R), appendA 3 1 8 (μ.next + 3) ((μ.bump 5).set (μ.next + 2) (rowObj [.int .i64 v] 1 3 (some 1))) (.s y) (.s (.slice (μ.next + 2) 0 0 1)) K = K (.s y1) m1) ∧
        overdublaw08_Tone_L1 [.s x, .s (.int .i64 (n : Int)), .s (.int .i64 s2), .s (.int .i64 s3), .s (.int .i64 a), .s (.int .i64 b), .s (.int .i64 c)] [.s y1, .s (.int .i64 ((i + 1 : Nat) : Int))] m1 = some (.exit 0, [.s y'], μ') ∧ Same μ0 μ' ∧ OwnRow μ0.next μ' .i64 3 y' ys' ∧ ys'.length = n ∧ near ys' := fun v hv => by
      obtain ⟨y1, m1, p1, p2, p3⟩ := pushS (B := 8) (a := 2) (b := 3) (n := 5) (q := some 1) h0 hs hy v (by omega) (by omega) (by omega) (by omega) (by omega)
      obtain ⟨y', μ', ys', q1, q2⟩ := tone_loop h0 hx hz hn ha hb hc h2 h3 k (i + 1) m1 y1 _ (by omega) (by simp [hl]) (fun u hu => by
        rcases List.mem_append.mp hu with h | h
        · exact ht u h
        · rw [List.mem_singleton.mp h]; exact hv) p2 p3
      exact ⟨y1, m1, y', μ', ys', p1, q1, q2⟩
    by_cases c2 : (i : Int) < (zs.length : Int)
    · by_cases c3 : s3 > 0
      · have w := within_is (zs.getD i 0) s3 (wf64 (hz _ (getD_mem (by omega)))) (by omega) (by omega) μ
        have hm1 := Int.emod_nonneg (zs.getD i 0) (show ¬ s3 = 0 by omega)
        have hm2 := Int.emod_lt_of_pos (zs.getD i 0) (show 0 < s3 by omega)
        obtain ⟨y1, m1, y', μ', ys', p1, q1, q2⟩ := hgo (toneV a b c i (s2 % 4) + zs.getD i 0 % s3) (by omega)
        have ew : IntKind.wrap .i64 (toneV a b c i (s2 % 4) + zs.getD i 0 % s3) = toneV a b c i (s2 % 4) + zs.getD i 0 % s3 := wr (by omega)
        have g1 := fun {R : Type} (K : AV → Option R) => hx1.ind (i := (i : Int)) (by omega) (by omega) K
        have g2 := fun {R : Type} (K : AV → Option R) => hx1.load (i := (i : Int)) (by omega) (by omega) K
        refine ⟨y', μ', ys', ?_, q2⟩
        rw [overdublaw08_Tone_L1_eq, overdublaw08_Tone_L1_B_eq]
        simp -implicitDefEqProofs only [c1, ht1, hx1.len, lt_t c2, gt_t c3, g1, g2, nat_toNat, w, ew, p1, ei, Option.bind_some, decide_true, decide_false, cond_true, cond_false, seqJ_n, seqJ_r, seqJ_e, headK_c, asB_bool, asI_int, asS_s, asN_int, extrK_0, extrK_1, extrK_2, Bool.not_true, Bool.not_false, Nat.beq_refl]
        exact q1
      · obtain ⟨y1, m1, y', μ', ys', p1, q1, q2⟩ := hgo (toneV a b c i (s2 % 4)) (by omega)
        refine ⟨y', μ', ys', ?_, q2⟩
        rw [overdublaw08_Tone_L1_eq, overdublaw08_Tone_L1_B_eq]
        simp -implicitDefEqProofs only [c1, ht1, hx1.len, lt_t c2, gt_f (show s3 ≤ 0 by omega), p1, ei, Option.bind_some, decide_true, decide_false, cond_true, cond_false, seqJ_n, seqJ_r, seqJ_e, headK_c, asB_bool, asI_int, asS_s, asN_int, extrK_0, extrK_1, extrK_2, Bool.not_true, Bool.not_false, Nat.beq_refl]
        exact q1
    · obtain ⟨y1, m1, y', μ', ys', p1, q1, q2⟩ := hgo (toneV a b c i (s2 % 4)) (by omega)
      refine ⟨y', μ', ys', ?_, q2⟩
      rw [overdublaw08_Tone_L1_eq, overdublaw08_Tone_L1_B_eq]
      simp -implicitDefEqProofs only [c1, ht1, hx1.len, lt_f (show (zs.length : Int) ≤ (i : Int) by omega), p1, ei, Option.bind_some, decide_true, decide_false, cond_true, cond_false, seqJ_n, seqJ_r, seqJ_e, headK_c, asB_bool, asI_int, asS_s, asN_int, extrK_0, extrK_1, extrK_2, Bool.not_true, Bool.not_false, Nat.beq_refl]
      exact q1
theorem tone_is {μ : AMem} (h0 : WF μ) {x : SV} {zs : List Int} (hx : IsRow μ .i64 x zs) (hz : ∀ v ∈ zs, (Lit.int .i64 v).wf = true) {n s2 p3 : Int} (hn : -9223372036854775808 ≤ n ∧ n ≤ 9223372036854775807) (h2 : -9223372036854775808 ≤ s2 ∧ s2 ≤ 9223372036854775807) (h3 : -9223372036854775808 ≤ p3 ∧ p3 ≤ 9223372036854775807) :
    ∃ y μ' ys, overdublaw08_Tone [.s x, .s (.int .i64 n), .s (.int .i64 s2), .s (.int .i64 p3)] μ = some (.s y, μ') ∧ Same μ μ' ∧ OwnRow μ.next μ' .i64 3 y ys ∧ ys.length = (n % 65).toNat ∧ near ys := by
  have w1 := within_is n 65 hn (by omega) (by omega) μ
  have w2 := within_is p3 4000 h3 (by omega) (by omega) μ
  have hm1 := Int.emod_nonneg n (show ¬ (65 : Int) = 0 by omega)
  have hm2 := Int.emod_lt_of_pos n (show (0 : Int) < 65 by omega)
  have hp1 := Int.emod_nonneg p3 (show ¬ (4000 : Int) = 0 by omega)
  have hp2 := Int.emod_lt_of_pos p3 (show (0 : Int) < 4000 by omega)
  have hnn : (((n % 65).toNat : Nat) : Int) = n % 65 := by omega
  by_cases c : (zs.length : Int) > 2
  · have g0 := fun {R : Type} (K : AV → Option R) => hx.ind (i := 0) (by omega) (by omega) K
    have l0 := fun {R : Type} (K : AV → Option R) => hx.load (i := 0) (by omega) (by omega) K
    have g1 := fun {R : Type} (K : AV → Option R) => hx.ind (i := 1) (by omega) (by omega) K
    have l1 := fun {R : Type} (K : AV → Option R) => hx.load (i := 1) (by omega) (by omega) K
    have g2 := fun {R : Type} (K : AV → Option R) => hx.ind (i := 2) (by omega) (by omega) K
    have l2 := fun {R : Type} (K : AV → Option R) => hx.load (i := 2) (by omega) (by omega) K
    have e0 : (0 : Int).toNat = 0 := rfl
    have e1 : (1 : Int).toNat = 1 := rfl
    have e2 : (2 : Int).toNat = 2 := rfl
    simp only [e0] at l0
    simp only [e1] at l1
    simp only [e2] at l2
    have v0 := within_is (zs.getD 0 0) 100000 (wf64 (hz _ (getD_mem (by omega)))) (by omega) (by omega) μ
    have v1 := within_is (zs.getD 1 0) 2000 (wf64 (hz _ (getD_mem (by omega)))) (by omega) (by omega) μ
    have v2 := within_is (zs.getD 2 0) 40 (wf64 (hz _ (getD_mem (by omega)))) (by omega) (by omega) μ
    have a1 := Int.emod_nonneg (zs.getD 0 0) (show ¬ (100000 : Int) = 0 by omega)
    have a2 := Int.emod_lt_of_pos (zs.getD 0 0) (show (0 : Int) < 100000 by omega)
    have b1 := Int.emod_nonneg (zs.getD 1 0) (show ¬ (2000 : Int) = 0 by omega)
    have b2 := Int.emod_lt_of_pos (zs.getD 1 0) (show (0 : Int) < 2000 by omega)
    have c1 := Int.emod_nonneg (zs.getD 2 0) (show ¬ (40 : Int) = 0 by omega)
    have c2 := Int.emod_lt_of_pos (zs.getD 2 0) (show (0 : Int) < 40 by omega)
    obtain ⟨y, μ', ys, q1, q2, q3, q4, q5⟩ := tone_loop (s2 := s2) (s3 := p3 % 4000) (n := (n % 65).toNat) (a := zs.getD 0 0 % 100000 - 50000) (b := zs.getD 1 0 % 2000 - 1000) (c := zs.getD 2 0 % 40 - 20) h0 hx hz (by omega) (by omega) (by omega) (by omega) h2 ⟨hp1, hp2⟩ _ 0 μ .nilSlice [] (Nat.zero_add _) rfl (fun _ h => by cases h) (Keep.refl h0) (OwnRow.nil _ _ _ _)
    rw [n0, hnn] at q1
    have x0 : IntKind.wrap .i64 (zs.getD 0 0 % 100000 - 50000) = zs.getD 0 0 % 100000 - 50000 := wr (by omega)
    have x1 : IntKind.wrap .i64 (zs.getD 1 0 % 2000 - 1000) = zs.getD 1 0 % 2000 - 1000 := wr (by omega)
    have x2 : IntKind.wrap .i64 (zs.getD 2 0 % 40 - 20) = zs.getD 2 0 % 40 - 20 := wr (by omega)
    refine ⟨y, μ', ys, ?_, q2, q3, q4, q5⟩
    rw [overdublaw08_Tone_eq]
    simp -implicitDefEqProofs only [w1, w2, hx.len, gt_t c, g0, l0, g1, l1, g2, l2, v0, v1, v2, chk_rfl, chk_true, x0, x1, x2, q1, Option.bind_some, decide_true, decide_false, cond_true, cond_false, seqJ_n, seqJ_r, seqJ_e, headK_c, asB_bool, asI_int, asS_s, asN_int, extrK_0, extrK_1, extrK_2, Bool.not_true, Bool.not_false, Nat.beq_refl]
  · obtain ⟨y, μ', ys, q1, q2, q3, q4, q5⟩ := tone_loop (s2 := s2) (s3 := p3 % 4000) (n := (n % 65).toNat) (a := 0) (b := 0) (c := 0) h0 hx hz (by omega) (by omega) (by omega) (by omega) h2 ⟨hp1, hp2⟩ _ 0 μ .nilSlice [] (Nat.zero_add _) rfl (fun _ h => by cases h) (Keep.refl h0) (OwnRow.nil _ _ _ _)
    rw [n0, hnn] at q1
    refine ⟨y, μ', ys, ?_, q2, q3, q4, q5⟩
    rw [overdublaw08_Tone_eq]
    simp -implicitDefEqProofs only [w1, w2, hx.len, gt_f (show (zs.length : Int) ≤ 2 by omega), q1, Option.bind_some, decide_true, decide_false, cond_true, cond_false, seqJ_n, seqJ_r, seqJ_e, headK_c, asB_bool, asI_int, asS_s, asN_int, extrK_0, extrK_1, extrK_2, Bool.not_true, Bool.not_false, Nat.beq_refl]
end Go.Proofs.Ytadhelkiinaenaa
/- Frames: what is read of a front is read of the whole; a frame that is cut is none; what is behind. -/
namespace Go.Proofs.Ytadhelkiinaenaa
open Go Go.Proofs.Ytadhelkiinaenaa.E
set_option linter.unusedVariables false
set_option linter.unusedSimpArgs false
/-- cs is a front of bs. -/
def Pre (cs bs : List Int) : Prop := cs.length ≤ bs.length ∧ ∀ j, j < 8 * cs.length → digB cs j = digB bs j
theorem pre_take {bs : List Int} {m : Nat} : Pre (bs.take m) bs := by
  refine ⟨by rw [List.length_take]; omega, fun j hj => ?_⟩
  rw [List.length_take] at hj
  unfold digB
  rw [List.getD_eq_getElem?_getD, List.getElem?_take, if_pos (by omega), ← List.getD_eq_getElem?_getD]
theorem numB_pre {cs bs : List Int} (h : Pre cs bs) {a : Nat} : ∀ n : Nat, a + n ≤ 8 * cs.length → numB cs a n = numB bs a n
  | 0, _ => rfl
  | n + 1, hn => by rw [numB, numB, numB_pre h n (by omega), h.2 _ (by omega)]
theorem getO_pre {cs bs : List Int} (h : Pre cs bs) {a n : Nat} {q : Int × Nat} (ha : a ≤ 8 * cs.length) (hq : getO cs a n = some q) : getO bs a n = some q ∧ q.2 ≤ 8 * cs.length := by
  have hl := h.1
  unfold getO at hq ⊢
  split at hq
  · rename_i hc
    cases hq
    rw [if_pos (by omega), numB_pre h n (by omega)]
    exact ⟨rfl, by dsimp only; omega⟩
  · cases hq
theorem valO_pre {cs bs : List Int} (h : Pre cs bs) {w : Nat} {c : Int} : ∀ {k a : Nat} {q : List Int × Nat}, a ≤ 8 * cs.length → valO cs w c k a = some q → valO bs w c k a = some q ∧ q.2 ≤ 8 * cs.length
  | 0, a, q, ha, hq => by cases hq; exact ⟨rfl, ha⟩
  | k + 1, a, q, ha, hq => by
    obtain ⟨r, hr, hq⟩ := Option.bind_eq_some_iff.mp hq
    obtain ⟨p, hp, rfl⟩ := Option.map_eq_some_iff.mp hq
    obtain ⟨h1, h2⟩ := getO_pre h ha hr
    obtain ⟨h3, h4⟩ := valO_pre h h2 hp
    refine ⟨?_, h4⟩
    rw [valO, h1, Option.bind_some, h3]; rfl
theorem onesF_pre {cs bs : List Int} (h : Pre cs bs) {a : Nat} (ha : a ≤ 8 * cs.length) : ∀ k n : Nat, (onesF cs a (8 * cs.length - a) k n).2.1 = true → onesF bs a (8 * bs.length - a) k n = onesF cs a (8 * cs.length - a) k n
  | 0, n, _ => rfl
  | k + 1, n, ho => by
    have hl := h.1
    rw [onesF] at ho ⊢
    rw [onesF]
    split at ho
    · cases ho
    · rename_i hc
      rw [if_neg (by omega), if_neg hc, h.2 (a + n) (by omega)]
      rw [h.2 (a + n) (by omega)] at ho
      split at ho
      · rw [if_pos (by assumption), if_pos (by assumption)]
      · rw [if_neg (by assumption), if_neg (by assumption)]
        exact onesF_pre h ha k (n + 1) ho
theorem getR_pre {cs bs : List Int} (h : Pre cs bs) {a : Nat} (ha : a ≤ 8 * cs.length) (k : Int) (hg : (getR cs a k).2.1 = true) : getR bs a k = getR cs a k ∧ (getR cs a k).2.2 ≤ 8 * cs.length := by
  refine ⟨?_, getR_le ha k⟩
  have hl := h.1
  unfold getR at hg ⊢
  split at hg
  · cases hg
  · rename_i hk
    rw [if_neg hk, if_neg hk]
    dsimp only at hg ⊢
    by_cases ho : (onesF cs a (8 * cs.length - a) 24 0).2.1 = false
    · rw [if_pos ho] at hg; cases hg
    · have ho' : (onesF cs a (8 * cs.length - a) 24 0).2.1 = true := by simpa using ho
      have hle := (onesF_le cs a ha 24 24 0 (by omega) (by omega) ho').2.2
      rw [onesF_pre h ha 24 0 ho']
      rw [if_neg ho] at hg
      rw [if_neg ho, if_neg ho]
      generalize onesF cs a (8 * cs.length - a) 24 0 = r at *
      generalize (if r.1 = 24 then 32 else k.toNat) = nn at *
      split at hg
      · cases hg
      · rename_i hc
        rw [if_neg (by omega), if_neg hc, numB_pre h _ (by omega)]
theorem riceO_pre {cs bs : List Int} (h : Pre cs bs) {p : Int} : ∀ {k a : Nat} {q : List Int × Nat}, a ≤ 8 * cs.length → riceO cs p k a = some q → riceO bs p k a = some q ∧ q.2 ≤ 8 * cs.length
  | 0, a, q, ha, hq => by cases hq; exact ⟨rfl, ha⟩
  | k + 1, a, q, ha, hq => by
    rw [riceO] at hq
    split at hq
    · rename_i hg
      obtain ⟨p', hp, rfl⟩ := Option.map_eq_some_iff.mp hq
      obtain ⟨e1, e2⟩ := getR_pre h ha p hg
      obtain ⟨h3, h4⟩ := riceO_pre h e2 hp
      refine ⟨?_, h4⟩
      rw [riceO, e1, if_pos hg, h3]; rfl
    · cases hq
theorem resO_pre {cs bs : List Int} (h : Pre cs bs) {n a : Nat} {q : List Int × Nat} (ha : a ≤ 8 * cs.length) (hq : resO cs n a = some q) : resO bs n a = some q ∧ q.2 ≤ 8 * cs.length := by
  unfold resO at hq ⊢
  obtain ⟨r, hr, hq⟩ := Option.bind_eq_some_iff.mp hq
  obtain ⟨h1, h2⟩ := getO_pre h ha hr
  rw [h1, Option.bind_some]
  split at hq
  · rename_i hc
    rw [if_pos hc]
    exact riceO_pre h h2 hq
  · cases hq
theorem bodyO_pre {cs bs : List Int} (h : Pre cs bs) {kind n : Int} {a : Nat} {q : List Int × Nat} (ha : a ≤ 8 * cs.length) (hq : bodyO cs kind n a = some q) : bodyO bs kind n a = some q ∧ q.2 ≤ 8 * cs.length := by
  unfold bodyO at hq ⊢
  split at hq
  · cases hq
  · rename_i h1
    rw [if_neg h1]
    split at hq
    · rename_i h2
      rw [if_pos h2]
      obtain ⟨r, hr, rfl⟩ := Option.map_eq_some_iff.mp hq
      obtain ⟨e1, e2⟩ := valO_pre h ha hr
      rw [e1]
      exact ⟨rfl, e2⟩
    · rename_i h2
      rw [if_neg h2]
      split at hq
      · rename_i h3
        rw [if_pos h3]
        exact valO_pre h ha hq
      · rename_i h3
        rw [if_neg h3]
        split at hq
        · rename_i h4
          rw [if_pos h4]
          split at hq
          · rename_i h5
            rw [if_pos h5]
            obtain ⟨w, hw, hq⟩ := Option.bind_eq_some_iff.mp hq
            obtain ⟨r, hr, hq⟩ := Option.bind_eq_some_iff.mp hq
            obtain ⟨e1, e2⟩ := valO_pre h ha hw
            obtain ⟨e3, e4⟩ := resO_pre h e2 hr
            rw [e1, Option.bind_some, e3, Option.bind_some]
            split at hq
            · rename_i h6
              rw [if_pos h6]
              cases hq
              exact ⟨rfl, e4⟩
            · cases hq
          · cases hq
        · rename_i h4
          rw [if_neg h4]
          split at hq
          · rename_i h5
            rw [if_pos h5]
            obtain ⟨w, hw, hq⟩ := Option.bind_eq_some_iff.mp hq
            obtain ⟨c, hc, hq⟩ := Option.bind_eq_some_iff.mp hq
            obtain ⟨r, hr, hq⟩ := Option.bind_eq_some_iff.mp hq
            obtain ⟨e1, e2⟩ := valO_pre h ha hw
            obtain ⟨e5, e6⟩ := valO_pre h e2 hc
            obtain ⟨e3, e4⟩ := resO_pre h e6 hr
            rw [e1, Option.bind_some, e5, Option.bind_some, e3, Option.bind_some]
            split at hq
            · rename_i h6
              rw [if_pos h6]
              cases hq
              exact ⟨rfl, e4⟩
            · cases hq
          · cases hq
/-- A frame that lacks its last byte is none. -/
theorem dec_cut {kind : Int} {xs ds bs : List Int} (ht : tame xs) (hl : 1 ≤ xs.length ∧ xs.length ≤ 64) (hf : frameD kind xs = some ds) (hh : holds bs ds) : decO (bs.take (bs.length - 1)) = none := by
  cases hd : decO (bs.take (bs.length - 1)) with
  | none => rfl
  | some ys =>
    exfalso
    have hp := pre_take (bs := bs) (m := bs.length - 1)
    have hR : Rd bs ds := Rd.of hh
    obtain ⟨r, hr⟩ := frame_head hf
    obtain ⟨g1, g2⟩ := heads_back (frame_kind hf) hl.2 (by rw [← hr]; exact hR)
    unfold decO at hd
    obtain ⟨k1, h1, hd⟩ := Option.bind_eq_some_iff.mp hd
    obtain ⟨k2, h2, hd⟩ := Option.bind_eq_some_iff.mp hd
    obtain ⟨q, h3, hd⟩ := Option.bind_eq_some_iff.mp hd
    obtain ⟨e1, l1⟩ := getO_pre hp (Nat.zero_le _) h1
    rw [g1] at e1
    obtain rfl := Option.some.inj e1
    obtain ⟨e2, l2⟩ := getO_pre hp l1 h2
    dsimp only at e2 h2 h3 l2
    rw [g2] at e2
    obtain rfl := Option.some.inj e2
    obtain ⟨e3, l3⟩ := bodyO_pre hp l2 h3
    dsimp only at e3
    rw [body_back (post := []) ht hl hf (by simpa using hR)] at e3
    obtain rfl := Option.some.inj e3
    dsimp only at l3
    rw [List.length_take] at l3
    have := hh.1
    have := hR.2
    have hlen : 16 ≤ ds.length := by rw [hr, List.length_append, head_len]; omega
    omega
/-- Digits of bytes, from a place on. -/
def digsFrom (bs : List Int) (a n : Nat) : List Int := (List.range n).map fun i => digB bs (a + i)
theorem digB_out {bs : List Int} {j : Nat} (h : 8 * bs.length ≤ j) : digB bs j = 0 := by
  unfold digB
  rw [List.getD_eq_getElem?_getD, List.getElem?_eq_none (by omega)]
  unfold digV
  simp
theorem digsFrom_get (bs : List Int) (a n i : Nat) : (digsFrom bs a n).getD i 0 = if i < n then digB bs (a + i) else 0 := by
  unfold digsFrom
  rw [List.getD_eq_getElem?_getD, List.getElem?_map]
  split
  · rw [List.getElem?_range (by assumption)]; rfl
  · rw [List.getElem?_eq_none (by simp; omega)]; rfl
theorem restF_true {bs : List Int} {a : Nat} : ∀ k i : Nat, restF bs a k i = true → ∀ j, i ≤ j → j < i + k → ¬ digB bs (a + j) = 1
  | 0, i, _, j, h1, h2 => by omega
  | k + 1, i, h, j, h1, h2 => by
    rw [restF] at h
    split at h
    · cases h
    · by_cases hj : j = i
      · subst hj; assumption
      · exact restF_true k (i + 1) h j (by omega) (by omega)
/-- A frame, and bytes behind: its samples, where they are noughts. -/
theorem dec_more {kind : Int} {xs ds bs zs : List Int} (ht : tame xs) (hl : 1 ≤ xs.length ∧ xs.length ≤ 64) (hf : frameD kind xs = some ds) (hh : holds bs ds) (hz : ∀ v ∈ zs, 0 ≤ v ∧ v < 256) : decO (bs ++ zs) = if zs.all (fun v => v == 0) then some xs else none := by
  have hR := Rd.of hh
  have hfront : ∀ j, j < 8 * bs.length → digB (bs ++ zs) j = digB bs j := fun j hj => by
    unfold digB
    rw [List.getD_eq_getElem?_getD, List.getElem?_append_left (by omega), ← List.getD_eq_getElem?_getD]
  have hlen : (bs ++ zs).length = bs.length + zs.length := List.length_append
  have hR2 : Rd (bs ++ zs) (ds ++ digsFrom (bs ++ zs) ds.length (8 * (bs ++ zs).length - ds.length)) := by
    refine ⟨fun j => ?_, by have := hR.2; rw [List.length_append, digsFrom, List.length_map, List.length_range]; omega⟩
    rw [getD_app]
    split
    · rename_i hj
      rw [hfront j (by have := hR.2; omega)]
      exact hR.1 j
    · rename_i hj
      rw [digsFrom_get]
      split
      · rw [show ds.length + (j - ds.length) = j by omega]
      · exact digB_out (by omega)
  rw [dec_at ht hl hf hR2]
  have hback : ∀ i k, k < 8 → digB (bs ++ zs) (8 * (bs.length + i) + k) = digV (zs.getD i 0) k := fun i k hk => by
    unfold digB
    rw [show (8 * (bs.length + i) + k) / 8 = bs.length + i by omega, show (8 * (bs.length + i) + k) % 8 = k by omega, List.getD_eq_getElem?_getD, List.getElem?_append_right (by omega), show bs.length + i - bs.length = i by omega, ← List.getD_eq_getElem?_getD]
  have hR2' := hR.2
  cases hall : zs.all (fun v => v == 0)
  · simp only [Bool.false_eq_true, if_false]
    refine if_neg fun hr => ?_
    have hno := restF_true _ 0 hr
    obtain ⟨v, hv, hne⟩ := List.all_eq_false.mp hall
    apply hne
    obtain ⟨i, hi, rfl⟩ := List.mem_iff_getElem.mp hv
    have hb := hz _ hv
    have : zs[i] = 0 := byte_ext hb (by omega) fun k hk => by
      have h1 := hno (8 * (bs.length + i) + k - ds.length) (Nat.zero_le _) (by rw [hlen]; omega)
      rw [show ds.length + (8 * (bs.length + i) + k - ds.length) = 8 * (bs.length + i) + k by omega, hback i k hk, getD_lt hi] at h1
      have h2 := digV_le zs[i] k
      have h3 : digV 0 k = 0 := by unfold digV; simp
      rw [h3]; omega
    rw [this]; rfl
  · simp only [if_true]
    refine if_pos ?_
    refine restF_all _ 0 fun j h1 h2 => ?_
    by_cases hj : ds.length + j < 8 * bs.length
    · rw [hfront _ hj, hR.1, getD_out (by omega)]
    · obtain ⟨i, k, hk, hjk⟩ : ∃ i k, k < 8 ∧ ds.length + j = 8 * (bs.length + i) + k := ⟨(ds.length + j) / 8 - bs.length, (ds.length + j) % 8, by omega, by omega⟩
      have hz0 : zs.getD i 0 = 0 := by
        rcases Nat.lt_or_ge i zs.length with h | h
        · have := List.all_eq_true.mp hall _ (getD_mem h)
          exact eq_of_beq this
        · rw [List.getD_eq_getElem?_getD, List.getElem?_eq_none h]; rfl
      rw [hjk, hback i k hk, hz0]
      unfold digV
      simp
end Go.Proofs.Ytadhelkiinaenaa
/- Noughts behind a row of the call's own. -/
namespace Go.Proofs.Ytadhelkiinaenaa
open Go Go.Proofs.Ytadhelkiinaenaa.E
set_option linter.unusedVariables false
set_option linter.unusedSimpArgs false
theorem noughts {N : Nat} {μ : AMem} {k : IntKind} {e : TypeId} {x : SV} {zs ws : List Int} (hw : WF μ) (h : OwnRow N μ k e x zs) {B nid : Nat} (hB : 1 ≤ B) (hb : (zs.length + ws.length) * B ≤ 140737488355328)
    (hN : N ≤ nid) (hlt : nid < μ.next) (hf : μ.obj nid = none) (hwp : ¬ ws.length = 0) : ∃ x' μ', (∀ {R : Type} (K : AV → AMem → Option R), appendS e 1 B nid μ (.s x) ws.length (ws.map (.int k)) K = K (.s x') μ') ∧ OwnRow N μ' k e x' (zs ++ ws) ∧ WF μ' ∧ μ'.next = μ.next ∧
      ((∀ id o, μ.obj id = some o → ¬ isId x id → μ'.obj id = some o) ∧ (∀ id, id ≠ nid → μ.obj id = none → μ'.obj id = none)) ∧ (∀ id, isId x' id → isId x id ∨ id = nid) := by
  have hmul : zs.length + ws.length ≤ (zs.length + ws.length) * B := Nat.le_mul_of_pos_right _ hB
  have hwl : ws.length * B ≤ (zs.length + ws.length) * B := Nat.mul_le_mul_right _ (by omega)
  rcases h with ⟨rfl, rfl⟩ | ⟨id, ver, o, rfl, hN', ho, how, hv, hs, he, hc⟩
  · refine ⟨.slice nid 0 0 ws.length, μ.set nid (rowObj (ws.map (.int k)) 1 e none), fun K => ?_, ?_, hw.set hlt, rfl, ⟨fun id o ho _ => ?_, fun id hne hn => by simp [hne, hn]⟩, fun id h => .inr h.symm⟩
    · simp only [appendS]
      rw [if_pos ⟨by simpa using hb, by simp at hmul hb ⊢; omega⟩, if_neg hwp]
    · exact OwnRow.new (o := rowObj (ws.map (.int k)) 1 e none) (by simp) hN (by simp) rfl rfl rfl rfl (by simp [rowObj])
    · have : id ≠ nid := fun e => by subst e; rw [hf] at ho; cases ho
      simp [this, ho]
  · have hcl := cells_len hc
    refine ⟨.slice id (ver + 1) 0 (zs.length + ws.length), μ.set id (newVer o (o.cells.take zs.length ++ ws.map (.int k))), fun K => ?_, ?_, hw.set (hw.lt ho), rfl, ⟨fun id' o' ho' hne => ?_, fun id' hne' hn => ?_⟩, fun id' h => .inl h⟩
    · simp only [appendS, ho, Option.bind_some, how, hv, hs, he, Nat.mul_one]
      rw [if_pos ⟨trivial, trivial, trivial, trivial, hcl, hb, by omega⟩, if_neg hwp]
    · refine .inr ⟨id, ver + 1, newVer o (o.cells.take zs.length ++ ws.map (.int k)), by simp, hN', by simp, how, by simp [newVer, hv], hs, he, fun i n hi => ?_⟩
      show (o.cells.take zs.length ++ ws.map (.int k))[i]? = _
      have htl : (o.cells.take zs.length).length = zs.length := by simp [Nat.min_eq_left hcl]
      rw [List.getElem?_append] at hi ⊢
      rw [htl]
      split at hi
      · rename_i hlt'
        rw [if_pos hlt', List.getElem?_take, if_pos hlt']; exact hc i n hi
      · rename_i hlt'
        rw [if_neg hlt', List.getElem?_map, hi]; rfl
    · have : id' ≠ id := fun e => hne e.symm
      simp [this, ho']
    · have : id' ≠ id := fun e => by rw [e, ho] at hn; cases hn
      simp [this, hn]
/-- append(x, make(..)...), of so many. -/
theorem zerosS {μ0 μ : AMem} (h0 : WF μ0) (hs : Same μ0 μ) {k : IntKind} {e : TypeId} {x : SV} {zs : List Int} (h : OwnRow μ0.next μ k e x zs) {B nid n : Nat} (hn : 1 ≤ n) (hn2 : n ≤ 1000000) (hB : 1 ≤ B) (hb : (zs.length + n) * B ≤ 140737488355328)
    (hN : μ0.next ≤ nid) (hlt : nid < μ.next) (hf : μ.obj nid = none) : ∃ x' μ', (∀ {R : Type} (K : AV → AMem → Option R), appendZ e 1 B [.int k 0] nid μ (.s x) (n : Int) K = K (.s x') μ') ∧ Same μ0 μ' ∧ OwnRow μ0.next μ' k e x' (zs ++ List.replicate n 0) := by
  have hl : (List.replicate n (0 : Int)).length = n := List.length_replicate
  obtain ⟨x', μ', g1, g2, g3, g4, g5, g6⟩ := noughts (ws := List.replicate n 0) hs.wf h hB (by rw [hl]; exact hb) hN hlt hf (by rw [hl]; omega)
  rw [hl] at g1
  refine ⟨x', μ', fun K => ?_, ⟨g3, by rw [g4]; exact hs.next, fun id o ho hf => g5.1 id o (hs.old id o ho hf) (h.notOld (h0.lt ho)), fun id hi hno => g5.2 id (by omega) (hs.low id hi hno)⟩, g2⟩
  unfold appendZ
  rw [if_pos (by omega), zerosA_rep, show ((n : Nat) : Int).toNat = n from rfl, ← g1 K]
  simp
end Go.Proofs.Ytadhelkiinaenaa
/- What Same comes to. -/
namespace Go.Proofs.Ytadhelkiinaenaa
open Go Go.Proofs.Ytadhelkiinaenaa.E
set_option linter.unusedVariables false
set_option linter.unusedSimpArgs false
theorem same_loop {μ : AMem} {x y : SV} {zs ws : List Int} (hx : IsRow μ .i64 x zs) (hy : IsRow μ .i64 y ws) (hl : zs.length = ws.length) (hb : zs.length ≤ 4611686018427387904) :
    ∀ k i : Nat, i + k = zs.length → overdubkeep_Same_int_L1 [.s x, .s y] [.s (.int .i64 i)] μ = if zs.drop i = ws.drop i then some (.exit 0, [], μ) else some (.ret, [.s (.bool false)], μ)
  | 0, i, h => by
    have h1 : ¬ (i : Int) < (zs.length : Int) := by omega
    rw [overdubkeep_Same_int_L1_eq, overdubkeep_Same_int_L1_B_eq, hx.len]
    rw [List.drop_eq_nil_of_le (by omega), List.drop_eq_nil_of_le (by omega), if_pos rfl]
    simp only [h1, Option.bind_some, decide_true, decide_false, cond_true, cond_false, seqJ_n, seqJ_r, seqJ_e, headK_c, asB_bool, asI_int, asS_s, asN_int, Bool.not_true, Bool.not_false, Nat.beq_refl]
  | k + 1, i, h => by
    have ih := same_loop hx hy hl hb k (i + 1) (by omega)
    have h1 : (i : Int) < (zs.length : Int) := by omega
    have e1 : IntKind.wrap .i64 ((i : Int) + 1) = ((i + 1 : Nat) : Int) := by rw [wr (by omega)]; omega
    have e3 : (((i : Nat) : Int)).toNat = i := by omega
    have hi : i < zs.length := by omega
    have hi2 : i < ws.length := by omega
    rw [overdubkeep_Same_int_L1_eq, overdubkeep_Same_int_L1_B_eq, hx.len]
    simp only [h1, Option.bind_some, decide_true, decide_false, cond_true, cond_false, seqJ_n, seqJ_r, seqJ_e, headK_c, asB_bool, asI_int, asS_s, asN_int, Bool.not_true, Bool.not_false, Nat.beq_refl]
    rw [hx.ind (by omega) h1, hx.load (by omega) h1, asI_int, hy.ind (by omega) (by omega), hy.load (by omega) (by omega), asI_int, e3]
    rw [List.drop_eq_getElem_cons hi, List.drop_eq_getElem_cons hi2]
    have g1 : zs.getD i 0 = zs[i] := by rw [List.getD_eq_getElem?_getD, List.getElem?_eq_getElem hi]; rfl
    have g2 : ws.getD i 0 = ws[i] := by rw [List.getD_eq_getElem?_getD, List.getElem?_eq_getElem hi2]; rfl
    rw [g1, g2]
    by_cases he : zs[i] = ws[i]
    · have hb1 : (zs[i] != ws[i]) = false := by simp [he]
      have hb2 : (ws[i] != ws[i]) = false := by simp
      simp only [hb2, e1, he, List.cons.injEq, true_and, Option.bind_some, decide_true, decide_false, cond_true, cond_false, seqJ_n, seqJ_r, seqJ_e, headK_c, asB_bool, asI_int, asS_s, asN_int, Bool.not_true, Bool.not_false, Nat.beq_refl]
      exact ih
    · have hb1 : (zs[i] != ws[i]) = true := by simp [he]
      simp only [hb1, he, List.cons.injEq, false_and, if_false, Option.bind_some, decide_true, decide_false, cond_true, cond_false, seqJ_n, seqJ_r, seqJ_e, headK_c, asB_bool, asI_int, asS_s, asN_int, Bool.not_true, Bool.not_false, Nat.beq_refl]
theorem same_is {μ : AMem} {x y : SV} {zs ws : List Int} (hx : IsRow μ .i64 x zs) (hy : IsRow μ .i64 y ws) (hb : zs.length ≤ 4611686018427387904) :
    overdubkeep_Same_int [.s x, .s y] μ = some (.s (.bool (decide (zs = ws))), μ) := by
  rw [overdubkeep_Same_int_eq, hx.len, hy.len]
  by_cases hl : zs.length = ws.length
  · have h1 : ((zs.length : Int) != (ws.length : Int)) = false := by simp [hl]
    have := same_loop hx hy hl hb _ 0 (Nat.zero_add _)
    simp only [h1, Option.bind_some, decide_true, decide_false, cond_true, cond_false, seqJ_n, seqJ_r, seqJ_e, headK_c, asB_bool, asI_int, asS_s, asN_int, Bool.not_true, Bool.not_false, Nat.beq_refl]
    rw [show overdubkeep_Same_int_L1 [.s x, .s y] [.s (.int .i64 0)] μ = _ from this]
    simp only [List.drop_zero]
    by_cases he : zs = ws
    · simp only [he, if_true, Option.bind_some, decide_true, decide_false, cond_true, cond_false, seqJ_n, seqJ_r, seqJ_e, headK_c, asB_bool, asI_int, asS_s, asN_int, Bool.not_true, Bool.not_false, Nat.beq_refl]
    · simp only [he, if_false, Option.bind_some, decide_true, decide_false, cond_true, cond_false, seqJ_n, seqJ_r, seqJ_e, headK_c, asB_bool, asI_int, asS_s, asN_int, Bool.not_true, Bool.not_false, Nat.beq_refl]
  · have h1 : ((zs.length : Int) != (ws.length : Int)) = true := by simp; omega
    have he : ¬ zs = ws := fun h => hl (by rw [h])
    simp only [h1, he, Option.bind_some, decide_true, decide_false, cond_true, cond_false, seqJ_n, seqJ_r, seqJ_e, headK_c, asB_bool, asI_int, asS_s, asN_int, Bool.not_true, Bool.not_false, Nat.beq_refl]
end Go.Proofs.Ytadhelkiinaenaa
