/- What the functions come to. -/
import Derived.Test.YtadhelkiinaenaaZkb
/- Frames: what a frame's bytes are read as. -/
namespace Go.Proofs.Ytadhelkiinaenaa
open Go Go.Proofs.Ytadhelkiinaenaa.E
set_option linter.unusedVariables false
set_option linter.unusedSimpArgs false
theorem frFill_loop {m0 : AMem} (h0 : WF m0) {f rid : Nat} {b : SV} {bs : List Int} {N a n : Nat} {bad : Bool} {v : Int} (hin : ∀ j, j = f ∨ j = rid ∨ isId b j → j < m0.next) (hn : n ≤ 1000) :
    ∀ (k i : Nat) (μ : AMem) (y : SV), i + k = n → 1 ≤ i → Go1 m0 μ f rid b bs N a bad y (List.replicate i v) →
      ∃ y' μ', frame_reader_body_L1 [.s (.int .i64 (n : Int))] [.s y] μ = some (.exit 1, [.s y'], μ') ∧ Go1 m0 μ' f rid b bs N a bad y' (List.replicate n v)
  | 0, i, μ, y, h, h1, hg => by
    obtain rfl : i = n := by omega
    refine ⟨y, μ, ?_, hg⟩
    rw [frame_reader_body_L1_eq, frame_reader_body_L1_B_eq, hg.2.2.2.row.len]
    simp -implicitDefEqProofs only [List.length_replicate, lt_f (Int.le_refl (i : Int)), Option.bind_some, decide_true, decide_false, cond_true, cond_false, seqJ_n, seqJ_r, seqJ_e, headK_c, asB_bool, asI_int, asS_s, asN_int, extrK_0, extrK_1, extrK_2, Bool.not_true, Bool.not_false, Nat.beq_refl]
  | k + 1, i, μ, y, h, h1, hg => by
    have hwf := hg.1.wf
    obtain ⟨y1, m1, p1, p2⟩ := hg.push (n := 7) h0 hin (Keep.refl (hwf.bump 7)) (hg.2.1.old fun id o ho _ => ho) hg.2.2.1 v (by simp; omega) (ra := 4) (rb := 5) (by omega) (by omega) (by omega)
    rw [← List.replicate_succ'] at p2
    obtain ⟨y2, m2, q1, q2⟩ := frFill_loop h0 hin hn k (i + 1) m1 y1 (by omega) (by omega) p2
    have hyb := hg.2.2.2.row.same (Keep.bump hwf 7)
    have g0 := fun {R : Type} (K : AV → Option R) => hg.2.2.2.row.ind (i := 0) (by omega) (by simp; omega) K
    have l0 := fun {R : Type} (K : AV → Option R) => hyb.load (i := 0) (by omega) (by simp; omega) K
    have hv : (List.replicate i v).getD (0 : Int).toNat 0 = v := by
      rw [List.getD_eq_getElem?_getD, List.getElem?_replicate, if_pos (by show 0 < i; omega)]; rfl
    refine ⟨y2, m2, ?_, q2⟩
    rw [frame_reader_body_L1_eq, frame_reader_body_L1_B_eq, hg.2.2.2.row.len]
    simp -implicitDefEqProofs only [List.length_replicate, lt_t (show (i : Int) < (n : Int) by omega), g0, l0, hv, p1, Option.bind_some, decide_true, decide_false, cond_true, cond_false, seqJ_n, seqJ_r, seqJ_e, headK_c, asB_bool, asI_int, asS_s, asN_int, extrK_0, extrK_1, extrK_2, Bool.not_true, Bool.not_false, Nat.beq_refl]
    exact q1
/-- Behind what is read: memory goes on, all stays. -/
theorem Go1.same {m0 m m' : AMem} {f rid : Nat} {b : SV} {bs zs : List Int} {N a : Nat} {bad : Bool} {y : SV} (h : Go1 m0 m f rid b bs N a bad y zs) (hs : Same m m') : Go1 m0 m' f rid b bs N a bad y zs :=
  ⟨h.1.trans (hs.weak fun _ h => h.elim), h.2.1.old fun id o ho _ => hs.old id o ho fun h => h, h.2.2.1, ownKeep h.2.2.2 hs fun _ h => h.elim⟩
theorem Go1.other {m0 m : AMem} {f rid : Nat} {b : SV} {bs zs ws : List Int} {N a : Nat} {bad : Bool} {y z : SV} (h : Go1 m0 m f rid b bs N a bad y zs) (hz : OwnRow m0.next m .i64 3 z ws) : Go1 m0 m f rid b bs N a bad z ws := ⟨h.1, h.2.1, h.2.2.1, hz⟩
/-- One behind the other: both rows. -/
theorem Go1.trans {m0 m1 m2 : AMem} {f rid : Nat} {b : SV} {bs zs ws : List Int} {N a1 a2 : Nat} {b1 b2 : Bool} {y z : SV} (hin : ∀ j, j = f ∨ j = rid ∨ isId b j → j < m0.next) (h : Go1 m0 m1 f rid b bs N a1 b1 y zs) (k : Go1 m1 m2 f rid b bs N a2 b2 z ws) :
    Go1 m0 m2 f rid b bs N a2 b2 z ws ∧ OwnRow m0.next m2 .i64 3 y zs :=
  ⟨⟨h.1.trans k.1, k.2.1, k.2.2.1, k.2.2.2.less h.1.next⟩, ownKeep h.2.2.2 k.1 fun j hj hy => by
    have := (own_lives h.2.2.2 hy).1
    have := hin j (hj.elim .inl fun h => .inr (.inl h))
    omega⟩
theorem frBody_is {m0 : AMem} (h0 : WF m0) {f rid : Nat} {b : SV} {bs : List Int} {N a : Nat} {bad : Bool} (hin : ∀ j, j = f ∨ j = rid ∨ isId b j → j < m0.next) (hl : bs.length ≤ 1000000) (hb : ∀ v ∈ bs, 0 ≤ v ∧ v < 256) (hf : Fr N m0 f rid b bs a bad) (ha : a ≤ 8 * bs.length) {kind n : Int} (hk : 0 ≤ kind ∧ kind < 256) (hn : 0 ≤ n ∧ n < 256) :
    ∃ y e μ' xs a' bad', frame_reader_body [.s (.ptr f 0 0), .s (.int .i64 kind), .s (.int .i64 n)] m0 = some (.tuple [.s y, .s (.int .i64 e)], μ') ∧ Go1 m0 μ' f rid b bs N a' bad' y xs ∧ (bad = true → bad' = true) ∧
      (∀ q, bodyO bs kind n a = some q → e = 0 ∧ bad' = bad ∧ xs = q.1 ∧ a' = q.2) ∧ (bodyO bs kind n a = none → bad' = true ∨ e ≠ 0) := by
  have fail : frame_reader_body [.s (.ptr f 0 0), .s (.int .i64 kind), .s (.int .i64 n)] m0 = some (.tuple [.s .nilSlice, .s (.int .i64 2)], m0) → bodyO bs kind n a = none →
      ∃ y e μ' xs a' bad', frame_reader_body [.s (.ptr f 0 0), .s (.int .i64 kind), .s (.int .i64 n)] m0 = some (.tuple [.s y, .s (.int .i64 e)], μ') ∧ Go1 m0 μ' f rid b bs N a' bad' y xs ∧ (bad = true → bad' = true) ∧
      (∀ q, bodyO bs kind n a = some q → e = 0 ∧ bad' = bad ∧ xs = q.1 ∧ a' = q.2) ∧ (bodyO bs kind n a = none → bad' = true ∨ e ≠ 0) := fun e1 e2 =>
    ⟨.nilSlice, 2, m0, [], a, bad, e1, Go1.nil h0 hf ha, fun h => h, fun q hq => (by rw [e2] at hq; cases hq), fun _ => .inr (by omega)⟩
  by_cases c1 : n < 1
  · refine fail ?_ (by unfold bodyO; rw [if_pos (.inr (.inl c1))])
    rw [frame_reader_body_eq]
    simp -implicitDefEqProofs only [lt_t c1, Option.bind_some, decide_true, decide_false, cond_true, cond_false, seqJ_n, seqJ_r, seqJ_e, headK_c, asB_bool, asI_int, asS_s, asN_int, extrK_0, extrK_1, extrK_2, Bool.not_true, Bool.not_false, Nat.beq_refl]
  by_cases c2 : n > 64
  · refine fail ?_ (by unfold bodyO; rw [if_pos (.inr (.inr c2))])
    rw [frame_reader_body_eq]
    simp -implicitDefEqProofs only [lt_f (show 1 ≤ n by omega), gt_t c2, Option.bind_some, decide_true, decide_false, cond_true, cond_false, seqJ_n, seqJ_r, seqJ_e, headK_c, asB_bool, asI_int, asS_s, asN_int, extrK_0, extrK_1, extrK_2, Bool.not_true, Bool.not_false, Nat.beq_refl]
  have d1 := lt_f (show 1 ≤ n by omega)
  have d2 := gt_f (show n ≤ 64 by omega)
  obtain ⟨nn, rfl⟩ : ∃ nn : Nat, n = nn := ⟨n.toNat, by omega⟩
  have cut : kind ≤ 18 → bodyO bs kind nn a = (if kind = 0 then (valO bs 24 (-8388608) 1 a).map fun q => (List.replicate nn (q.1.getD 0 0), q.2)
      else if kind = 1 then valO bs 24 (-8388608) nn a
      else if kind ≤ 6 then (if kind - 2 ≤ (nn : Int) then (valO bs 24 (-8388608) (kind - 2).toNat a).bind fun w => (resO bs ((nn : Int) - (kind - 2)).toNat w.2).bind fun r => if frestE w.1 r.1 = 0 then some (frestZ w.1 r.1, r.2) else none else none)
      else (if kind - 6 < (nn : Int) then (valO bs 24 (-8388608) (kind - 6).toNat a).bind fun w => (valO bs 16 (-32768) (kind - 6).toNat w.2).bind fun c => (resO bs ((nn : Int) - (kind - 6)).toNat c.2).bind fun r => if restE w.1 r.1 c.1 = 0 then some (restZ w.1 r.1 c.1, r.2) else none else none)) := fun h => by
    unfold bodyO
    rw [if_neg (by omega)]; rfl
  by_cases c0 : kind = 0
  · subst c0
    obtain ⟨y, m1, l, a1, bad1, e1, g1, hll, hbb, s1, s2⟩ := frSamples_is h0 hin hl hb (n := 1) (by omega) hf ha
    rw [show ((1 : Nat) : Int) = 1 from rfl] at e1
    obtain ⟨v, rfl⟩ : ∃ v, l = [v] := by
      match l, hll with
      | [v], _ => exact ⟨v, rfl⟩
    obtain ⟨y2, m2, e2, g2⟩ := frFill_loop (v := v) (n := nn) h0 hin (by omega) (nn - 1) 1 m1 y (by omega) (by omega) g1
    refine ⟨y2, 0, m2, _, a1, bad1, ?_, g2, hbb, fun q hq => ?_, fun hq => ?_⟩
    · rw [frame_reader_body_eq]
      simp -implicitDefEqProofs only [d1, d2, BEq.rfl, e1, e2, Option.bind_some, decide_true, decide_false, cond_true, cond_false, seqJ_n, seqJ_r, seqJ_e, headK_c, asB_bool, asI_int, asS_s, asN_int, extrK_0, extrK_1, extrK_2, Bool.not_true, Bool.not_false, Nat.beq_refl]
    · rw [cut (by omega), if_pos rfl] at hq
      obtain ⟨r, hr, rfl⟩ := Option.map_eq_some_iff.mp hq
      obtain ⟨h1, rfl, rfl⟩ := s1 r hr
      exact ⟨rfl, rfl, by rw [← h1]; rfl, rfl⟩
    · rw [cut (by omega), if_pos rfl] at hq
      exact .inl (s2 (by simpa using hq))
  by_cases c1' : kind = 1
  · subst c1'
    obtain ⟨y, m1, l, a1, bad1, e1, g1, hll, hbb, s1, s2⟩ := frSamples_is h0 hin hl hb (n := nn) (by omega) hf ha
    refine ⟨y, 0, m1, l, a1, bad1, ?_, g1, hbb, fun q hq => ?_, fun hq => ?_⟩
    · rw [frame_reader_body_eq]
      simp -implicitDefEqProofs only [d1, d2, eq_f c0, BEq.rfl, e1, Option.bind_some, decide_true, decide_false, cond_true, cond_false, seqJ_n, seqJ_r, seqJ_e, headK_c, asB_bool, asI_int, asS_s, asN_int, extrK_0, extrK_1, extrK_2, Bool.not_true, Bool.not_false, Nat.beq_refl]
    · rw [cut (by omega), if_neg c0, if_pos rfl] at hq
      obtain ⟨h1, h2, h3⟩ := s1 q hq
      exact ⟨rfl, h3, h1, h2⟩
    · rw [cut (by omega), if_neg c0, if_pos rfl] at hq
      exact .inl (s2 hq)
  by_cases c6 : kind ≤ 6
  · have ew : IntKind.wrap .i64 (kind - 2) = kind - 2 := wr (by omega)
    by_cases c3 : kind - 2 ≤ (nn : Int)
    · obtain ⟨p, hp⟩ : ∃ p : Nat, kind - 2 = p := ⟨(kind - 2).toNat, by omega⟩
      have ewp : IntKind.wrap .i64 (p : Int) = p := wr (by omega)
      obtain ⟨y, m1, l, a1, bad1, e1, g1, hll, hbb, s1, s2⟩ := frSamples_is h0 hin hl hb (n := p) (by omega) hf ha
      have hin1 : ∀ j, j = f ∨ j = rid ∨ isId b j → j < m1.next := fun j hj => by have := hin j hj; have := g1.1.next; omega
      have ew2 : IntKind.wrap .i64 ((nn : Int) - (l.length : Int)) = ((nn - p : Nat) : Int) := by rw [wr (by omega)]; omega
      obtain ⟨z, m2, r, a2, bad2, e2, g2, hrl, hbb2, s3, s4⟩ := frRes_is g1.1.wf hin1 hl hb (n := nn - p) (by omega) g1.2.1 g1.2.2.1
      obtain ⟨g12, hy2⟩ := g1.trans hin g2
      obtain ⟨o, m3, e3, k3, o3⟩ := fixRest_is g2.1.wf hy2.row g2.2.2.2.row (by omega) (by omega)
      have hpe : (kind - 2).toNat = p := by omega
      have hne : ((nn : Int) - (kind - 2)).toNat = nn - p := by omega
      refine ⟨o, frestE l r, m3, _, a2, bad2, ?_, (g12.same k3).other (o3.less g12.1.next), fun h => hbb2 (hbb h), fun q hq => ?_, fun hq => ?_⟩
      · rw [frame_reader_body_eq]
        simp -implicitDefEqProofs only [d1, d2, eq_f c0, eq_f c1', ge_t (show 2 ≤ kind by omega), le_t c6, hp, ewp, ge_t (show (p : Int) ≤ (nn : Int) by omega), e1, g1.2.2.2.row.len, ew2, e2, e3, Option.bind_some, decide_true, decide_false, cond_true, cond_false, seqJ_n, seqJ_r, seqJ_e, headK_c, asB_bool, asI_int, asS_s, asN_int, extrK_0, extrK_1, extrK_2, Bool.not_true, Bool.not_false, Nat.beq_refl]
      · rw [cut (by omega), if_neg c0, if_neg c1', if_pos c6, if_pos c3, hpe, hne] at hq
        obtain ⟨w, hw, hq⟩ := Option.bind_eq_some_iff.mp hq
        obtain ⟨w2, hw2, hq⟩ := Option.bind_eq_some_iff.mp hq
        obtain ⟨rfl, rfl, rfl⟩ := s1 w hw
        obtain ⟨rfl, rfl, rfl⟩ := s3 w2 hw2
        split at hq
        · rename_i he
          cases hq
          exact ⟨he, rfl, rfl, rfl⟩
        · cases hq
      · rw [cut (by omega), if_neg c0, if_neg c1', if_pos c6, if_pos c3, hpe, hne] at hq
        cases hv : valO bs 24 (-8388608) p a with
        | none => exact .inl (hbb2 (s2 hv))
        | some w =>
          obtain ⟨rfl, rfl, rfl⟩ := s1 w hv
          rw [hv, Option.bind_some] at hq
          cases hv2 : resO bs (nn - p) w.2 with
          | none => exact .inl (s4 hv2)
          | some w2 =>
            obtain ⟨rfl, rfl, rfl⟩ := s3 w2 hv2
            rw [hv2, Option.bind_some] at hq
            split at hq
            · cases hq
            · rename_i he; exact .inr he
    · refine fail ?_ ?_
      · rw [frame_reader_body_eq]
        simp -implicitDefEqProofs only [d1, d2, eq_f c0, eq_f c1', ge_t (show 2 ≤ kind by omega), le_t c6, ew, ge_f (show (nn : Int) < kind - 2 by omega), gt_f c6, Option.bind_some, decide_true, decide_false, cond_true, cond_false, seqJ_n, seqJ_r, seqJ_e, headK_c, asB_bool, asI_int, asS_s, asN_int, extrK_0, extrK_1, extrK_2, Bool.not_true, Bool.not_false, Nat.beq_refl]
      · rw [cut (by omega), if_neg c0, if_neg c1', if_pos c6, if_neg c3]
  by_cases c18 : kind ≤ 18
  · have ew : IntKind.wrap .i64 (kind - 6) = kind - 6 := wr (by omega)
    by_cases c3 : kind - 6 < (nn : Int)
    · obtain ⟨p, hp⟩ : ∃ p : Nat, kind - 6 = p := ⟨(kind - 6).toNat, by omega⟩
      have ewp : IntKind.wrap .i64 (p : Int) = p := wr (by omega)
      obtain ⟨y, m1, l, a1, bad1, e1, g1, hll, hbb, s1, s2⟩ := frSamples_is h0 hin hl hb (n := p) (by omega) hf ha
      have hin1 : ∀ j, j = f ∨ j = rid ∨ isId b j → j < m1.next := fun j hj => by have := hin j hj; have := g1.1.next; omega
      obtain ⟨y', m2, c, a2, bad2, e2, g2, hcl, hbb2, s3, s4⟩ := frCoef_loop (s2 := (nn : Int)) (s10 := y) g1.1.wf hin1 hl hb (n := l.length) (by omega) l.length 0 m1 .nilSlice [] a1 bad1 (Nat.zero_add _) rfl (Go1.nil g1.1.wf g1.2.1 g1.2.2.1)
      rw [n0] at e2
      rw [List.nil_append] at g2
      obtain ⟨g12, hy2⟩ := g1.trans hin g2
      have hin2 : ∀ j, j = f ∨ j = rid ∨ isId b j → j < m2.next := fun j hj => by have := hin j hj; have := g12.1.next; omega
      have ew2 : IntKind.wrap .i64 ((nn : Int) - (l.length : Int)) = ((nn - p : Nat) : Int) := by rw [wr (by omega)]; omega
      obtain ⟨z, m3, r, a3, bad3, e3, g3, hrl, hbb3, s5, s6⟩ := frRes_is g2.1.wf hin2 hl hb (n := nn - p) (by omega) g2.2.1 g2.2.2.1
      obtain ⟨g13, hc3⟩ := g12.trans hin g3
      obtain ⟨_, hy3⟩ := (g12.other hy2).trans hin g3
      obtain ⟨o, m4, e4, k4, o4⟩ := lpcRest_is g3.1.wf hy3.row g3.2.2.2.row hc3.row (by omega) (by omega) (by omega)
      have hpe : (kind - 6).toNat = p := by omega
      have hne : ((nn : Int) - (kind - 6)).toNat = nn - p := by omega
      refine ⟨o, restE l r c, m4, _, a3, bad3, ?_, (g13.same k4).other (o4.less g13.1.next), fun h => hbb3 (hbb2 (hbb h)), fun q hq => ?_, fun hq => ?_⟩
      · rw [frame_reader_body_eq]
        simp -implicitDefEqProofs only [d1, d2, eq_f c0, eq_f c1', ge_t (show 2 ≤ kind by omega), le_f (show 6 < kind by omega), gt_t (show 6 < kind by omega), le_t c18, hp, ewp, gt_t (show (p : Int) < (nn : Int) by omega), e1, g1.2.2.2.row.len, e2, hy2.row.len, ew2, e3, e4, Option.bind_some, decide_true, decide_false, cond_true, cond_false, seqJ_n, seqJ_r, seqJ_e, headK_c, asB_bool, asI_int, asS_s, asN_int, extrK_0, extrK_1, extrK_2, Bool.not_true, Bool.not_false, Nat.beq_refl]
      · rw [cut c18, if_neg c0, if_neg c1', if_neg c6, if_pos c3, hpe, hne] at hq
        obtain ⟨w, hw, hq⟩ := Option.bind_eq_some_iff.mp hq
        obtain ⟨w2, hw2, hq⟩ := Option.bind_eq_some_iff.mp hq
        obtain ⟨w3, hw3, hq⟩ := Option.bind_eq_some_iff.mp hq
        obtain ⟨rfl, rfl, rfl⟩ := s1 w hw
        rw [← hll] at hw2
        obtain ⟨rfl, rfl, rfl⟩ := s3 w2 hw2
        obtain ⟨rfl, rfl, rfl⟩ := s5 w3 hw3
        split at hq
        · rename_i he
          cases hq
          exact ⟨he, rfl, rfl, rfl⟩
        · cases hq
      · rw [cut c18, if_neg c0, if_neg c1', if_neg c6, if_pos c3, hpe, hne] at hq
        cases hv : valO bs 24 (-8388608) p a with
        | none => exact .inl (hbb3 (hbb2 (s2 hv)))
        | some w =>
          obtain ⟨rfl, rfl, rfl⟩ := s1 w hv
          rw [hv, Option.bind_some] at hq
          cases hv2 : valO bs 16 (-32768) p w.2 with
          | none => exact .inl (hbb3 (s4 (by rw [hll]; exact hv2)))
          | some w2 =>
            obtain ⟨rfl, rfl, rfl⟩ := s3 w2 (by rw [hll]; exact hv2)
            rw [hv2, Option.bind_some] at hq
            cases hv3 : resO bs (nn - p) w2.2 with
            | none => exact .inl (s6 hv3)
            | some w3 =>
              obtain ⟨rfl, rfl, rfl⟩ := s5 w3 hv3
              rw [hv3, Option.bind_some] at hq
              split at hq
              · cases hq
              · rename_i he; exact .inr he
    · refine fail ?_ ?_
      · rw [frame_reader_body_eq]
        simp -implicitDefEqProofs only [d1, d2, eq_f c0, eq_f c1', ge_t (show 2 ≤ kind by omega), le_f (show 6 < kind by omega), gt_t (show 6 < kind by omega), le_t c18, ew, gt_f (show (nn : Int) ≤ kind - 6 by omega), Option.bind_some, decide_true, decide_false, cond_true, cond_false, seqJ_n, seqJ_r, seqJ_e, headK_c, asB_bool, asI_int, asS_s, asN_int, extrK_0, extrK_1, extrK_2, Bool.not_true, Bool.not_false, Nat.beq_refl]
      · rw [cut c18, if_neg c0, if_neg c1', if_neg c6, if_neg c3]
  · refine fail ?_ (by unfold bodyO; rw [if_pos (.inl (by omega))])
    rw [frame_reader_body_eq]
    simp -implicitDefEqProofs only [d1, d2, eq_f c0, eq_f c1', ge_t (show 2 ≤ kind by omega), le_f (show 6 < kind by omega), gt_t (show 6 < kind by omega), le_f (show 18 < kind by omega), Option.bind_some, decide_true, decide_false, cond_true, cond_false, seqJ_n, seqJ_r, seqJ_e, headK_c, asB_bool, asI_int, asS_s, asN_int, extrK_0, extrK_1, extrK_2, Bool.not_true, Bool.not_false, Nat.beq_refl]
theorem decode_is {μ : AMem} (h0 : WF μ) {y : SV} {bs : List Int} (hy : IsRow μ .u8 y bs) (hb : ∀ v ∈ bs, 0 ≤ v ∧ v < 256) (hl : bs.length ≤ 1000000) :
    ∃ z μ', frame_Decode [.s y] μ = some (.tuple [.s z, .s (.int .i64 (if (decO bs).isSome then 0 else 2))], μ') ∧ Same μ μ' ∧ OwnRow μ.next μ' .i64 3 z ((decO bs).getD []) := by
  obtain ⟨rid, b, m1, e1, k1, s1⟩ := newReader_is (h0.bump 5) (hy.same (Keep.bump h0 5)) hl
  have hfn : m1.obj (μ.next + 3) = none := k1.low _ (by simp) (freshB h0 5 3)
  have hn1 := k1.next
  simp only [bump_next] at hn1
  have hrid : μ.next + 5 ≤ rid := s1.1
  have hbn : ∀ j, isId b j → μ.next + 5 ≤ j := fun j hj => (own_lives s1.2.2.1 hj).1
  have k2 : Same μ (m1.set (μ.next + 3) (rowObj [.ptr rid 0 0, .bool false] 2 64 (some 1))) := Keep.setS h0 ((bumpS (Keep.refl h0) 5).trans k1) (by omega) (by omega)
  have f2 : Fr μ.next (m1.set (μ.next + 3) (rowObj [.ptr rid 0 0, .bool false] 2 64 (some 1))) (μ.next + 3) rid b bs 0 false := by
    refine ⟨by omega, ⟨_, set_self _ _ _, rfl, rfl, rfl⟩, ?_, by omega, fun h => by have := hbn _ h; omega⟩
    obtain ⟨t1, ⟨p, hp, hq⟩, t3, t4⟩ := s1
    refine ⟨by simp only [bump_next] at t1; omega, ⟨p, ?_, hq⟩, (t3.old fun id o ho hi => ?_).less (by simp), t4⟩
    · rw [set_obj, if_neg (by omega)]; exact hp
    · have := hbn id hi
      rw [set_obj, if_neg (by omega)]; exact ho
  generalize hM : m1.set (μ.next + 3) (rowObj [.ptr rid 0 0, .bool false] 2 64 (some 1)) = m2 at *
  have hlive2 : ∀ j, j = μ.next + 3 ∨ j = rid ∨ isId b j → j < m2.next := fun j hj => by
    obtain ⟨_, o, ho⟩ := f2.ids hj
    exact k2.wf.lt ho
  obtain ⟨kv, a3, bad3, m3, e3, k3, f3, ha3, hv3, hbb3, g3, g3'⟩ := frGet_is k2.wf f2 (by omega) hl hb 8 (by omega)
  obtain ⟨nv, a4, bad4, m4, e4, k4, f4, ha4, hv4, hbb4, g4, g4'⟩ := frGet_is k3.wf f3 ha3 hl hb 8 (by omega)
  rw [show ((8 : Nat) : Int) = 8 from rfl] at e3 e4
  have h256 : (2 : Int) ^ 8 = 256 := by decide
  have hlive4 : ∀ j, j = μ.next + 3 ∨ j = rid ∨ isId b j → j < m4.next := fun j hj => by have := hlive2 j hj; have := (k3.trans k4).next; omega
  obtain ⟨z, e, m5, xs, a5, bad5, e5, g5, hbb5, s5, s6⟩ := frBody_is k4.wf hlive4 hl hb f4 ha4 (kind := kv) (n := nv) (by omega) (by omega)
  have htwo : ∀ j, two (μ.next + 3) rid j → μ.next ≤ j := fun j hj => (f2.ids (hj.elim .inl fun h => .inr (.inl h))).1
  have k5 : Same μ m5 := keepSame h0 k2 ((k3.trans k4).trans g5.1) htwo
  have hc1 := g5.2.1.cell1
  have hc0 := g5.2.1.cell0
  have hR := Rest_is g5.2.1.2.2.1 g5.2.2.1 hl hb
  have hdec : decO bs = if bad5 = true ∨ e ≠ 0 ∨ restF bs a5 (8 * bs.length - a5) 0 = false then none else some xs := by
    unfold decO
    cases hg : getO bs 0 8 with
    | none =>
      have : bad5 = true := hbb5 (hbb4 (g3' hg))
      rw [if_pos (.inl this)]; rfl
    | some r =>
      obtain ⟨rfl, rfl, rfl⟩ := g3 r hg
      rw [Option.bind_some]
      cases hg2 : getO bs r.2 8 with
      | none =>
        have : bad5 = true := hbb5 (g4' hg2)
        rw [if_pos (.inl this)]; rfl
      | some r2 =>
        obtain ⟨rfl, rfl, rfl⟩ := g4 r2 hg2
        rw [Option.bind_some]
        cases hbo : bodyO bs r.1 r2.1 r2.2 with
        | none =>
          rw [Option.bind_none]
          rcases s6 hbo with h | h
          · rw [if_pos (.inl h)]
          · rw [if_pos (.inr (.inl h))]
        | some q =>
          obtain ⟨rfl, rfl, rfl, rfl⟩ := s5 q hbo
          rw [Option.bind_some]
          cases hrf : restF bs q.2 (8 * bs.length - q.2) 0
          · rw [if_neg (by simp), if_pos (.inr (.inr rfl))]
          · rw [if_pos rfl, if_neg (by simp)]
  have bad : (bad5 = true ∨ e ≠ 0 ∨ restF bs a5 (8 * bs.length - a5) 0 = false) → frame_Decode [.s y] μ = some (.tuple [.s .nilSlice, .s (.int .i64 2)], m5) →
      ∃ z μ', frame_Decode [.s y] μ = some (.tuple [.s z, .s (.int .i64 (if (decO bs).isSome then 0 else 2))], μ') ∧ Same μ μ' ∧ OwnRow μ.next μ' .i64 3 z ((decO bs).getD []) := fun h1 h2 => by
    have hd : decO bs = none := by rw [hdec, if_pos h1]
    rw [hd]
    exact ⟨.nilSlice, m5, h2, k5, OwnRow.nil _ _ _ _⟩
  cases hb5 : bad5
  · rw [hb5] at hc1
    by_cases he : e = 0
    · subst he
      cases hrf : restF bs a5 (8 * bs.length - a5) 0
      · rw [hrf] at hR
        refine bad (.inr (.inr hrf)) ?_
        rw [frame_Decode_eq]
        simp -implicitDefEqProofs only [e1, hM, e3, e4, e5, hc1, hc0, hR, ne_f (rfl : (0 : Int) = 0), Option.bind_some, decide_true, decide_false, cond_true, cond_false, seqJ_n, seqJ_r, seqJ_e, headK_c, asB_bool, asI_int, asS_s, asN_int, extrK_0, extrK_1, extrK_2, Bool.not_true, Bool.not_false, Nat.beq_refl]
      · rw [hrf] at hR
        have hd : decO bs = some xs := by rw [hdec, if_neg (by rw [hb5, hrf]; simp)]
        rw [hd]
        refine ⟨z, m5, ?_, k5, g5.2.2.2.less (Nat.le_trans k2.next (k3.trans k4).next)⟩
        rw [frame_Decode_eq]
        simp -implicitDefEqProofs only [e1, hM, e3, e4, e5, hc1, hc0, hR, ne_f (rfl : (0 : Int) = 0), Option.isSome_some, if_true, Option.bind_some, decide_true, decide_false, cond_true, cond_false, seqJ_n, seqJ_r, seqJ_e, headK_c, asB_bool, asI_int, asS_s, asN_int, extrK_0, extrK_1, extrK_2, Bool.not_true, Bool.not_false, Nat.beq_refl]
    · refine bad (.inr (.inl he)) ?_
      rw [frame_Decode_eq]
      simp -implicitDefEqProofs only [e1, hM, e3, e4, e5, hc1, ne_t he, Option.bind_some, decide_true, decide_false, cond_true, cond_false, seqJ_n, seqJ_r, seqJ_e, headK_c, asB_bool, asI_int, asS_s, asN_int, extrK_0, extrK_1, extrK_2, Bool.not_true, Bool.not_false, Nat.beq_refl]
  · rw [hb5] at hc1
    refine bad (.inl hb5) ?_
    rw [frame_Decode_eq]
    simp -implicitDefEqProofs only [e1, hM, e3, e4, e5, hc1, Option.bind_some, decide_true, decide_false, cond_true, cond_false, seqJ_n, seqJ_r, seqJ_e, headK_c, asB_bool, asI_int, asS_s, asN_int, extrK_0, extrK_1, extrK_2, Bool.not_true, Bool.not_false, Nat.beq_refl]
/-- The kind of a frame, by its first byte. -/
def kindZ (bs : List Int) : Int := if (decO bs).isSome then bs.getD 0 0 else -1
theorem decO_len {bs xs : List Int} (h : decO bs = some xs) : 2 ≤ bs.length := by
  unfold decO at h
  obtain ⟨r, hr, h⟩ := Option.bind_eq_some_iff.mp h
  obtain ⟨r2, hr2, h⟩ := Option.bind_eq_some_iff.mp h
  unfold getO at hr hr2
  split at hr
  · cases hr
    dsimp only at hr2
    split at hr2
    · omega
    · cases hr2
  · cases hr
theorem kind_is {μ : AMem} (h0 : WF μ) {y : SV} {bs : List Int} (hy : IsRow μ .u8 y bs) (hb : ∀ v ∈ bs, 0 ≤ v ∧ v < 256) (hl : bs.length ≤ 1000000) :
    ∃ μ', frame_Kind [.s y] μ = some (.s (.int .i64 (kindZ bs)), μ') ∧ Same μ μ' := by
  obtain ⟨z, m, e1, k1, _⟩ := decode_is h0 hy hb hl
  refine ⟨m, ?_, k1⟩
  unfold kindZ
  rw [frame_Kind_eq]
  cases hd : decO bs with
  | none =>
    rw [hd] at e1
    simp only [Option.isSome_none, Bool.false_eq_true, if_false] at e1 ⊢
    simp -implicitDefEqProofs only [e1, ne_t (show ¬ (2 : Int) = 0 by omega), Option.bind_some, decide_true, decide_false, cond_true, cond_false, seqJ_n, seqJ_r, seqJ_e, headK_c, asB_bool, asI_int, asS_s, asN_int, extrK_0, extrK_1, extrK_2, Bool.not_true, Bool.not_false, Nat.beq_refl]
  | some xs =>
    have hlen := decO_len hd
    rw [hd] at e1
    simp only [Option.isSome_some, if_true] at e1 ⊢
    have hy1 := hy.same k1
    have g0 := fun {R : Type} (K : AV → Option R) => hy1.ind (i := 0) (by omega) (by omega) K
    have l0 := fun {R : Type} (K : AV → Option R) => hy1.load (i := 0) (by omega) (by omega) K
    have hv : 0 ≤ bs.getD 0 0 ∧ bs.getD 0 0 < 256 := hb _ (getD_mem (by omega))
    have ew : IntKind.wrap .i64 (bs.getD 0 0) = bs.getD 0 0 := wr (by omega)
    simp -implicitDefEqProofs only [e1, ne_f (rfl : (0 : Int) = 0), g0, l0, Int.toNat_zero, ew, Option.bind_some, decide_true, decide_false, cond_true, cond_false, seqJ_n, seqJ_r, seqJ_e, headK_c, asB_bool, asI_int, asS_s, asN_int, extrK_0, extrK_1, extrK_2, Bool.not_true, Bool.not_false, Nat.beq_refl]
end Go.Proofs.Ytadhelkiinaenaa
/- The example of the document holds. -/
namespace Go.Proofs.Ytadhelkiinaenaa
open Go Go.Proofs.Ytadhelkiinaenaa.E
set_option linter.unusedVariables false
set_option linter.unusedSimpArgs false
set_option maxRecDepth 100000
theorem enc777 : encD [7, 7, 7] = some (headD 2 3 ++ resD [7, 7, 7]) := by decide +kernel
theorem frame777 : frameD 2 [7, 7, 7] = some (headD 2 3 ++ resD [7, 7, 7]) := by decide +kernel
theorem len777 : (headD 2 3 ++ resD [7, 7, 7]).length = 36 := by decide +kernel
theorem tame777 : tame [7, 7, 7] := fun v hv => by
  simp only [List.mem_cons, List.not_mem_nil, or_false, or_self] at hv
  omega
theorem wakesS (μ : AMem) (hw : WF μ) : ∃ μ', overdublaw08_wakes [] μ = some (.s (.bool true), μ') ∧ Same μ μ' := by
  have k0 : Same μ ((μ.bump 7).set (μ.next + 0) (rowObj [.int .i64 7, .int .i64 7, .int .i64 7] 1 3 (some 3))) := Same.bumpSet hw (by omega) _
  have hx : IsRow ((μ.bump 7).set (μ.next + 0) (rowObj [.int .i64 7, .int .i64 7, .int .i64 7] 1 3 (some 3))) .i64 (.slice (μ.next + 0) 0 0 3) [7, 7, 7] :=
    IsRow.made (o := rowObj [.int .i64 7, .int .i64 7, .int .i64 7] 1 3 (some 3)) (by simp) rfl rfl rfl
  have hE : encE [7, 7, 7] = 0 := by decide
  obtain ⟨ds, bs, z, m1, hds, hh, e1, k1, f1⟩ := (encode_is k0.wf hx (by simp)).2 hE
  rw [enc777] at hds
  obtain rfl := Option.some.inj hds
  have hl : bs.length = 5 := by have := hh.1; rw [len777] at this; omega
  have hl5 : ((bs.length : Nat) : Int) = 5 := by omega
  obtain ⟨m2, e2, k2⟩ := kind_is k1.wf f1.own.row hh.2.1 (by omega)
  have hk : kindZ bs = 2 := kind_back tame777 (by simp) frame777 (Rd.of hh) hh.2.1
  rw [hk] at e2
  refine ⟨m2, ?_, k0.trans (k1.trans k2)⟩
  rw [overdublaw08_wakes_eq]
  simp -implicitDefEqProofs only [e1, f1.own.row.len, hl5, e2, BEq.rfl, Option.bind_some, decide_true, decide_false, cond_true, cond_false, seqJ_n, seqJ_r, seqJ_e, headK_c, asB_bool, asI_int, asS_s, asN_int, extrK_0, extrK_1, extrK_2, Bool.not_true, Bool.not_false, Nat.beq_refl]
theorem wakes_is (μ : AMem) (hw : WF μ) : ∃ μ', overdublaw08_wakes [] μ = some (.s (.bool true), μ') := by
  obtain ⟨m, e, _⟩ := wakesS μ hw
  exact ⟨m, e⟩
end Go.Proofs.Ytadhelkiinaenaa
/- Frames: how long; no kind is shorter than the best. -/
namespace Go.Proofs.Ytadhelkiinaenaa
open Go Go.Proofs.Ytadhelkiinaenaa.E
set_option linter.unusedVariables false
set_option linter.unusedSimpArgs false
theorem better_le {b d : Option (List Int)} {ds : List Int} (h : betterD b d = some ds) : (∀ bs, b = some bs → ds.length ≤ bs.length) ∧ ∀ es, d = some es → ds.length ≤ es.length := by
  unfold betterD at h
  cases d with
  | none =>
    dsimp only at h
    refine ⟨fun bs hb => ?_, fun es he => by cases he⟩
    rw [h] at hb; cases hb; exact Nat.le_refl _
  | some fs =>
    cases b with
    | none =>
      dsimp only at h
      cases h
      exact ⟨fun bs hb => (by cases hb), fun es he => (by cases he; exact Nat.le_refl _)⟩
    | some bs =>
      dsimp only at h
      split at h
      · cases h
        exact ⟨fun cs hb => (by cases hb; omega), fun es he => (by cases he; exact Nat.le_refl _)⟩
      · cases h
        exact ⟨fun cs hb => (by cases hb; exact Nat.le_refl _), fun es he => (by cases he; omega)⟩
theorem better_some {b d : Option (List Int)} {bs : List Int} (h : b = some bs) : ∃ ds, betterD b d = some ds := by
  subst h
  unfold betterD
  cases d with
  | none => exact ⟨_, rfl⟩
  | some es => dsimp only; split <;> exact ⟨_, rfl⟩
theorem encF_le (xs : List Int) : ∀ (k i : Nat) (b : Option (List Int)) (ds : List Int), encF xs k i b = some ds → (∀ bs, b = some bs → ds.length ≤ bs.length) ∧ ∀ j : Nat, i ≤ j → j < i + k → ∀ es, frameD (j : Int) xs = some es → ds.length ≤ es.length
  | 0, i, b, ds, h => ⟨fun bs hb => (by rw [encF] at h; rw [h] at hb; cases hb; exact Nat.le_refl _), fun j h1 h2 => by omega⟩
  | k + 1, i, b, ds, h => by
    rw [encF] at h
    obtain ⟨g1, g2⟩ := encF_le xs k (i + 1) _ ds h
    refine ⟨fun bs hb => ?_, fun j h1 h2 es he => ?_⟩
    · obtain ⟨fs, hf⟩ := better_some (d := frameD (i : Int) xs) hb
      exact Nat.le_trans (g1 fs hf) ((better_le hf).1 bs hb)
    · by_cases hj : j = i
      · subst hj
        have : ∃ fs, betterD b (frameD (j : Int) xs) = some fs := by
          rw [he]
          unfold betterD
          cases b with
          | none => exact ⟨_, rfl⟩
          | some bs => dsimp only; split <;> exact ⟨_, rfl⟩
        obtain ⟨fs, hf⟩ := this
        exact Nat.le_trans (g1 fs hf) ((better_le hf).2 es he)
      · exact g2 j (by omega) (by omega) es he
theorem enc_le {xs ds es : List Int} (h : encD xs = some ds) {j : Nat} (hj : j ≤ 18) (he : frameD (j : Int) xs = some es) : ds.length ≤ es.length := (encF_le xs 19 0 none ds h).2 j (Nat.zero_le _) (by omega) es he
theorem rices_sum {k : Int} {l : List Int} (h : ∀ z ∈ l, mayB z k = true) : ∀ n, n ≤ l.length → ((ricesD k (l.take n)).length : Int) = sumS l k n
  | 0, _ => by simp [ricesD, sumS]
  | n + 1, hn => by
    have ih := rices_sum h n (by omega)
    have hz := riceD_len (h _ (getD_mem (i := n) (by omega)))
    have e : ricesD k (l.take n ++ [l.getD n 0]) = ricesD k (l.take n) ++ riceD (l.getD n 0) k := by unfold ricesD; rw [List.flatMap_append, List.flatMap_cons, List.flatMap_nil, List.append_nil]
    rw [take_snoc (show n < l.length by omega), e, List.length_append, sumS]
    omega
theorem sumS_bound {l : List Int} {k c : Int} (h : ∀ z ∈ l, sizeZ z k ≤ c) : ∀ n, n ≤ l.length → sumS l k n ≤ c * n
  | 0, _ => by simp [sumS]
  | n + 1, hn => by
    have ih := sumS_bound h n (by omega)
    have := h _ (getD_mem (i := n) (by omega))
    rw [sumS, show ((n + 1 : Nat) : Int) = (n : Int) + 1 from rfl, Int.mul_add, Int.mul_one]
    omega
theorem sumS_least {l : List Int} {k c : Int} (h : ∀ z ∈ l, c ≤ sizeZ z k) : ∀ n, n ≤ l.length → c * n ≤ sumS l k n
  | 0, _ => by simp [sumS]
  | n + 1, hn => by
    have ih := sumS_least h n (by omega)
    have := h _ (getD_mem (i := n) (by omega))
    rw [sumS, show ((n + 1 : Nat) : Int) = (n : Int) + 1 from rfl, Int.mul_add, Int.mul_one]
    omega
theorem small_may {l : List Int} (h : smallL l) {k : Int} (hk : 0 ≤ k ∧ k ≤ 24) : ∀ z ∈ l.map zigZ, mayB z k = true := fun z hz => by
  obtain ⟨v, hv, rfl⟩ := List.mem_map.mp hz
  exact mayB_of (zig_may (h v hv)) hk
/-- The digits of a row of residuals: five, and the sum of the best way's sizes. -/
theorem resD_sum {l : List Int} (h : smallL l) : ((resD l).length : Int) = 5 + sumS (l.map zigZ) (bestZ (l.map zigZ)).1 (l.map zigZ).length := by
  have hb := best_le (l.map zigZ)
  have := rices_sum (small_may h hb) _ (Nat.le_refl (l.map zigZ).length)
  rw [List.take_length] at this
  unfold resD
  rw [List.length_append, putD_len]
  omega
theorem resD_at {l : List Int} (h : smallL l) {p : Nat} (hp : p ≤ 24) {c : Int} (hc : ∀ v ∈ l, sizeZ (zigZ v) p ≤ c) : ((resD l).length : Int) ≤ 5 + c * l.length := by
  have hs := resD_sum h
  have hall : (l.map zigZ).all (fun z => mayB z 0) = true := List.all_eq_true.mpr fun z hz => small_may h (k := 0) (by omega) z hz
  obtain ⟨_, _, e, hm⟩ := bestZ_spec hall
  have := (hm p (by omega)).1
  rw [e] at this
  have hb := sumS_bound (l := l.map zigZ) (k := (p : Int)) (c := c) (fun z hz => by
    obtain ⟨v, hv, rfl⟩ := List.mem_map.mp hz
    exact hc v hv) _ (Nat.le_refl (l.map zigZ).length)
  rw [List.length_map] at hb hs this
  omega
theorem resD_least {l : List Int} (h : smallL l) {c : Int} (hc : ∀ v ∈ l, ∀ k : Int, 0 ≤ k ∧ k ≤ 24 → c ≤ sizeZ (zigZ v) k) : 5 + c * l.length ≤ ((resD l).length : Int) := by
  have hs := resD_sum h
  have hb := best_le (l.map zigZ)
  have := sumS_least (l := l.map zigZ) (k := (bestZ (l.map zigZ)).1) (c := c) (fun z hz => by
    obtain ⟨v, hv, rfl⟩ := List.mem_map.mp hz
    exact hc v hv _ hb) _ (Nat.le_refl (l.map zigZ).length)
  rw [List.length_map] at this hs
  omega
theorem fguess0 (l : List Int) : fguess 0 l = 0 := by
  have : (fixC 0).length = 0 := by rw [fixC_len (by omega)]; rfl
  unfold fguess
  rw [this]; rfl
theorem left0 (xs : List Int) : leftZ (fguess 0) 0 xs = xs := by
  unfold leftZ
  apply List.ext_getElem
  · simp
  · intro i h1 h2
    simp only [List.getElem_map, List.getElem_range', fguess0]
    rw [getD_lt (by omega)]
    simp
/-- The samples themselves, put as residuals. -/
theorem frame2 {xs : List Int} (ht : tame xs) (hl : xs.length ≤ 64) : frameD 2 xs = some (headD 2 xs.length ++ resD xs) := by
  have hE : fresE xs (2 - 2) = 0 := by
    unfold fresE
    rw [if_pos (by omega), checkZ_tame ht hl]
  have hZ : fresZ xs (2 - 2) = xs := by
    unfold fresZ
    rw [if_pos hE]
    exact left0 xs
  unfold frameD
  rw [if_neg (by omega), if_neg (by omega), if_pos (by omega), if_pos hE, hZ]
  simp [smpD]
end Go.Proofs.Ytadhelkiinaenaa
/- The document's digits: numbers and ones put, the bytes of all. -/
namespace Go.Proofs.Ytadhelkiinaenaa
open Go Go.Proofs.Ytadhelkiinaenaa.E
set_option linter.unusedVariables false
set_option linter.unusedSimpArgs false
theorem wu8 {n : Int} (h : 0 ≤ n ∧ n < 256) : IntKind.wrap .u8 n = n := by simp [IntKind.wrap, IntKind.signed, IntKind.bits]; omega
theorem refPut_loop {μ0 : AMem} (h0 : WF μ0) {v : Int} :
    ∀ (k : Nat) (μ : AMem) (y : SV) (zs : List Int), k ≤ 63 → zs.length + k ≤ 1000000 → Same μ0 μ → OwnRow μ0.next μ .u8 5 y zs →
      ∃ y' μ', overdubref01_Bits_Put_L1 [.s (.int .i64 v)] [.s y, .s (.int .i64 ((k : Int) - 1))] μ = some (.exit 0, [.s y'], μ') ∧ Same μ0 μ' ∧ OwnRow μ0.next μ' .u8 5 y' (zs ++ putD v k)
  | 0, μ, y, zs, hk, hl, hs, hy => by
    rw [overdubref01_Bits_Put_L1_eq, overdubref01_Bits_Put_L1_B_eq, putD, List.append_nil]
    simp -implicitDefEqProofs (disch := omega) only [lt_t, lt_f, gt_t, gt_f, le_t, le_f, ge_t, ge_f, ne_t, ne_f, eq_t, eq_f, w64, chk_true, Option.bind_some, decide_true, decide_false, cond_true, cond_false, seqJ_n, seqJ_r, seqJ_e, headK_c, asB_bool, asI_int, asS_s, asN_int, extrK_0, extrK_1, extrK_2, Bool.not_true, Bool.not_false, Nat.beq_refl]
    exact ⟨y, μ, rfl, hs, hy⟩
  | k + 1, μ, y, zs, hk, hl, hs, hy => by
    obtain ⟨y', μ', p1, p2, p3⟩ := pushS (B := 1) (a := 7) (b := 8) (n := 10) (q := some 1) h0 hs hy (v / 2 ^ k % 2) (by omega) (by omega) (by omega) (by omega) (by omega)
    obtain ⟨y2, μ2, q1, q2, q3⟩ := refPut_loop h0 (v := v) k μ' y' _ (by omega) (by simp; omega) p2 p3
    rw [List.append_assoc] at q3
    refine ⟨y2, μ2, ?_, q2, q3⟩
    have e0 : ((k + 1 : Nat) : Int) - 1 = (k : Int) := by omega
    have hu := u64n (n := k) (by omega)
    have hmin : min (Int.toNat (k : Int)) (IntKind.bits .i64) = k := by show min _ 64 = k; omega
    have hw := wu8 (n := v / 2 ^ k % 2) (by omega)
    have ei : IntKind.wrap .i64 ((k : Int) - 1) = (k : Int) - 1 := wr (by omega)
    rw [e0, overdubref01_Bits_Put_L1_eq, overdubref01_Bits_Put_L1_B_eq]
    simp -implicitDefEqProofs only [ge_t (show (0 : Int) ≤ k by omega), hu, if_neg (show ¬ (k : Int) < 0 by omega), hmin, and_one, fdivp2, hw, p1, ei, Option.bind_some, decide_true, decide_false, cond_true, cond_false, seqJ_n, seqJ_r, seqJ_e, headK_c, asB_bool, asI_int, asS_s, asN_int, extrK_0, extrK_1, extrK_2, Bool.not_true, Bool.not_false, Nat.beq_refl]
    exact q1
theorem refPut_is {μ : AMem} (h0 : WF μ) {x : SV} {ds : List Int} (hx : IsRow μ .u8 x ds) (hl : ds.length ≤ 900000) (v n : Int) :
    ((n < 0 ∨ n > 62) → overdubref01_Bits_Put [.s x, .s (.int .i64 v), .s (.int .i64 n)] μ = some (.tuple [.s x, .s (.bool false)], μ)) ∧
    (0 ≤ n ∧ n ≤ 62 → ∃ y μ', overdubref01_Bits_Put [.s x, .s (.int .i64 v), .s (.int .i64 n)] μ = some (.tuple [.s y, .s (.bool true)], μ') ∧ Same μ μ' ∧ OwnRow μ.next μ' .u8 5 y (ds ++ putD v n.toNat)) := by
  refine ⟨fun hn => ?_, fun hn => ?_⟩
  · rw [overdubref01_Bits_Put_eq]
    by_cases h1 : n < 0
    · simp -implicitDefEqProofs (disch := omega) only [lt_t, lt_f, gt_t, gt_f, le_t, le_f, ge_t, ge_f, ne_t, ne_f, eq_t, eq_f, w64, chk_true, Option.bind_some, decide_true, decide_false, cond_true, cond_false, seqJ_n, seqJ_r, seqJ_e, headK_c, asB_bool, asI_int, asS_s, asN_int, extrK_0, extrK_1, extrK_2, Bool.not_true, Bool.not_false, Nat.beq_refl]
    · simp -implicitDefEqProofs (disch := omega) only [lt_t, lt_f, gt_t, gt_f, le_t, le_f, ge_t, ge_f, ne_t, ne_f, eq_t, eq_f, w64, chk_true, Option.bind_some, decide_true, decide_false, cond_true, cond_false, seqJ_n, seqJ_r, seqJ_e, headK_c, asB_bool, asI_int, asS_s, asN_int, extrK_0, extrK_1, extrK_2, Bool.not_true, Bool.not_false, Nat.beq_refl]
  · obtain ⟨y, m, g1, g2, g3⟩ := copyS (e := 5) (B := 1) (b := 1) (n := 3) h0 (Keep.refl h0) hx (by omega) (by omega) (by omega)
    obtain ⟨y2, m2, q1, q2, q3⟩ := refPut_loop h0 (v := v) n.toNat m y ds (by omega) (by omega) g2 g3
    have e0 : ((n.toNat : Nat) : Int) - 1 = n - 1 := by omega
    rw [e0] at q1
    refine ⟨y2, m2, ?_, q2, q3⟩
    have c1 := lt_f (a := n) (b := 0) (by omega)
    have c2 := gt_f (a := n) (b := 62) (by omega)
    have c3 : IntKind.wrap .i64 (n - 1) = n - 1 := wr (by omega)
    rw [overdubref01_Bits_Put_eq]
    simp -implicitDefEqProofs only [c1, c2, c3, g1, q1, Option.bind_some, decide_true, decide_false, cond_true, cond_false, seqJ_n, seqJ_r, seqJ_e, headK_c, asB_bool, asI_int, asS_s, asN_int, extrK_0, extrK_1, extrK_2, Bool.not_true, Bool.not_false, Nat.beq_refl]
theorem refOnes_loop {μ0 : AMem} (h0 : WF μ0) {n : Nat} (hn : n ≤ 1024) :
    ∀ (k i : Nat) (μ : AMem) (y : SV) (zs : List Int), i + k = n → zs.length + k ≤ 1000000 → Same μ0 μ → OwnRow μ0.next μ .u8 5 y zs →
      ∃ y' μ', overdubref01_Bits_Ones_L1 [.s (.int .i64 n)] [.s y, .s (.int .i64 i)] μ = some (.exit 0, [.s y'], μ') ∧ Same μ0 μ' ∧ OwnRow μ0.next μ' .u8 5 y' (zs ++ List.replicate k 1)
  | 0, i, μ, y, zs, hi, hl, hs, hy => by
    rw [overdubref01_Bits_Ones_L1_eq, overdubref01_Bits_Ones_L1_B_eq, List.replicate_zero, List.append_nil]
    simp -implicitDefEqProofs (disch := omega) only [lt_t, lt_f, gt_t, gt_f, le_t, le_f, ge_t, ge_f, ne_t, ne_f, eq_t, eq_f, w64, chk_true, Option.bind_some, decide_true, decide_false, cond_true, cond_false, seqJ_n, seqJ_r, seqJ_e, headK_c, asB_bool, asI_int, asS_s, asN_int, extrK_0, extrK_1, extrK_2, Bool.not_true, Bool.not_false, Nat.beq_refl]
    exact ⟨y, μ, rfl, hs, hy⟩
  | k + 1, i, μ, y, zs, hi, hl, hs, hy => by
    obtain ⟨y', μ', p1, p2, p3⟩ := pushS (B := 1) (a := 1) (b := 2) (n := 4) (q := some 1) h0 hs hy 1 (by omega) (by omega) (by omega) (by omega) (by omega)
    obtain ⟨y2, μ2, q1, q2, q3⟩ := refOnes_loop h0 hn k (i + 1) μ' y' _ (by omega) (by simp; omega) p2 p3
    rw [nsu] at q1
    rw [List.append_assoc] at q3
    refine ⟨y2, μ2, ?_, q2, q3⟩
    rw [overdubref01_Bits_Ones_L1_eq, overdubref01_Bits_Ones_L1_B_eq]
    simp -implicitDefEqProofs (disch := omega) only [lt_t, lt_f, gt_t, gt_f, le_t, le_f, ge_t, ge_f, ne_t, ne_f, eq_t, eq_f, w64, chk_true, Option.bind_some, decide_true, decide_false, cond_true, cond_false, seqJ_n, seqJ_r, seqJ_e, headK_c, asB_bool, asI_int, asS_s, asN_int, extrK_0, extrK_1, extrK_2, Bool.not_true, Bool.not_false, Nat.beq_refl, p1]
    exact q1
theorem refOnes_is {μ : AMem} (h0 : WF μ) {x : SV} {ds : List Int} (hx : IsRow μ .u8 x ds) (hl : ds.length ≤ 900000) (n : Int) (hn : 0 ≤ n ∧ n ≤ 1024) :
    ∃ y μ', overdubref01_Bits_Ones [.s x, .s (.int .i64 n)] μ = some (.tuple [.s y, .s (.bool true)], μ') ∧ Same μ μ' ∧ OwnRow μ.next μ' .u8 5 y (ds ++ List.replicate n.toNat 1 ++ [0]) := by
  obtain ⟨y, m, g1, g2, g3⟩ := copyS (e := 5) (B := 1) (b := 1) (n := 3) h0 (Keep.refl h0) hx (by omega) (by omega) (by omega)
  obtain ⟨y2, m2, q1, q2, q3⟩ := refOnes_loop h0 (n := n.toNat) (by omega) n.toNat 0 m y ds (by omega) (by omega) g2 g3
  rw [n0, show ((n.toNat : Nat) : Int) = n by omega] at q1
  obtain ⟨y3, m3, p1, p2, p3⟩ := pushS (B := 1) (a := 1) (b := 2) (n := 5) (q := some 1) h0 q2 q3 0 (by omega) (by simp; omega) (by omega) (by omega) (by omega)
  refine ⟨y3, m3, ?_, p2, p3⟩
  have c1 := lt_f (a := n) (b := 0) (by omega)
  have c2 := gt_f (a := n) (b := 1024) (by omega)
  rw [overdubref01_Bits_Ones_eq]
  simp -implicitDefEqProofs only [c1, c2, g1, q1, p1, Option.bind_some, decide_true, decide_false, cond_true, cond_false, seqJ_n, seqJ_r, seqJ_e, headK_c, asB_bool, asI_int, asS_s, asN_int, extrK_0, extrK_1, extrK_2, Bool.not_true, Bool.not_false, Nat.beq_refl]
theorem orV_fin : ∀ v : Fin 256, ∀ r : Fin 8, IntKind.wrap .u8 (BitVec.toNat ((BitVec.ofInt (IntKind.bits .u8) (v.val : Int)) ||| (BitVec.ofInt (IntKind.bits .u8) (IntKind.wrap .u8 (1 * 2 ^ (7 - r.val)))))) = orB (v.val : Int) r.val ∧
    IntKind.wrap .u8 (BitVec.toNat ((BitVec.ofInt (IntKind.bits .u8) (v.val : Int)) ||| (BitVec.ofInt (IntKind.bits .u8) (IntKind.wrap .u8 (0 * 2 ^ (7 - r.val)))))) = (v.val : Int) := by decide +kernel
theorem orV {v : Int} (h : 0 ≤ v ∧ v < 256) {r : Nat} (hr : r < 8) {d : Int} (hd : d = 0 ∨ d = 1) : IntKind.wrap .u8 (BitVec.toNat ((BitVec.ofInt (IntKind.bits .u8) v) ||| (BitVec.ofInt (IntKind.bits .u8) (IntKind.wrap .u8 (d * 2 ^ (7 - r)))))) = if d = 1 then orB v r else v := by
  have := orV_fin ⟨v.toNat, by omega⟩ ⟨r, hr⟩
  have e : ((v.toNat : Nat) : Int) = v := by omega
  simp only [e] at this
  rcases hd with rfl | rfl
  · rw [if_neg (by omega)]; exact this.2
  · rw [if_pos rfl]; exact this.1
/-- Bytes that hold the first digits. -/
def part (bs ds : List Int) (i : Nat) : Prop := bs.length = (ds.length + 7) / 8 ∧ (∀ v ∈ bs, 0 ≤ v ∧ v < 256) ∧ ∀ j, digB bs j = if j < i then ds.getD j 0 else 0
theorem part_step {bs ds : List Int} {i : Nat} (h : part bs ds i) (hi : i < ds.length) (hd : ds.getD i 0 = 0 ∨ ds.getD i 0 = 1) : part (bs.set (i / 8) (if ds.getD i 0 = 1 then orB (bs.getD (i / 8) 0) (i % 8) else bs.getD (i / 8) 0)) ds (i + 1) := by
  obtain ⟨h1, h2, h3⟩ := h
  have hx : i / 8 < bs.length := by omega
  have hv := h2 _ (getD_mem hx)
  obtain ⟨o1, o2⟩ := orB_dig hv (r := i % 8) (by omega)
  refine ⟨by simp; omega, fun v hv' => ?_, fun j => ?_⟩
  · rcases List.mem_or_eq_of_mem_set hv' with h | h
    · exact h2 v h
    · rw [h]; split
      · exact o1
      · exact hv
  · unfold digB
    rw [getD_setB hx]
    have h3j := h3 j
    unfold digB at h3j
    by_cases c : j / 8 = i / 8
    · rw [if_pos c]
      rw [c] at h3j
      rcases hd with hd | hd
      · rw [if_neg (by omega), h3j]
        by_cases c2 : j = i
        · subst c2; rw [if_neg (by omega), if_pos (by omega), hd]
        · by_cases c3 : j < i
          · rw [if_pos c3, if_pos (by omega)]
          · rw [if_neg c3, if_neg (by omega)]
      · rw [if_pos hd, o2 _ (by omega)]
        by_cases c2 : j = i
        · subst c2; rw [if_pos rfl, if_pos (by omega), hd]
        · rw [if_neg (by omega), h3j]
          by_cases c3 : j < i
          · rw [if_pos c3, if_pos (by omega)]
          · rw [if_neg c3, if_neg (by omega)]
    · rw [if_neg c, h3j]
      by_cases c3 : j < i
      · rw [if_pos c3, if_pos (by omega)]
      · rw [if_neg c3, if_neg (by omega)]
theorem refBytes_loop {μ0 : AMem} (h0 : WF μ0) {x y : SV} {ds : List Int} (hl : ds.length ≤ 900000) (h01 : ∀ v ∈ ds, v = 0 ∨ v = 1) (hap : Apart y x) :
    ∀ (k i : Nat) (μ : AMem) (bs : List Int), i + k = ds.length → Same μ0 μ → IsRow μ .u8 x ds → OwnRow μ0.next μ .u8 5 y bs → part bs ds i →
      ∃ bs' μ', overdubref01_Bits_Bytes_L1 [.s x, .s y, .s (.int .i64 ds.length)] [.s (.int .i64 i)] μ = some (.exit 0, [.s y], μ') ∧ Same μ0 μ' ∧ OwnRow μ0.next μ' .u8 5 y bs' ∧ part bs' ds ds.length
  | 0, i, μ, bs, h, hs, hx, hy, hp => by
    obtain rfl : i = ds.length := by omega
    rw [overdubref01_Bits_Bytes_L1_eq, overdubref01_Bits_Bytes_L1_B_eq]
    simp -implicitDefEqProofs (disch := omega) only [lt_t, lt_f, gt_t, gt_f, le_t, le_f, ge_t, ge_f, ne_t, ne_f, eq_t, eq_f, w64, chk_true, Option.bind_some, decide_true, decide_false, cond_true, cond_false, seqJ_n, seqJ_r, seqJ_e, headK_c, asB_bool, asI_int, asS_s, asN_int, extrK_0, extrK_1, extrK_2, Bool.not_true, Bool.not_false, Nat.beq_refl]
    exact ⟨bs, μ, rfl, hs, hy, hp⟩
  | k + 1, i, μ, bs, h, hs, hx, hy, hp => by
    have hi : i < ds.length := by omega
    have hd := h01 _ (getD_mem hi)
    have hb8 : i / 8 < bs.length := by have := hp.1; omega
    have hv := hp.2.1 _ (getD_mem hb8)
    obtain ⟨m1, s1, s2, s3, s4⟩ := storeK hs.wf hy (i := i / 8) hb8 (if ds.getD i 0 = 1 then orB (bs.getD (i / 8) 0) (i % 8) else bs.getD (i / 8) 0)
    have hs1 := keepSame h0 hs s2 fun j hj => (own_lives hy hj).1
    obtain ⟨bs', μ', q1, q2, q3, q4⟩ := refBytes_loop h0 hl h01 hap k (i + 1) m1 _ (by omega) hs1 (rowKeep hx s2 hap) s3 (part_step hp hi hd)
    rw [nsu] at q1
    refine ⟨bs', μ', ?_, q2, q3, q4⟩
    have e1 : IntKind.wrap .i64 (Int.tdiv (i : Int) 8) = ((i / 8 : Nat) : Int) := by rw [Int.tdiv_eq_ediv_of_nonneg (by omega), wr (by omega)]; omega
    have e2 : IntKind.wrap .i64 (7 - Int.tmod (i : Int) 8) = ((7 - i % 8 : Nat) : Int) := by rw [Int.tmod_eq_emod_of_nonneg (by omega), wr (by omega)]; omega
    have e3 := u64n (n := 7 - i % 8) (by omega)
    have e4 : min (Int.toNat ((7 - i % 8 : Nat) : Int)) (IntKind.bits .u8) = 7 - i % 8 := by show min _ 8 = _; omega
    have e5 := orV hv (r := i % 8) (by omega) hd
    have c1 := lt_t (a := (i : Int)) (b := (ds.length : Int)) (by omega)
    have hyi := fun {R : Type} (K : AV → Option R) => hy.row.ind (i := ((i / 8 : Nat) : Int)) (by omega) (by omega) K
    have hyl := fun {R : Type} (K : AV → Option R) => hy.row.load (i := ((i / 8 : Nat) : Int)) (by omega) (by omega) K
    have hxi := fun {R : Type} (K : AV → Option R) => hx.ind (i := (i : Int)) (by omega) (by omega) K
    have hxl := fun {R : Type} (K : AV → Option R) => hx.load (i := (i : Int)) (by omega) (by omega) K
    rw [nat_toNat] at hyl hxl
    have ei : IntKind.wrap .i64 ((i : Int) + 1) = (i : Int) + 1 := wr (by omega)
    rw [overdubref01_Bits_Bytes_L1_eq, overdubref01_Bits_Bytes_L1_B_eq]
    simp -implicitDefEqProofs only [c1, e1, e2, e3, if_neg (show ¬ ((7 - i % 8 : Nat) : Int) < 0 by omega), e4, hyi, hyl, hxi, hxl, e5, s1, ei, Option.bind_some, decide_true, decide_false, cond_true, cond_false, seqJ_n, seqJ_r, seqJ_e, headK_c, asB_bool, asI_int, asS_s, asN_int, extrK_0, extrK_1, extrK_2, Bool.not_true, Bool.not_false, Nat.beq_refl]
    exact q1
theorem refBytes_is {μ : AMem} (h0 : WF μ) {x : SV} {ds : List Int} (hx : IsRow μ .u8 x ds) (hl : ds.length ≤ 900000) (h01 : ∀ v ∈ ds, v = 0 ∨ v = 1) :
    ∃ y bs μ', overdubref01_Bits_Bytes [.s x] μ = some (.s y, μ') ∧ Same μ μ' ∧ OwnRow μ.next μ' .u8 5 y bs ∧ holds bs ds := by
  have hq : IntKind.wrap .i64 (Int.tdiv (IntKind.wrap .i64 (((ds.length : Nat) : Int) + 7)) 8) = (((ds.length + 7) / 8 : Nat) : Int) := by
    rw [wr (n := ((ds.length : Nat) : Int) + 7) (by omega), Int.tdiv_eq_ediv_of_nonneg (by omega), wr (by omega)]; omega
  obtain ⟨L, hL⟩ : ∃ L, L = (ds.length + 7) / 8 := ⟨_, rfl⟩
  have hif : 0 ≤ (L : Int) ∧ (L : Int) ≤ (L : Int) ∧ (L : Int) ≤ 9223372036854775807 ∧ ((1 : Nat) : Int) * (L : Int) ≤ 140737488355328 := by omega
  have k1 := Same.bumpSet h0 (n := 6) (a := 4) (by omega) (rowObj (zerosA [.int .u8 0] L) 1 5 (some L))
  have z1 : OwnRow μ.next ((μ.bump 6).set (μ.next + 4) (rowObj (zerosA [.int .u8 0] L) 1 5 (some L))) .u8 5 (.slice (μ.next + 4) 0 0 L) (List.replicate L 0) :=
    OwnRow.new (o := rowObj (zerosA [.int .u8 0] L) 1 5 (some L)) (by simp) (by omega) (by simp) rfl rfl rfl rfl (by show zerosA _ _ = _; rw [zerosA_rep]; simp)
  have hp : part (List.replicate L 0) ds 0 := by
    refine ⟨by rw [List.length_replicate, hL], fun v hv => by rw [(List.mem_replicate.mp hv).2]; omega, fun j => ?_⟩
    rw [if_neg (by omega)]
    unfold digB
    have : (List.replicate L (0 : Int)).getD (j / 8) 0 = 0 := by rw [List.getD_eq_getElem?_getD, List.getElem?_replicate]; split <;> rfl
    rw [this, digV_zero]
  obtain ⟨bs, m, q1, q2, q3, q4⟩ := refBytes_loop h0 hl h01 (apart_old h0 z1 hx) ds.length 0 _ _ (by omega) k1 (hx.same k1) z1 hp
  rw [n0] at q1
  refine ⟨_, bs, m, ?_, q2, q3, q4.1, q4.2.1, fun j => ?_⟩
  · rw [overdubref01_Bits_Bytes_eq]
    simp -implicitDefEqProofs only [hx.len, hq, ← hL, nat_toNat, Option.bind_some, decide_true, decide_false, cond_true, cond_false, seqJ_n, seqJ_r, seqJ_e, headK_c, asB_bool, asI_int, asS_s, asN_int, extrK_0, extrK_1, extrK_2, Bool.not_true, Bool.not_false, Nat.beq_refl]
    rw [if_pos hif]
    simp -implicitDefEqProofs only [q1, Option.bind_some, decide_true, decide_false, cond_true, cond_false, seqJ_n, seqJ_r, seqJ_e, headK_c, asB_bool, asI_int, asS_s, asN_int, extrK_0, extrK_1, extrK_2, Bool.not_true, Bool.not_false, Nat.beq_refl]
  · rw [q4.2.2]
    split
    · rfl
    · rw [getD_out (by omega)]
end Go.Proofs.Ytadhelkiinaenaa
/- The document's digits: a number put. -/
namespace Go.Proofs.Ytadhelkiinaenaa
open Go Go.Proofs.Ytadhelkiinaenaa.E
set_option linter.unusedVariables false
set_option linter.unusedSimpArgs false
theorem refRice_is {μ : AMem} (h0 : WF μ) {x : SV} {ds : List Int} (hx : IsRow μ .u8 x ds) (hl : ds.length ≤ 800000) (z k : Int) :
    (mayB z k = false → overdubref01_Bits_Rice [.s x, .s (.int .i64 z), .s (.int .i64 k)] μ = some (.tuple [.s x, .s (.bool false)], μ)) ∧
    (mayB z k = true → ∃ y μ', overdubref01_Bits_Rice [.s x, .s (.int .i64 z), .s (.int .i64 k)] μ = some (.tuple [.s y, .s (.bool true)], μ') ∧ Same μ μ' ∧ OwnRow μ.next μ' .u8 5 y (ds ++ riceD z k)) := by
  refine ⟨fun hm => ?_, fun hm => ?_⟩
  · rw [overdubref01_Bits_Rice_eq]
    simp -implicitDefEqProofs only [refMayB_is, hm, Option.bind_some, decide_true, decide_false, cond_true, cond_false, seqJ_n, seqJ_r, seqJ_e, headK_c, asB_bool, asI_int, asS_s, asN_int, extrK_0, extrK_1, extrK_2, Bool.not_true, Bool.not_false, Nat.beq_refl]
  · obtain ⟨h1, h2, h3, h4⟩ := mayB_spec hm
    have hq := quo_le h1 k.toNat
    have hu : IntKind.wrap .u64 k = k := by simp [IntKind.wrap, IntKind.signed, IntKind.bits]; omega
    have hmin : min k.toNat (IntKind.bits .i64) = k.toNat := by show min _ 64 = _; omega
    unfold riceD
    rw [overdubref01_Bits_Rice_eq]
    by_cases c : z / 2 ^ k.toNat < 24
    · obtain ⟨y1, m1, f1, k1, o1⟩ := refOnes_is h0 hx (by omega) (z / 2 ^ k.toNat) (by omega)
      obtain ⟨y2, m2, f2, k2, o2⟩ := (refPut_is k1.wf o1.row (by simp; omega) z k).2 (by omega)
      rw [if_pos c]
      refine ⟨y2, m2, ?_, k1.trans k2, ?_⟩
      · simp -implicitDefEqProofs only [refMayB_is, hm, hu, if_neg (show ¬ k < 0 by omega), hmin, fdiv_pow, lt_t c, f1, f2, Option.bind_some, decide_true, decide_false, cond_true, cond_false, seqJ_n, seqJ_r, seqJ_e, headK_c, asB_bool, asI_int, asS_s, asN_int, extrK_0, extrK_1, extrK_2, Bool.not_true, Bool.not_false, Nat.beq_refl]
      · rw [← List.append_assoc, ← List.append_assoc]; exact o2.less k1.next
    · obtain ⟨y1, m1, f1, k1, o1⟩ := (refPut_is h0 hx (by omega) 16777215 24).2 (by omega)
      obtain ⟨y2, m2, f2, k2, o2⟩ := (refPut_is k1.wf o1.row (by simp [putD_len]; omega) z 32).2 (by omega)
      rw [if_neg c]
      refine ⟨y2, m2, ?_, k1.trans k2, ?_⟩
      · simp -implicitDefEqProofs only [refMayB_is, hm, hu, if_neg (show ¬ k < 0 by omega), hmin, fdiv_pow, lt_f (show (24 : Int) ≤ z / 2 ^ k.toNat by omega), f1, f2, Option.bind_some, decide_true, decide_false, cond_true, cond_false, seqJ_n, seqJ_r, seqJ_e, headK_c, asB_bool, asI_int, asS_s, asN_int, extrK_0, extrK_1, extrK_2, Bool.not_true, Bool.not_false, Nat.beq_refl]
      · rw [← List.append_assoc]; exact o2.less k1.next
end Go.Proofs.Ytadhelkiinaenaa
/- What fixed predictors guess, told by their samples. -/
namespace Go.Proofs.Ytadhelkiinaenaa
open Go Go.Proofs.Ytadhelkiinaenaa.E
set_option linter.unusedVariables false
set_option linter.unusedSimpArgs false
theorem getD_take {xs : List Int} {j k : Nat} (h : k < j) : (xs.take j).getD k 0 = xs.getD k 0 := by
  rw [List.getD_eq_getElem?_getD, List.getD_eq_getElem?_getD, List.getElem?_take, if_pos h]
theorem fg0 (zs : List Int) : fguess 0 zs = 0 := rfl
theorem fg1 {xs : List Int} {j : Nat} (h1 : 1 ≤ j) (h : j ≤ xs.length) : fguess 1 (xs.take j) = xs.getD (j - 1) 0 := by
  show 0 + 1 * (xs.take j).getD ((xs.take j).length - 1 - 0) 0 = _
  rw [List.length_take, Nat.min_eq_left h, getD_take (by omega)]; simp only [Nat.sub_zero]; omega
theorem fg2 {xs : List Int} {j : Nat} (h1 : 2 ≤ j) (h : j ≤ xs.length) : fguess 2 (xs.take j) = 2 * xs.getD (j - 1) 0 - xs.getD (j - 2) 0 := by
  show 0 + 2 * (xs.take j).getD ((xs.take j).length - 1 - 0) 0 + -1 * (xs.take j).getD ((xs.take j).length - 1 - 1) 0 = _
  rw [List.length_take, Nat.min_eq_left h, getD_take (by omega), getD_take (by omega)]
  simp only [Nat.sub_zero, Nat.sub_sub, Nat.reduceAdd]; omega
theorem fg3 {xs : List Int} {j : Nat} (h1 : 3 ≤ j) (h : j ≤ xs.length) : fguess 3 (xs.take j) = 3 * xs.getD (j - 1) 0 - 3 * xs.getD (j - 2) 0 + xs.getD (j - 3) 0 := by
  show 0 + 3 * (xs.take j).getD ((xs.take j).length - 1 - 0) 0 + -3 * (xs.take j).getD ((xs.take j).length - 1 - 1) 0 + 1 * (xs.take j).getD ((xs.take j).length - 1 - 2) 0 = _
  rw [List.length_take, Nat.min_eq_left h, getD_take (by omega), getD_take (by omega), getD_take (by omega)]
  simp only [Nat.sub_zero, Nat.sub_sub, Nat.reduceAdd]; omega
theorem fg4 {xs : List Int} {j : Nat} (h1 : 4 ≤ j) (h : j ≤ xs.length) : fguess 4 (xs.take j) = 4 * xs.getD (j - 1) 0 - 6 * xs.getD (j - 2) 0 + 4 * xs.getD (j - 3) 0 - xs.getD (j - 4) 0 := by
  show 0 + 4 * (xs.take j).getD ((xs.take j).length - 1 - 0) 0 + -6 * (xs.take j).getD ((xs.take j).length - 1 - 1) 0 + 4 * (xs.take j).getD ((xs.take j).length - 1 - 2) 0 + -1 * (xs.take j).getD ((xs.take j).length - 1 - 3) 0 = _
  rw [List.length_take, Nat.min_eq_left h, getD_take (by omega), getD_take (by omega), getD_take (by omega), getD_take (by omega)]
  simp only [Nat.sub_zero, Nat.sub_sub, Nat.reduceAdd]; omega
theorem fg_next {xs : List Int} {p : Int} (hp : 0 ≤ p ∧ p ≤ 3) {j : Nat} (hj : p ≤ j) (h : j < xs.length) :
    fguess (p + 1) (xs.take (j + 1)) = fguess p (xs.take (j + 1)) + xs.getD j 0 - fguess p (xs.take j) := by
  have : p = 0 ∨ p = 1 ∨ p = 2 ∨ p = 3 := by omega
  rcases this with rfl | rfl | rfl | rfl
  · rw [show (0 : Int) + 1 = 1 from rfl, fg1 (by omega) (by omega), fg0, fg0]; simp
  · rw [show (1 : Int) + 1 = 2 from rfl, fg2 (by omega) (by omega), fg1 (by omega) (by omega), fg1 (by omega) (by omega), show j + 1 - 1 = j by omega, show j + 1 - 2 = j - 1 by omega]; omega
  · rw [show (2 : Int) + 1 = 3 from rfl, fg3 (by omega) (by omega), fg2 (by omega) (by omega), fg2 (by omega) (by omega), show j + 1 - 1 = j by omega, show j + 1 - 2 = j - 1 by omega, show j + 1 - 3 = j - 2 by omega]; omega
  · rw [show (3 : Int) + 1 = 4 from rfl, fg4 (by omega) (by omega), fg3 (by omega) (by omega), fg3 (by omega) (by omega), show j + 1 - 1 = j by omega, show j + 1 - 2 = j - 1 by omega, show j + 1 - 3 = j - 2 by omega, show j + 1 - 4 = j - 3 by omega]; omega
theorem leftZ_getD (g : List Int → Int) (n : Nat) (xs : List Int) {i : Nat} (h : n + i < xs.length) : (leftZ g n xs).getD i 0 = xs.getD (n + i) 0 - g (xs.take (n + i)) := by
  unfold leftZ
  rw [List.getD_eq_getElem?_getD, List.getElem?_map, List.getElem?_range' (by omega)]
  simp only [Option.map_some, Nat.one_mul, Option.getD_some]
theorem leftZ_len (g : List Int → Int) (n : Nat) (xs : List Int) : (leftZ g n xs).length = xs.length - n := by simp [leftZ]
end Go.Proofs.Ytadhelkiinaenaa
/- Frames: the document's digits of a kind, and the best ones. -/
namespace Go.Proofs.Ytadhelkiinaenaa
open Go Go.Proofs.Ytadhelkiinaenaa.E
set_option linter.unusedVariables false
set_option linter.unusedSimpArgs false
theorem refSample_is {μ : AMem} (h0 : WF μ) {x : SV} {ds : List Int} (hx : IsRow μ .u8 x ds) (hl : ds.length ≤ 900000) {v : Int} (hv : -8388608 ≤ v ∧ v ≤ 8388607) :
    ∃ y μ', overdubref05_sample [.s x, .s (.int .i64 v)] μ = some (.s y, μ') ∧ Same μ μ' ∧ OwnRow μ.next μ' .u8 5 y (ds ++ putD (v + 8388608) 24) := by
  obtain ⟨y, m, e1, k1, o1⟩ := (refPut_is h0 hx hl (v + 8388608) 24).2 (by omega)
  refine ⟨y, m, ?_, k1, o1⟩
  rw [overdubref05_sample_eq]
  simp -implicitDefEqProofs only [smp_wr hv, e1, Option.bind_some, decide_true, decide_false, cond_true, cond_false, seqJ_n, seqJ_r, seqJ_e, headK_c, asB_bool, asI_int, asS_s, asN_int, extrK_0, extrK_1, extrK_2, Bool.not_true, Bool.not_false, Nat.beq_refl]
/-- Samples put behind digits, each in a row of its own. -/
theorem refSmp2_loop {μ0 : AMem} (h0 : WF μ0) {y : SV} {xs : List Int} (hy : IsRow μ0 .i64 y xs) (ht : tame xs) (hl : xs.length ≤ 1000) :
    ∀ (k i : Nat) (μ : AMem) (r : SV) (ds : List Int), i + k = xs.length → ds.length + 24 * k ≤ 800000 → Same μ0 μ → IsRow μ .u8 r ds →
      ∃ r' μ', overdubref05_digits_L2 [.s y, .s (.int .i64 (xs.length : Int))] [.s r, .s (.int .i64 (i : Int))] μ = some (.exit 3, [.s r'], μ') ∧ Same μ0 μ' ∧ IsRow μ' .u8 r' (ds ++ smpD (xs.drop i))
  | 0, i, μ, r, ds, h, hd, hs, hr => by
    rw [overdubref05_digits_L2_eq, overdubref05_digits_L2_B_eq, List.drop_eq_nil_of_le (by omega)]
    refine ⟨r, μ, ?_, hs, by simpa [smpD] using hr⟩
    simp -implicitDefEqProofs (disch := omega) only [lt_t, lt_f, gt_t, gt_f, le_t, le_f, ge_t, ge_f, ne_t, ne_f, eq_t, eq_f, w64, chk_true, Option.bind_some, decide_true, decide_false, cond_true, cond_false, seqJ_n, seqJ_r, seqJ_e, headK_c, asB_bool, asI_int, asS_s, asN_int, extrK_0, extrK_1, extrK_2, Bool.not_true, Bool.not_false, Nat.beq_refl]
  | k + 1, i, μ, r, ds, h, hd, hs, hr => by
    have hi : i < xs.length := by omega
    have hy1 := hy.same hs
    obtain ⟨r1, m1, e1, k1, o1⟩ := refSample_is hs.wf hr (by omega) (getD_tame ht i)
    obtain ⟨r2, m2, q1, q2, q3⟩ := refSmp2_loop h0 hy ht hl k (i + 1) m1 r1 _ (by omega) (by rw [List.length_append, putD_len]; omega) (hs.trans k1) o1.row
    have ei : IntKind.wrap .i64 ((i : Int) + 1) = ((i + 1 : Nat) : Int) := by rw [wr (by omega)]; rfl
    refine ⟨r2, m2, ?_, q2, ?_⟩
    · rw [overdubref05_digits_L2_eq, overdubref05_digits_L2_B_eq]
      simp -implicitDefEqProofs (disch := omega) only [lt_t, lt_f, gt_t, gt_f, le_t, le_f, ge_t, ge_f, ne_t, ne_f, eq_t, eq_f, w64, chk_true, Option.bind_some, decide_true, decide_false, cond_true, cond_false, seqJ_n, seqJ_r, seqJ_e, headK_c, asB_bool, asI_int, asS_s, asN_int, extrK_0, extrK_1, extrK_2, Bool.not_true, Bool.not_false, Nat.beq_refl, hy1.ind, hy1.load, nat_toNat, e1, ei]
      exact q1
    · rw [drop_cons hi, show smpD (xs.getD i 0 :: xs.drop (i + 1)) = putD (xs.getD i 0 + 8388608) 24 ++ smpD (xs.drop (i + 1)) from rfl, ← List.append_assoc]
      exact q3
theorem smp_step {xs : List Int} {i n : Nat} (hi : i < n) (hn : n ≤ xs.length) : smpD ((xs.take n).drop i) = putD (xs.getD i 0 + 8388608) 24 ++ smpD ((xs.take n).drop (i + 1)) := by
  rw [drop_cons (by simp; omega), getD_take hi]
  rfl
theorem refSmp3_loop {μ0 : AMem} (h0 : WF μ0) {y s10 : SV} {xs : List Int} {p : Int} {n : Nat} (hp : IntKind.wrap .i64 (p - 2) = (n : Int)) (hn : n ≤ xs.length) (hy : IsRow μ0 .i64 y xs) (ht : tame xs) (hl : xs.length ≤ 1000) :
    ∀ (k i : Nat) (μ : AMem) (r : SV) (ds : List Int), i + k = n → ds.length + 24 * k ≤ 800000 → Same μ0 μ → IsRow μ .u8 r ds →
      ∃ r' μ', overdubref05_digits_L3 [.s (.int .i64 p), .s y, .s s10] [.s r, .s (.int .i64 (i : Int))] μ = some (.exit 5, [.s r', .s s10], μ') ∧ Same μ0 μ' ∧ IsRow μ' .u8 r' (ds ++ smpD ((xs.take n).drop i))
  | 0, i, μ, r, ds, h, hd, hs, hr => by
    rw [overdubref05_digits_L3_eq, overdubref05_digits_L3_B_eq, List.drop_eq_nil_of_le (by simp; omega), hp]
    refine ⟨r, μ, ?_, hs, by simpa [smpD] using hr⟩
    simp -implicitDefEqProofs (disch := omega) only [lt_t, lt_f, gt_t, gt_f, le_t, le_f, ge_t, ge_f, ne_t, ne_f, eq_t, eq_f, w64, chk_true, Option.bind_some, decide_true, decide_false, cond_true, cond_false, seqJ_n, seqJ_r, seqJ_e, headK_c, asB_bool, asI_int, asS_s, asN_int, extrK_0, extrK_1, extrK_2, Bool.not_true, Bool.not_false, Nat.beq_refl]
  | k + 1, i, μ, r, ds, h, hd, hs, hr => by
    have hy1 := hy.same hs
    obtain ⟨r1, m1, e1, k1, o1⟩ := refSample_is hs.wf hr (by omega) (getD_tame ht i)
    obtain ⟨r2, m2, q1, q2, q3⟩ := refSmp3_loop (s10 := s10) h0 hp hn hy ht hl k (i + 1) m1 r1 _ (by omega) (by rw [List.length_append, putD_len]; omega) (hs.trans k1) o1.row
    have ei : IntKind.wrap .i64 ((i : Int) + 1) = ((i + 1 : Nat) : Int) := by rw [wr (by omega)]; rfl
    refine ⟨r2, m2, ?_, q2, ?_⟩
    · rw [overdubref05_digits_L3_eq, overdubref05_digits_L3_B_eq, hp]
      simp -implicitDefEqProofs (disch := omega) only [lt_t, lt_f, gt_t, gt_f, le_t, le_f, ge_t, ge_f, ne_t, ne_f, eq_t, eq_f, w64, chk_true, Option.bind_some, decide_true, decide_false, cond_true, cond_false, seqJ_n, seqJ_r, seqJ_e, headK_c, asB_bool, asI_int, asS_s, asN_int, extrK_0, extrK_1, extrK_2, Bool.not_true, Bool.not_false, Nat.beq_refl, hy1.ind, hy1.load, nat_toNat, e1, ei]
      exact q1
    · rw [smp_step (by omega) hn, ← List.append_assoc]
      exact q3
theorem refSmp4_loop {μ0 : AMem} (h0 : WF μ0) {y s13 s15 : SV} {xs : List Int} {n : Nat} (hn : n ≤ xs.length) (hy : IsRow μ0 .i64 y xs) (ht : tame xs) (hl : xs.length ≤ 1000) :
    ∀ (k i : Nat) (μ : AMem) (r : SV) (ds : List Int), i + k = n → ds.length + 24 * k ≤ 800000 → Same μ0 μ → IsRow μ .u8 r ds →
      ∃ r' μ', overdubref05_digits_L4 [.s y, .s s13, .s s15, .s (.int .i64 (n : Int))] [.s r, .s (.int .i64 (i : Int))] μ = some (.exit 7, [.s r', .s s13, .s s15], μ') ∧ Same μ0 μ' ∧ IsRow μ' .u8 r' (ds ++ smpD ((xs.take n).drop i))
  | 0, i, μ, r, ds, h, hd, hs, hr => by
    rw [overdubref05_digits_L4_eq, overdubref05_digits_L4_B_eq, List.drop_eq_nil_of_le (by simp; omega)]
    refine ⟨r, μ, ?_, hs, by simpa [smpD] using hr⟩
    simp -implicitDefEqProofs (disch := omega) only [lt_t, lt_f, gt_t, gt_f, le_t, le_f, ge_t, ge_f, ne_t, ne_f, eq_t, eq_f, w64, chk_true, Option.bind_some, decide_true, decide_false, cond_true, cond_false, seqJ_n, seqJ_r, seqJ_e, headK_c, asB_bool, asI_int, asS_s, asN_int, extrK_0, extrK_1, extrK_2, Bool.not_true, Bool.not_false, Nat.beq_refl]
  | k + 1, i, μ, r, ds, h, hd, hs, hr => by
    have hy1 := hy.same hs
    obtain ⟨r1, m1, e1, k1, o1⟩ := refSample_is hs.wf hr (by omega) (getD_tame ht i)
    obtain ⟨r2, m2, q1, q2, q3⟩ := refSmp4_loop (s13 := s13) (s15 := s15) h0 hn hy ht hl k (i + 1) m1 r1 _ (by omega) (by rw [List.length_append, putD_len]; omega) (hs.trans k1) o1.row
    have ei : IntKind.wrap .i64 ((i : Int) + 1) = ((i + 1 : Nat) : Int) := by rw [wr (by omega)]; rfl
    refine ⟨r2, m2, ?_, q2, ?_⟩
    · rw [overdubref05_digits_L4_eq, overdubref05_digits_L4_B_eq]
      simp -implicitDefEqProofs (disch := omega) only [lt_t, lt_f, gt_t, gt_f, le_t, le_f, ge_t, ge_f, ne_t, ne_f, eq_t, eq_f, w64, chk_true, Option.bind_some, decide_true, decide_false, cond_true, cond_false, seqJ_n, seqJ_r, seqJ_e, headK_c, asB_bool, asI_int, asS_s, asN_int, extrK_0, extrK_1, extrK_2, Bool.not_true, Bool.not_false, Nat.beq_refl, hy1.ind, hy1.load, nat_toNat, e1, ei]
      exact q1
    · rw [smp_step (by omega) hn, ← List.append_assoc]
      exact q3
theorem refCof_loop {μ0 : AMem} (h0 : WF μ0) {y s15 : SV} {cs : List Int} (hy : IsRow μ0 .i64 y cs) (hc : ∀ v ∈ cs, -32768 ≤ v ∧ v ≤ 32767) (hl : cs.length ≤ 1000) :
    ∀ (k i : Nat) (μ : AMem) (r : SV) (ds : List Int), i + k = cs.length → ds.length + 16 * k ≤ 800000 → Same μ0 μ → IsRow μ .u8 r ds →
      ∃ r' μ', overdubref05_digits_L5 [.s y, .s s15, .s (.int .i64 (cs.length : Int))] [.s r, .s (.int .i64 (i : Int))] μ = some (.exit 9, [.s r', .s s15], μ') ∧ Same μ0 μ' ∧ IsRow μ' .u8 r' (ds ++ cofD (cs.drop i))
  | 0, i, μ, r, ds, h, hd, hs, hr => by
    rw [overdubref05_digits_L5_eq, overdubref05_digits_L5_B_eq, List.drop_eq_nil_of_le (by omega)]
    refine ⟨r, μ, ?_, hs, by simpa [cofD] using hr⟩
    simp -implicitDefEqProofs (disch := omega) only [lt_t, lt_f, gt_t, gt_f, le_t, le_f, ge_t, ge_f, ne_t, ne_f, eq_t, eq_f, w64, chk_true, Option.bind_some, decide_true, decide_false, cond_true, cond_false, seqJ_n, seqJ_r, seqJ_e, headK_c, asB_bool, asI_int, asS_s, asN_int, extrK_0, extrK_1, extrK_2, Bool.not_true, Bool.not_false, Nat.beq_refl]
  | k + 1, i, μ, r, ds, h, hd, hs, hr => by
    have hi : i < cs.length := by omega
    have hy1 := hy.same hs
    have hv := hc _ (getD_mem hi)
    obtain ⟨r1, m1, e1, k1, o1⟩ := (refPut_is hs.wf hr (by omega) (cs.getD i 0 + 32768) 16).2 (by omega)
    obtain ⟨r2, m2, q1, q2, q3⟩ := refCof_loop (s15 := s15) h0 hy hc hl k (i + 1) m1 r1 _ (by omega) (by rw [List.length_append, putD_len, show (16 : Int).toNat = 16 from rfl]; omega) (hs.trans k1) o1.row
    have ei : IntKind.wrap .i64 ((i : Int) + 1) = ((i + 1 : Nat) : Int) := by rw [wr (by omega)]; rfl
    have ev : IntKind.wrap .i64 (cs.getD i 0 + 32768) = cs.getD i 0 + 32768 := wr (by omega)
    refine ⟨r2, m2, ?_, q2, ?_⟩
    · rw [overdubref05_digits_L5_eq, overdubref05_digits_L5_B_eq]
      simp -implicitDefEqProofs (disch := omega) only [lt_t, lt_f, gt_t, gt_f, le_t, le_f, ge_t, ge_f, ne_t, ne_f, eq_t, eq_f, w64, chk_true, Option.bind_some, decide_true, decide_false, cond_true, cond_false, seqJ_n, seqJ_r, seqJ_e, headK_c, asB_bool, asI_int, asS_s, asN_int, extrK_0, extrK_1, extrK_2, Bool.not_true, Bool.not_false, Nat.beq_refl, hy1.ind, hy1.load, nat_toNat, ev, e1, ei]
      exact q1
    · rw [drop_cons hi, show cofD (cs.getD i 0 :: cs.drop (i + 1)) = putD (cs.getD i 0 + 32768) 16 ++ cofD (cs.drop (i + 1)) from rfl, ← List.append_assoc]
      exact q3
theorem refZig_loop {μ0 : AMem} (h0 : WF μ0) {b y : SV} {l : List Int} (hy : IsRow μ0 .i64 y l) (hs0 : smallL l) (hl : l.length ≤ 1000) :
    ∀ (k i : Nat) (μ : AMem) (r : SV), i + k = l.length → Same μ0 μ → OwnRow μ0.next μ .i64 3 r ((l.take i).map zigZ) →
      ∃ r' μ', overdubref05_residuals_L1 [.s b, .s y, .s (.int .i64 (l.length : Int))] [.s r, .s (.int .i64 (i : Int))] μ = some (.exit 0, [.s b, .s r'], μ') ∧ Same μ0 μ' ∧ OwnRow μ0.next μ' .i64 3 r' (l.map zigZ)
  | 0, i, μ, r, h, hs, hr => by
    rw [overdubref05_residuals_L1_eq, overdubref05_residuals_L1_B_eq]
    rw [List.take_of_length_le (by omega)] at hr
    refine ⟨r, μ, ?_, hs, hr⟩
    simp -implicitDefEqProofs (disch := omega) only [lt_t, lt_f, gt_t, gt_f, le_t, le_f, ge_t, ge_f, ne_t, ne_f, eq_t, eq_f, w64, chk_true, Option.bind_some, decide_true, decide_false, cond_true, cond_false, seqJ_n, seqJ_r, seqJ_e, headK_c, asB_bool, asI_int, asS_s, asN_int, extrK_0, extrK_1, extrK_2, Bool.not_true, Bool.not_false, Nat.beq_refl]
  | k + 1, i, μ, r, h, hs, hr => by
    have hi : i < l.length := by omega
    have hy1 := hy.same hs
    have hz := zig_may (hs0 _ (getD_mem hi))
    obtain ⟨r', m1, p1, p2, p3⟩ := pushS (B := 8) (a := 2) (b := 3) (n := 5) (q := some 1) h0 hs hr (zigZ (l.getD i 0)) (by omega) (by simp; omega) (by omega) (by omega) (by omega)
    rw [← take_map_snoc zigZ hi] at p3
    obtain ⟨r2, m2, q1, q2, q3⟩ := refZig_loop (b := b) h0 hy hs0 hl k (i + 1) m1 r' (by omega) p2 p3
    have ei : IntKind.wrap .i64 ((i : Int) + 1) = ((i + 1 : Nat) : Int) := by rw [wr (by omega)]; rfl
    refine ⟨r2, m2, ?_, q2, q3⟩
    rw [overdubref05_residuals_L1_eq, overdubref05_residuals_L1_B_eq]
    simp -implicitDefEqProofs (disch := omega) only [lt_t, lt_f, gt_t, gt_f, le_t, le_f, ge_t, ge_f, ne_t, ne_f, eq_t, eq_f, w64, chk_true, Option.bind_some, decide_true, decide_false, cond_true, cond_false, seqJ_n, seqJ_r, seqJ_e, headK_c, asB_bool, asI_int, asS_s, asN_int, extrK_0, extrK_1, extrK_2, Bool.not_true, Bool.not_false, Nat.beq_refl, hy1.ind, hy1.load, nat_toNat, refZig_is, p1, ei]
    exact q1
theorem refRice_loop {μ0 : AMem} (h0 : WF μ0) {y : SV} {zs : List Int} {p : Int} (hy : IsRow μ0 .i64 y zs) (hz : ∀ v ∈ zs, mayB v p = true) (hl : zs.length ≤ 1000) :
    ∀ (k i : Nat) (μ : AMem) (r : SV) (ds : List Int), i + k = zs.length → ds.length + 56 * k ≤ 800000 → Same μ0 μ → IsRow μ .u8 r ds →
      ∃ r' μ', overdubref05_residuals_L2 [.s y, .s (.int .i64 p), .s (.int .i64 (zs.length : Int))] [.s r, .s (.int .i64 (i : Int))] μ = some (.exit 2, [.s r'], μ') ∧ Same μ0 μ' ∧ IsRow μ' .u8 r' (ds ++ ricesD p (zs.drop i))
  | 0, i, μ, r, ds, h, hd, hs, hr => by
    rw [overdubref05_residuals_L2_eq, overdubref05_residuals_L2_B_eq, List.drop_eq_nil_of_le (by omega)]
    refine ⟨r, μ, ?_, hs, by simpa [ricesD] using hr⟩
    simp -implicitDefEqProofs (disch := omega) only [lt_t, lt_f, gt_t, gt_f, le_t, le_f, ge_t, ge_f, ne_t, ne_f, eq_t, eq_f, w64, chk_true, Option.bind_some, decide_true, decide_false, cond_true, cond_false, seqJ_n, seqJ_r, seqJ_e, headK_c, asB_bool, asI_int, asS_s, asN_int, extrK_0, extrK_1, extrK_2, Bool.not_true, Bool.not_false, Nat.beq_refl]
  | k + 1, i, μ, r, ds, h, hd, hs, hr => by
    have hi : i < zs.length := by omega
    have hy1 := hy.same hs
    have hm := hz _ (getD_mem hi)
    have hle := riceD_le hm
    obtain ⟨r1, m1, e1, k1, o1⟩ := (refRice_is hs.wf hr (by omega) (zs.getD i 0) p).2 hm
    obtain ⟨r2, m2, q1, q2, q3⟩ := refRice_loop h0 hy hz hl k (i + 1) m1 r1 _ (by omega) (by rw [List.length_append]; omega) (hs.trans k1) o1.row
    have ei : IntKind.wrap .i64 ((i : Int) + 1) = ((i + 1 : Nat) : Int) := by rw [wr (by omega)]; rfl
    refine ⟨r2, m2, ?_, q2, ?_⟩
    · rw [overdubref05_residuals_L2_eq, overdubref05_residuals_L2_B_eq]
      simp -implicitDefEqProofs (disch := omega) only [lt_t, lt_f, gt_t, gt_f, le_t, le_f, ge_t, ge_f, ne_t, ne_f, eq_t, eq_f, w64, chk_true, Option.bind_some, decide_true, decide_false, cond_true, cond_false, seqJ_n, seqJ_r, seqJ_e, headK_c, asB_bool, asI_int, asS_s, asN_int, extrK_0, extrK_1, extrK_2, Bool.not_true, Bool.not_false, Nat.beq_refl, hy1.ind, hy1.load, nat_toNat, e1, ei]
      exact q1
    · rw [drop_cons hi, show ricesD p (zs.getD i 0 :: zs.drop (i + 1)) = riceD (zs.getD i 0) p ++ ricesD p (zs.drop (i + 1)) from rfl, ← List.append_assoc]
      exact q3
theorem refResD_is {μ : AMem} (h0 : WF μ) {b y : SV} {ds l : List Int} (hb : IsRow μ .u8 b ds) (hy : IsRow μ .i64 y l) (hs : smallL l) (hl : l.length ≤ 1000) (hd : ds.length ≤ 700000) :
    ∃ r μ', overdubref05_residuals [.s b, .s y] μ = some (.tuple [.s r, .s (.bool true)], μ') ∧ Same μ μ' ∧ IsRow μ' .u8 r (ds ++ resD l) := by
  obtain ⟨r, m1, q1, q2, q3⟩ := refZig_loop (b := b) h0 hy hs hl _ 0 μ .nilSlice (Nat.zero_add _) (Keep.refl h0) (OwnRow.nil _ _ _ _)
  rw [n0] at q1
  have hbb := refBest_is q3.row (by simp; omega)
  have hbl := best_le (l.map zigZ)
  obtain ⟨r2, m2, e2, k2, o2⟩ := (refPut_is q2.wf (hb.same q2) (by omega) (bestZ (l.map zigZ)).1 5).2 (by omega)
  obtain ⟨r3, m3, e3, k3, i3⟩ := refRice_loop (p := (bestZ (l.map zigZ)).1) q2.wf q3.row (zig_all hs hbl) (by simp; omega) _ 0 m2 r2 _ (Nat.zero_add _) (by rw [List.length_append, putD_len, show (5 : Int).toNat = 5 from rfl]; simp; omega) k2 o2.row
  rw [n0] at e3
  refine ⟨r3, m3, ?_, q2.trans k3, ?_⟩
  · rw [overdubref05_residuals_eq, hy.len]
    simp -implicitDefEqProofs only [q1, hbb, e2, (q3.row.same k2).len, e3, Option.bind_some, decide_true, decide_false, cond_true, cond_false, seqJ_n, seqJ_r, seqJ_e, headK_c, asB_bool, asI_int, asS_s, asN_int, extrK_0, extrK_1, extrK_2, Bool.not_true, Bool.not_false, Nat.beq_refl]
  · rw [List.drop_zero, List.append_assoc] at i3
    exact i3
theorem refOne_loop {μ : AMem} {y w : SV} {xs : List Int} (hy : IsRow μ .i64 y xs) (hl : xs.length ≤ 1000) :
    ∀ k i : Nat, i + k = xs.length → overdubref05_digits_L1 [.s y, .s w, .s (.int .i64 (xs.length : Int))] [.s (.int .i64 (i : Int))] μ = if (xs.drop i).all (fun v => v == xs.getD 0 0) then some (.exit 1, [.s y, .s w], μ) else some (.ret, [.s .nilSlice, .s (.bool false)], μ)
  | 0, i, h => by
    rw [overdubref05_digits_L1_eq, overdubref05_digits_L1_B_eq, List.drop_eq_nil_of_le (by omega)]
    simp -implicitDefEqProofs (disch := omega) only [lt_t, lt_f, gt_t, gt_f, le_t, le_f, ge_t, ge_f, ne_t, ne_f, eq_t, eq_f, w64, chk_true, Option.bind_some, decide_true, decide_false, cond_true, cond_false, seqJ_n, seqJ_r, seqJ_e, headK_c, asB_bool, asI_int, asS_s, asN_int, extrK_0, extrK_1, extrK_2, Bool.not_true, Bool.not_false, Nat.beq_refl, List.all_nil, if_true]
  | k + 1, i, h => by
    have hi : i < xs.length := by omega
    have ih := refOne_loop (w := w) hy hl k (i + 1) (by omega)
    have ei : IntKind.wrap .i64 ((i : Int) + 1) = ((i + 1 : Nat) : Int) := by rw [wr (by omega)]; rfl
    have g0 := fun {R : Type} (K : AV → Option R) => hy.ind (i := 0) (by omega) (by omega) K
    have l0 := fun {R : Type} (K : AV → Option R) => hy.load (i := 0) (by omega) (by omega) K
    rw [overdubref05_digits_L1_eq, overdubref05_digits_L1_B_eq, drop_cons hi, List.all_cons]
    by_cases hc : xs.getD i 0 = xs.getD 0 0
    · simp -implicitDefEqProofs (disch := omega) only [lt_t, lt_f, gt_t, gt_f, le_t, le_f, ge_t, ge_f, ne_t, ne_f, eq_t, eq_f, w64, chk_true, Option.bind_some, decide_true, decide_false, cond_true, cond_false, seqJ_n, seqJ_r, seqJ_e, headK_c, asB_bool, asI_int, asS_s, asN_int, extrK_0, extrK_1, extrK_2, Bool.not_true, Bool.not_false, Nat.beq_refl, hy.ind, hy.load, g0, l0, nat_toNat, Int.toNat_zero, ne_f hc, ei, eq_t hc, Bool.true_and]
      exact ih
    · simp -implicitDefEqProofs (disch := omega) only [lt_t, lt_f, gt_t, gt_f, le_t, le_f, ge_t, ge_f, ne_t, ne_f, eq_t, eq_f, w64, chk_true, Option.bind_some, decide_true, decide_false, cond_true, cond_false, seqJ_n, seqJ_r, seqJ_e, headK_c, asB_bool, asI_int, asS_s, asN_int, extrK_0, extrK_1, extrK_2, Bool.not_true, Bool.not_false, Nat.beq_refl, hy.ind, hy.load, g0, l0, nat_toNat, Int.toNat_zero, ne_t hc, eq_f hc, Bool.false_and, Bool.false_eq_true, if_false]
theorem frameD_none {kind : Int} {xs : List Int} (h : kind < 0 ∨ kind > 18) : frameD kind xs = none := by
  unfold frameD
  rw [if_neg (by omega), if_neg (by omega), if_neg (by omega), if_neg (by omega)]
/-- A kind's digits, of samples that may be. -/
theorem refDigits_is {μ : AMem} (h0 : WF μ) {y : SV} {xs : List Int} (hy : IsRow μ .i64 y xs) (ht : tame xs) (hl : 1 ≤ xs.length ∧ xs.length ≤ 64) (kind : Int) :
    (frameD kind xs = none → ∃ z μ', overdubref05_digits [.s (.int .i64 kind), .s y] μ = some (.tuple [.s z, .s (.bool false)], μ') ∧ Same μ μ') ∧
    (∀ ds, frameD kind xs = some ds → ∃ z μ', overdubref05_digits [.s (.int .i64 kind), .s y] μ = some (.tuple [.s z, .s (.bool true)], μ') ∧ Same μ μ' ∧ IsRow μ' .u8 z ds) := by
  have hck : checkZ xs = 0 := checkZ_tame ht hl.2
  have hk := refMay_is hy (by omega)
  rw [hck] at hk
  have c1 := lt_f (show (1 : Int) ≤ (xs.length : Int) by omega)
  rw [overdubref05_digits_eq]
  by_cases cr : kind < 0 ∨ kind > 18
  · rw [frameD_none cr]
    refine ⟨fun _ => ⟨.nilSlice, μ, ?_, Keep.refl h0⟩, fun ds h => by cases h⟩
    by_cases hn : kind < 0
    · simp -implicitDefEqProofs only [hy.len, c1, hk, ne_f (rfl : (0 : Int) = 0), lt_t hn, Option.bind_some, decide_true, decide_false, cond_true, cond_false, seqJ_n, seqJ_r, seqJ_e, headK_c, asB_bool, asI_int, asS_s, asN_int, extrK_0, extrK_1, extrK_2, Bool.not_true, Bool.not_false, Nat.beq_refl]
    · simp -implicitDefEqProofs only [hy.len, c1, hk, ne_f (rfl : (0 : Int) = 0), lt_f (show 0 ≤ kind by omega), gt_t (show 18 < kind by omega), Option.bind_some, decide_true, decide_false, cond_true, cond_false, seqJ_n, seqJ_r, seqJ_e, headK_c, asB_bool, asI_int, asS_s, asN_int, extrK_0, extrK_1, extrK_2, Bool.not_true, Bool.not_false, Nat.beq_refl]
  · unfold frameD
    have g1 := lt_f (show 0 ≤ kind by omega)
    have g2 := gt_f (show kind ≤ 18 by omega)
    obtain ⟨r1, m1, e1, k1, o1⟩ := (refPut_is h0 (OwnRow.nil μ.next μ .u8 5).row (by simp) kind 8).2 (by omega)
    obtain ⟨r2, m2, e2, k2, o2⟩ := (refPut_is k1.wf o1.row (by simp [putD_len]) (xs.length : Int) 8).2 (by omega)
    rw [show ([] ++ putD kind (8 : Int).toNat ++ putD (xs.length : Int) (8 : Int).toNat : List Int) = headD kind xs.length by unfold headD; simp] at o2
    have hh : (headD kind xs.length).length = 16 := by unfold headD; rw [List.length_append, putD_len, putD_len]
    have k12 := k1.trans k2
    have hy1 := hy.same k1
    have hy2 := hy.same k12
    by_cases c0 : kind = 0
    · subst c0
      have hL := refOne_loop (w := r2) hy2 (by omega) _ 0 (Nat.zero_add _)
      rw [n0, List.drop_zero] at hL
      rw [if_pos rfl]
      by_cases hall : xs.all (fun v => v == xs.getD 0 0) = true
      · rw [if_pos hall] at hL
        rw [if_pos hall]
        refine ⟨fun h => (by cases h), fun ds h => ?_⟩
        obtain rfl := Option.some.inj h
        have g0 := fun {R : Type} (K : AV → Option R) => hy2.ind (i := 0) (by omega) (by omega) K
        have l0 := fun {R : Type} (K : AV → Option R) => hy2.load (i := 0) (by omega) (by omega) K
        obtain ⟨r3, m3, e3, k3, o3⟩ := refSample_is k2.wf o2.row (by omega) (getD_tame ht 0)
        refine ⟨r3, m3, ?_, k12.trans k3, ?_⟩
        · simp -implicitDefEqProofs only [hy.len, c1, hk, ne_f (rfl : (0 : Int) = 0), g1, g2, e1, hy1.len, e2, BEq.rfl, hy2.len, hL, g0, l0, Int.toNat_zero, e3, Option.bind_some, decide_true, decide_false, cond_true, cond_false, seqJ_n, seqJ_r, seqJ_e, headK_c, asB_bool, asI_int, asS_s, asN_int, extrK_0, extrK_1, extrK_2, Bool.not_true, Bool.not_false, Nat.beq_refl]
        · have : xs.take 1 = [xs.getD 0 0] := by
            rw [take_snoc (i := 0) (by omega)]; rfl
          rw [this, show smpD [xs.getD 0 0] = putD (xs.getD 0 0 + 8388608) 24 ++ [] from rfl, List.append_nil]
          exact o3.row
      · rw [if_neg hall] at hL
        rw [if_neg hall]
        refine ⟨fun _ => ⟨.nilSlice, m2, ?_, k12⟩, fun ds h => by cases h⟩
        simp -implicitDefEqProofs only [hy.len, c1, hk, ne_f (rfl : (0 : Int) = 0), g1, g2, e1, hy1.len, e2, BEq.rfl, hy2.len, hL, Option.bind_some, decide_true, decide_false, cond_true, cond_false, seqJ_n, seqJ_r, seqJ_e, headK_c, asB_bool, asI_int, asS_s, asN_int, extrK_0, extrK_1, extrK_2, Bool.not_true, Bool.not_false, Nat.beq_refl]
    · rw [if_neg c0]
      by_cases c1' : kind = 1
      · subst c1'
        rw [if_pos rfl]
        refine ⟨fun h => (by cases h), fun ds h => ?_⟩
        obtain rfl := Option.some.inj h
        obtain ⟨r3, m3, e3, k3, i3⟩ := refSmp2_loop k2.wf hy2 ht (by omega) _ 0 m2 r2 _ (Nat.zero_add _) (by omega) (Keep.refl k2.wf) o2.row
        rw [n0] at e3
        refine ⟨r3, m3, ?_, k12.trans k3, i3⟩
        simp -implicitDefEqProofs only [hy.len, c1, hk, ne_f (rfl : (0 : Int) = 0), g1, g2, e1, hy1.len, e2, eq_f c0, BEq.rfl, hy2.len, e3, Option.bind_some, decide_true, decide_false, cond_true, cond_false, seqJ_n, seqJ_r, seqJ_e, headK_c, asB_bool, asI_int, asS_s, asN_int, extrK_0, extrK_1, extrK_2, Bool.not_true, Bool.not_false, Nat.beq_refl]
      · rw [if_neg c1']
        by_cases c2 : kind ≤ 6
        · rw [if_pos (show 2 ≤ kind ∧ kind ≤ 6 by omega)]
          have ew : IntKind.wrap .i64 (kind - 2) = kind - 2 := wr (by omega)
          obtain ⟨r, m4, e4, k4, o4⟩ := refRes_is k2.wf (kind - 2) hy2 (by omega)
          by_cases he : fresE xs (kind - 2) = 0
          · rw [if_pos he]
            refine ⟨fun h => (by cases h), fun ds h => ?_⟩
            obtain rfl := Option.some.inj h
            rw [he] at e4
            have hfl := fresZ_len he
            have hpl : (kind - 2).toNat ≤ xs.length := by
              unfold fresE at he
              split at he
              · omega
              · cases he
            obtain ⟨r5, m5, e5, k5, i5⟩ := refSmp3_loop (p := kind) (n := (kind - 2).toNat) (s10 := r) k4.wf (by rw [ew]; omega) hpl (hy2.same k4) ht (by omega) _ 0 m4 r2 _ (Nat.zero_add _) (by omega) (Keep.refl k4.wf) (o2.row.same k4)
            rw [n0, List.drop_zero] at *
            have hsl := smpD_len (xs.take (kind - 2).toNat)
            have hlt : (xs.take (kind - 2).toNat).length ≤ 64 := by simp; omega
            obtain ⟨r6, m6, e6, k6, i6⟩ := refResD_is k5.wf i5 (o4.row.same k5) (fres_small ht) (by omega) (by rw [List.length_append]; omega)
            refine ⟨r6, m6, ?_, ((k12.trans k4).trans k5).trans k6, i6⟩
            simp -implicitDefEqProofs only [hy.len, c1, hk, ne_f (rfl : (0 : Int) = 0), g1, g2, e1, hy1.len, e2, eq_f c0, eq_f c1', le_t c2, ew, e4, e5, e6, Option.bind_some, decide_true, decide_false, cond_true, cond_false, seqJ_n, seqJ_r, seqJ_e, headK_c, asB_bool, asI_int, asS_s, asN_int, extrK_0, extrK_1, extrK_2, Bool.not_true, Bool.not_false, Nat.beq_refl]
          · rw [if_neg he]
            refine ⟨fun _ => ⟨.nilSlice, m4, ?_, k12.trans k4⟩, fun ds h => by cases h⟩
            simp -implicitDefEqProofs only [hy.len, c1, hk, ne_f (rfl : (0 : Int) = 0), g1, g2, e1, hy1.len, e2, eq_f c0, eq_f c1', le_t c2, ew, e4, ne_t he, Option.bind_some, decide_true, decide_false, cond_true, cond_false, seqJ_n, seqJ_r, seqJ_e, headK_c, asB_bool, asI_int, asS_s, asN_int, extrK_0, extrK_1, extrK_2, Bool.not_true, Bool.not_false, Nat.beq_refl]
        · rw [if_neg (show ¬ (2 ≤ kind ∧ kind ≤ 6) by omega), if_pos (show 6 < kind ∧ kind ≤ 18 by omega)]
          have ew : IntKind.wrap .i64 (kind - 6) = kind - 6 := wr (by omega)
          obtain ⟨cr', m4, e4, k4, r4⟩ := refLevin_is (p := kind - 6) k2.wf hy2 (by omega) (by omega)
          cases hcf : cfZ xs (kind - 6) with
          | none =>
            rw [hcf] at e4
            refine ⟨fun _ => ⟨.nilSlice, m4, ?_, k12.trans k4⟩, fun ds h => by cases h⟩
            simp -implicitDefEqProofs only [hy.len, c1, hk, ne_f (rfl : (0 : Int) = 0), g1, g2, e1, hy1.len, e2, eq_f c0, eq_f c1', le_f (show 6 < kind by omega), ew, e4, Option.isSome_none, Option.bind_some, decide_true, decide_false, cond_true, cond_false, seqJ_n, seqJ_r, seqJ_e, headK_c, asB_bool, asI_int, asS_s, asN_int, extrK_0, extrK_1, extrK_2, Bool.not_true, Bool.not_false, Nat.beq_refl]
          | some c =>
            rw [hcf] at e4 r4
            have r4 : IsRow m4 .i64 cr' c := r4
            obtain ⟨d1, d2, d3, d4, d5, d6, d7⟩ := cf_spec hcf
            refine ⟨fun h => (by cases h), fun ds h => ?_⟩
            obtain rfl := Option.some.inj h
            obtain ⟨l, m5, e5, k5, o5⟩ := refLpcRes_is k4.wf (hy2.same k4) r4 (by omega) (by omega)
            rw [d6] at e5
            have hlr := resZ_len d6
            have k45 := k4.trans k5
            obtain ⟨r6, m6, e6, k6, i6⟩ := refSmp4_loop (n := c.length) (s13 := cr') (s15 := l) k5.wf (by omega) (hy2.same k45) ht (by omega) _ 0 m5 r2 _ (Nat.zero_add _) (by omega) (Keep.refl k5.wf) (o2.row.same k45)
            have hsl := smpD_len (xs.take c.length)
            have hlt : (xs.take c.length).length ≤ 64 := by simp; omega
            rw [n0] at e6
            rw [List.drop_zero] at i6
            obtain ⟨r7, m7, e7, k7, i7⟩ := refCof_loop (s15 := l) k6.wf ((r4.same k5).same k6) d7 (by omega) _ 0 m6 r6 _ (Nat.zero_add _) (by rw [List.length_append]; omega) (Keep.refl k6.wf) i6
            have hcl := cofD_len c
            rw [n0] at e7
            rw [List.drop_zero] at i7
            obtain ⟨r8, m8, e8, k8, i8⟩ := refResD_is k7.wf i7 ((o5.row.same k6).same k7) (res_small (cs := c) ht) (by omega) (by rw [List.length_append, List.length_append]; omega)
            refine ⟨r8, m8, ?_, (((k12.trans k45).trans k6).trans k7).trans k8, ?_⟩
            · simp -implicitDefEqProofs only [hy.len, c1, hk, ne_f (rfl : (0 : Int) = 0), g1, g2, e1, hy1.len, e2, eq_f c0, eq_f c1', le_f (show 6 < kind by omega), ew, e4, Option.isSome_some, e5, (r4.same k5).len, e6, ((r4.same k5).same k6).len, e7, e8, Option.bind_some, decide_true, decide_false, cond_true, cond_false, seqJ_n, seqJ_r, seqJ_e, headK_c, asB_bool, asI_int, asS_s, asN_int, extrK_0, extrK_1, extrK_2, Bool.not_true, Bool.not_false, Nat.beq_refl]
            · rw [d4] at i8
              exact i8
/-- The best so far: of none, nil. -/
def BestD (μ : AMem) (x : SV) : Option (List Int) → Prop
  | none => x = .nilSlice
  | some ds => IsRow μ .u8 x ds ∧ 16 ≤ ds.length
theorem BestD.same {μ μ' : AMem} {x : SV} {b : Option (List Int)} (h : BestD μ x b) (hs : Same μ μ') : BestD μ' x b := by
  cases b with
  | none => exact h
  | some ds => exact ⟨h.1.same hs, h.2⟩
theorem refEncode_loop {μ0 : AMem} (h0 : WF μ0) {y : SV} {xs : List Int} (hy : IsRow μ0 .i64 y xs) (ht : tame xs) (hl : 1 ≤ xs.length ∧ xs.length ≤ 64) :
    ∀ (k i : Nat) (μ : AMem) (x : SV) (b : Option (List Int)), i + k = 19 → Same μ0 μ → BestD μ x b →
      ∃ x' μ', overdubref05_Encode_L1 [.s y] [.s x, .s (.int .i64 (i : Int))] μ = some (.exit 0, [.s x'], μ') ∧ Same μ0 μ' ∧ BestD μ' x' (encF xs k i b)
  | 0, i, μ, x, b, h, hs, hb => by
    rw [overdubref05_Encode_L1_eq, overdubref05_Encode_L1_B_eq]
    refine ⟨x, μ, ?_, hs, hb⟩
    simp -implicitDefEqProofs (disch := omega) only [lt_t, lt_f, gt_t, gt_f, le_t, le_f, ge_t, ge_f, ne_t, ne_f, eq_t, eq_f, w64, chk_true, Option.bind_some, decide_true, decide_false, cond_true, cond_false, seqJ_n, seqJ_r, seqJ_e, headK_c, asB_bool, asI_int, asS_s, asN_int, extrK_0, extrK_1, extrK_2, Bool.not_true, Bool.not_false, Nat.beq_refl]
  | k + 1, i, μ, x, b, h, hs, hb => by
    have hD := refDigits_is hs.wf (hy.same hs) ht hl (i : Int)
    have ei : IntKind.wrap .i64 ((i : Int) + 1) = ((i + 1 : Nat) : Int) := by rw [wr (by omega)]; rfl
    have c1 := le_t (show (i : Int) ≤ 18 by omega)
    rw [encF]
    cases hf : frameD (i : Int) xs with
    | none =>
      obtain ⟨z, m1, e1, k1⟩ := hD.1 hf
      obtain ⟨x', m2, q1, q2, q3⟩ := refEncode_loop h0 hy ht hl k (i + 1) m1 x b (by omega) (hs.trans k1) (hb.same k1)
      refine ⟨x', m2, ?_, q2, q3⟩
      rw [overdubref05_Encode_L1_eq, overdubref05_Encode_L1_B_eq]
      simp -implicitDefEqProofs only [c1, e1, ei, Option.bind_some, decide_true, decide_false, cond_true, cond_false, seqJ_n, seqJ_r, seqJ_e, headK_c, asB_bool, asI_int, asS_s, asN_int, extrK_0, extrK_1, extrK_2, Bool.not_true, Bool.not_false, Nat.beq_refl]
      exact q1
    | some ds =>
      obtain ⟨w, m1, e1, k1, w1⟩ := hD.2 ds hf
      have hds := frameD_small ht hl.2 hf
      have hb1 := hb.same k1
      cases b with
      | none =>
        have hx : x = .nilSlice := hb
        subst hx
        obtain ⟨x', m2, q1, q2, q3⟩ := refEncode_loop h0 hy ht hl k (i + 1) m1 w (some ds) (by omega) (hs.trans k1) ⟨w1, hds.1⟩
        refine ⟨x', m2, ?_, q2, q3⟩
        rw [overdubref05_Encode_L1_eq, overdubref05_Encode_L1_B_eq]
        simp -implicitDefEqProofs only [c1, e1, lenS_nil, n0, BEq.rfl, ei, Option.bind_some, decide_true, decide_false, cond_true, cond_false, seqJ_n, seqJ_r, seqJ_e, headK_c, asB_bool, asI_int, asS_s, asN_int, extrK_0, extrK_1, extrK_2, Bool.not_true, Bool.not_false, Nat.beq_refl]
        exact q1
      | some bs =>
        obtain ⟨hG, hG2⟩ := hb1
        rw [show betterD (some bs) (some ds) = if ds.length < bs.length then some ds else some bs from rfl]
        have h16 := eq_f (show ¬ ((bs.length : Nat) : Int) = 0 by omega)
        by_cases hc : ds.length < bs.length
        · rw [if_pos hc]
          obtain ⟨x', m2, q1, q2, q3⟩ := refEncode_loop h0 hy ht hl k (i + 1) m1 w (some ds) (by omega) (hs.trans k1) ⟨w1, hds.1⟩
          refine ⟨x', m2, ?_, q2, q3⟩
          rw [overdubref05_Encode_L1_eq, overdubref05_Encode_L1_B_eq]
          simp -implicitDefEqProofs only [c1, e1, hG.len, h16, w1.len, lt_t (show (ds.length : Int) < (bs.length : Int) by omega), ei, Option.bind_some, decide_true, decide_false, cond_true, cond_false, seqJ_n, seqJ_r, seqJ_e, headK_c, asB_bool, asI_int, asS_s, asN_int, extrK_0, extrK_1, extrK_2, Bool.not_true, Bool.not_false, Nat.beq_refl]
          exact q1
        · rw [if_neg hc]
          obtain ⟨x', m2, q1, q2, q3⟩ := refEncode_loop h0 hy ht hl k (i + 1) m1 x (some bs) (by omega) (hs.trans k1) ⟨hG, hG2⟩
          refine ⟨x', m2, ?_, q2, q3⟩
          rw [overdubref05_Encode_L1_eq, overdubref05_Encode_L1_B_eq]
          simp -implicitDefEqProofs only [c1, e1, hG.len, h16, w1.len, lt_f (show (bs.length : Int) ≤ (ds.length : Int) by omega), ei, Option.bind_some, decide_true, decide_false, cond_true, cond_false, seqJ_n, seqJ_r, seqJ_e, headK_c, asB_bool, asI_int, asS_s, asN_int, extrK_0, extrK_1, extrK_2, Bool.not_true, Bool.not_false, Nat.beq_refl]
          exact q1
theorem refEncode_is {μ : AMem} (h0 : WF μ) {y : SV} {xs : List Int} (hy : IsRow μ .i64 y xs) (hb : xs.length ≤ 1000000) :
    (encE xs ≠ 0 → overdubref05_Encode [.s y] μ = some (.tuple [.s .nilSlice, .s (.int .i64 (encE xs))], μ)) ∧
    (encE xs = 0 → ∃ ds bs z μ', encD xs = some ds ∧ holds bs ds ∧ overdubref05_Encode [.s y] μ = some (.tuple [.s z, .s (.int .i64 0)], μ') ∧ Same μ μ' ∧ OwnRow μ.next μ' .u8 5 z bs) := by
  rw [overdubref05_Encode_eq]
  unfold encE
  have hk := refMay_is hy (by omega)
  by_cases c1 : xs.length < 1
  · rw [if_pos (.inl c1)]
    refine ⟨fun _ => ?_, fun h => by cases h⟩
    simp -implicitDefEqProofs (disch := omega) only [lt_t, lt_f, gt_t, gt_f, le_t, le_f, ge_t, ge_f, ne_t, ne_f, eq_t, eq_f, w64, chk_true, Option.bind_some, decide_true, decide_false, cond_true, cond_false, seqJ_n, seqJ_r, seqJ_e, headK_c, asB_bool, asI_int, asS_s, asN_int, extrK_0, extrK_1, extrK_2, Bool.not_true, Bool.not_false, Nat.beq_refl, hy.len]
  · by_cases c2 : xs.length > 64
    · rw [if_pos (.inr c2)]
      refine ⟨fun _ => ?_, fun h => by cases h⟩
      simp -implicitDefEqProofs (disch := omega) only [lt_t, lt_f, gt_t, gt_f, le_t, le_f, ge_t, ge_f, ne_t, ne_f, eq_t, eq_f, w64, chk_true, Option.bind_some, decide_true, decide_false, cond_true, cond_false, seqJ_n, seqJ_r, seqJ_e, headK_c, asB_bool, asI_int, asS_s, asN_int, extrK_0, extrK_1, extrK_2, Bool.not_true, Bool.not_false, Nat.beq_refl, hy.len]
    · rw [if_neg (by omega)]
      refine ⟨fun hE => ?_, fun hE => ?_⟩
      · have h8 : checkZ xs = 8 := by
          unfold checkZ at hE ⊢
          by_cases ha : xs.all okS = true
          · rw [if_pos ha, if_neg c2] at hE; exact absurd rfl hE
          · rw [if_neg ha]
        rw [h8] at hk ⊢
        simp -implicitDefEqProofs (disch := omega) only [lt_t, lt_f, gt_t, gt_f, le_t, le_f, ge_t, ge_f, ne_t, ne_f, eq_t, eq_f, w64, chk_true, Option.bind_some, decide_true, decide_false, cond_true, cond_false, seqJ_n, seqJ_r, seqJ_e, headK_c, asB_bool, asI_int, asS_s, asN_int, extrK_0, extrK_1, extrK_2, Bool.not_true, Bool.not_false, Nat.beq_refl, hy.len, hk]
      · obtain ⟨ht, hl⟩ := checkZ_ok hE
        rw [hE] at hk
        obtain ⟨x, m1, e1, k1, b1⟩ := refEncode_loop h0 hy ht (by omega) 19 0 μ .nilSlice none rfl (Keep.refl h0) rfl
        rw [n0] at e1
        obtain ⟨ds, hds⟩ := encD_some xs
        have hds' : encF xs 19 0 none = some ds := hds
        rw [hds'] at b1
        obtain ⟨w1, _⟩ := b1
        have hsm := encD_small ht hl hds
        obtain ⟨z, bs, m2, e2, k2, o2, hh⟩ := refBytes_is k1.wf w1 (by omega) hsm.2.2
        refine ⟨ds, bs, z, m2, hds, hh, ?_, k1.trans k2, o2.less k1.next⟩
        simp -implicitDefEqProofs (disch := omega) only [lt_t, lt_f, gt_t, gt_f, le_t, le_f, ge_t, ge_f, ne_t, ne_f, eq_t, eq_f, w64, chk_true, Option.bind_some, decide_true, decide_false, cond_true, cond_false, seqJ_n, seqJ_r, seqJ_e, headK_c, asB_bool, asI_int, asS_s, asN_int, extrK_0, extrK_1, extrK_2, Bool.not_true, Bool.not_false, Nat.beq_refl, hy.len, hk, e1, e2]
end Go.Proofs.Ytadhelkiinaenaa
/- Frames of a kind: the program's and the document's. -/
namespace Go.Proofs.Ytadhelkiinaenaa
open Go Go.Proofs.Ytadhelkiinaenaa.E
set_option linter.unusedVariables false
set_option linter.unusedSimpArgs false
def asD (kind : Int) (xs : List Int) : Option (List Int) := if 1 ≤ xs.length ∧ checkZ xs = 0 then frameD kind xs else none
theorem asD_some {kind : Int} {xs ds : List Int} (h : asD kind xs = some ds) : tame xs ∧ (1 ≤ xs.length ∧ xs.length ≤ 64) ∧ frameD kind xs = some ds := by
  unfold asD at h
  split at h
  · rename_i hc
    have := checkZ_ok hc.2
    exact ⟨this.1, ⟨hc.1, this.2⟩, h⟩
  · cases h
theorem asD_of {kind : Int} {xs : List Int} (ht : tame xs) (hl : 1 ≤ xs.length ∧ xs.length ≤ 64) : asD kind xs = frameD kind xs := by
  unfold asD
  rw [if_pos ⟨hl.1, checkZ_tame ht hl.2⟩]
theorem frameMay_is {μ : AMem} {y : SV} {xs : List Int} (hy : IsRow μ .i64 y xs) (hb : xs.length ≤ 1000000) : frame_may [.s y] μ = some (.s (.bool (decide (1 ≤ xs.length ∧ checkZ xs = 0))), μ) := by
  rw [frame_may_eq]
  have hk := check_is hy (by omega)
  by_cases c1 : 1 ≤ xs.length
  · by_cases c2 : checkZ xs = 0
    · rw [decide_eq_true (p := 1 ≤ xs.length ∧ checkZ xs = 0) ⟨c1, c2⟩]
      simp -implicitDefEqProofs only [hy.len, ge_t (show (1 : Int) ≤ (xs.length : Int) by omega), hk, eq_t c2, Option.bind_some, decide_true, decide_false, cond_true, cond_false, seqJ_n, seqJ_r, seqJ_e, headK_c, asB_bool, asI_int, asS_s, asN_int, extrK_0, extrK_1, extrK_2, Bool.not_true, Bool.not_false, Nat.beq_refl]
    · rw [decide_eq_false (p := 1 ≤ xs.length ∧ checkZ xs = 0) (fun h => c2 h.2)]
      simp -implicitDefEqProofs only [hy.len, ge_t (show (1 : Int) ≤ (xs.length : Int) by omega), hk, eq_f c2, Option.bind_some, decide_true, decide_false, cond_true, cond_false, seqJ_n, seqJ_r, seqJ_e, headK_c, asB_bool, asI_int, asS_s, asN_int, extrK_0, extrK_1, extrK_2, Bool.not_true, Bool.not_false, Nat.beq_refl]
  · rw [decide_eq_false (p := 1 ≤ xs.length ∧ checkZ xs = 0) (fun h => c1 h.1)]
    simp -implicitDefEqProofs only [hy.len, ge_f (show (xs.length : Int) < 1 by omega), Option.bind_some, decide_true, decide_false, cond_true, cond_false, seqJ_n, seqJ_r, seqJ_e, headK_c, asB_bool, asI_int, asS_s, asN_int, extrK_0, extrK_1, extrK_2, Bool.not_true, Bool.not_false, Nat.beq_refl]
theorem frameAs_is {μ : AMem} (h0 : WF μ) {y : SV} {xs : List Int} (hy : IsRow μ .i64 y xs) (hb : xs.length ≤ 1000000) (kind : Int) :
    (asD kind xs = none → ∃ μ', frame_As [.s (.int .i64 kind), .s y] μ = some (.tuple [.s .nilSlice, .s (.bool false)], μ') ∧ Same μ μ') ∧
    (∀ ds, asD kind xs = some ds → ∃ bs z μ', holds bs ds ∧ frame_As [.s (.int .i64 kind), .s y] μ = some (.tuple [.s z, .s (.bool true)], μ') ∧ Same μ μ' ∧ OwnRow μ.next μ' .u8 5 z bs) := by
  have hm := frameMay_is hy hb
  rw [frame_As_eq]
  unfold asD
  by_cases c : 1 ≤ xs.length ∧ checkZ xs = 0
  · rw [if_pos c]
    rw [decide_eq_true c] at hm
    obtain ⟨ht, hl⟩ := checkZ_ok c.2
    have hD := frameDigits_is h0 hy ht ⟨c.1, hl⟩ kind
    refine ⟨fun hf => ?_, fun ds hf => ?_⟩
    · obtain ⟨z, m, e1, k1⟩ := hD.1 hf
      refine ⟨m, ?_, k1⟩
      simp -implicitDefEqProofs only [hm, e1, Option.bind_some, decide_true, decide_false, cond_true, cond_false, seqJ_n, seqJ_r, seqJ_e, headK_c, asB_bool, asI_int, asS_s, asN_int, extrK_0, extrK_1, extrK_2, Bool.not_true, Bool.not_false, Nat.beq_refl]
    · obtain ⟨x, F, m, e1, k1, w1⟩ := hD.2 ds hf
      obtain ⟨z, bs, m2, e2, k2, f2, hh⟩ := BytesF_is k1.wf w1 (by have := frameD_small ht hl hf; omega)
      refine ⟨bs, z, m2, hh, ?_, k1.trans k2, f2.own.less k1.next⟩
      simp -implicitDefEqProofs only [hm, e1, e2, Option.bind_some, decide_true, decide_false, cond_true, cond_false, seqJ_n, seqJ_r, seqJ_e, headK_c, asB_bool, asI_int, asS_s, asN_int, extrK_0, extrK_1, extrK_2, Bool.not_true, Bool.not_false, Nat.beq_refl]
  · rw [if_neg c]
    rw [decide_eq_false c] at hm
    refine ⟨fun _ => ⟨μ, ?_, Keep.refl h0⟩, fun ds h => (by cases h)⟩
    simp -implicitDefEqProofs only [hm, Option.bind_some, decide_true, decide_false, cond_true, cond_false, seqJ_n, seqJ_r, seqJ_e, headK_c, asB_bool, asI_int, asS_s, asN_int, extrK_0, extrK_1, extrK_2, Bool.not_true, Bool.not_false, Nat.beq_refl]
theorem refAs_is {μ : AMem} (h0 : WF μ) {y : SV} {xs : List Int} (hy : IsRow μ .i64 y xs) (hb : xs.length ≤ 1000000) (kind : Int) :
    (asD kind xs = none → ∃ μ', overdubref05_As [.s (.int .i64 kind), .s y] μ = some (.tuple [.s .nilSlice, .s (.bool false)], μ') ∧ Same μ μ') ∧
    (∀ ds, asD kind xs = some ds → ∃ bs z μ', holds bs ds ∧ overdubref05_As [.s (.int .i64 kind), .s y] μ = some (.tuple [.s z, .s (.bool true)], μ') ∧ Same μ μ' ∧ OwnRow μ.next μ' .u8 5 z bs) := by
  rw [overdubref05_As_eq]
  unfold asD
  by_cases c : 1 ≤ xs.length ∧ checkZ xs = 0
  · rw [if_pos c]
    obtain ⟨ht, hl⟩ := checkZ_ok c.2
    have hD := refDigits_is h0 hy ht ⟨c.1, hl⟩ kind
    refine ⟨fun hf => ?_, fun ds hf => ?_⟩
    · obtain ⟨z, m, e1, k1⟩ := hD.1 hf
      refine ⟨m, ?_, k1⟩
      simp -implicitDefEqProofs only [e1, Option.bind_some, decide_true, decide_false, cond_true, cond_false, seqJ_n, seqJ_r, seqJ_e, headK_c, asB_bool, asI_int, asS_s, asN_int, extrK_0, extrK_1, extrK_2, Bool.not_true, Bool.not_false, Nat.beq_refl]
    · obtain ⟨x, m, e1, k1, w1⟩ := hD.2 ds hf
      have hsm := frameD_small ht hl hf
      obtain ⟨z, bs, m2, e2, k2, o2, hh⟩ := refBytes_is k1.wf w1 (by omega) hsm.2.2
      refine ⟨bs, z, m2, hh, ?_, k1.trans k2, o2.less k1.next⟩
      simp -implicitDefEqProofs only [e1, e2, Option.bind_some, decide_true, decide_false, cond_true, cond_false, seqJ_n, seqJ_r, seqJ_e, headK_c, asB_bool, asI_int, asS_s, asN_int, extrK_0, extrK_1, extrK_2, Bool.not_true, Bool.not_false, Nat.beq_refl]
  · rw [if_neg c]
    have hk := refMay_is hy (by omega)
    have e1 : overdubref05_digits [.s (.int .i64 kind), .s y] μ = some (.tuple [.s .nilSlice, .s (.bool false)], μ) := by
      rw [overdubref05_digits_eq]
      by_cases c1 : 1 ≤ xs.length
      · have c2 : ¬ checkZ xs = 0 := fun h => c ⟨c1, h⟩
        simp -implicitDefEqProofs only [hy.len, lt_f (show (1 : Int) ≤ (xs.length : Int) by omega), hk, ne_t c2, Option.bind_some, decide_true, decide_false, cond_true, cond_false, seqJ_n, seqJ_r, seqJ_e, headK_c, asB_bool, asI_int, asS_s, asN_int, extrK_0, extrK_1, extrK_2, Bool.not_true, Bool.not_false, Nat.beq_refl]
      · simp -implicitDefEqProofs only [hy.len, lt_t (show (xs.length : Int) < 1 by omega), Option.bind_some, decide_true, decide_false, cond_true, cond_false, seqJ_n, seqJ_r, seqJ_e, headK_c, asB_bool, asI_int, asS_s, asN_int, extrK_0, extrK_1, extrK_2, Bool.not_true, Bool.not_false, Nat.beq_refl]
    refine ⟨fun _ => ⟨μ, ?_, Keep.refl h0⟩, fun ds h => (by cases h)⟩
    simp -implicitDefEqProofs only [e1, Option.bind_some, decide_true, decide_false, cond_true, cond_false, seqJ_n, seqJ_r, seqJ_e, headK_c, asB_bool, asI_int, asS_s, asN_int, extrK_0, extrK_1, extrK_2, Bool.not_true, Bool.not_false, Nat.beq_refl]
theorem holds_len {bs ds : List Int} {n : Nat} (h : holds bs ds) (hl : ds.length ≤ n) : bs.length ≤ n := by have := h.1; omega
end Go.Proofs.Ytadhelkiinaenaa
/- The document's digits: of bytes, numbers and ones taken. -/
namespace Go.Proofs.Ytadhelkiinaenaa
open Go Go.Proofs.Ytadhelkiinaenaa.E
set_option linter.unusedVariables false
set_option linter.unusedSimpArgs false
/-- A cut up to the end is of the same object. -/
theorem back3 {μ : AMem} {k : IntKind} {x : SV} {zs : List Int} (h : IsRow μ k x zs) {n : Nat} (hn : n ≤ zs.length) : ∃ y, (∀ {R : Type} (K : AV → Option R), cutS 1 (.s x) (n : Int) (zs.length : Int) K = K (.s y)) ∧ IsRow μ k y (zs.drop n) ∧ ∀ j, isId y j → isId x j := by
  refine ⟨cutV x n zs.length, fun K => h.cut (by omega) (by omega) (by omega) K, ?_, fun j hj => ?_⟩
  · have := h.cutRow (a := n) (b := (zs.length : Int)) (by omega) (by omega) (by omega)
    simpa using this
  · cases x <;> first | exact hj | exact hj.elim
/-- The digits that are left. -/
def At (bs : List Int) (a : Nat) (l : List Int) : Prop := l.length = 8 * bs.length - a ∧ ∀ j, l.getD j 0 = digB bs (a + j)
theorem At.drop {bs l : List Int} {a : Nat} (h : At bs a l) (n : Nat) : At bs (a + n) (l.drop n) := by
  refine ⟨by rw [List.length_drop, h.1]; omega, fun j => ?_⟩
  rw [Nat.add_assoc, ← h.2 (n + j), List.getD_eq_getElem?_getD, List.getElem?_drop, List.getD_eq_getElem?_getD]
theorem ofL_loop {μ0 : AMem} (h0 : WF μ0) {x : SV} {bs : List Int} {n1 i1 : Int} {i : Nat} (hx : IsRow μ0 .u8 x bs) (hi : i < bs.length) (hv : 0 ≤ bs.getD i 0 ∧ bs.getD i 0 < 256) (hb : bs.length ≤ 1000) :
    ∀ (k : Nat) (μ : AMem) (y : SV) (zs : List Int), k ≤ 8 → zs.length + k ≤ 100000 → Same μ0 μ → OwnRow μ0.next μ .u8 5 y zs →
      ∃ y' μ', overdubref01_Of_L2 [.s x, .s (.int .i64 i), .s (.int .i64 n1), .s (.int .i64 i1)] [.s y, .s (.int .i64 ((k : Int) - 1))] μ = some (.exit 2, [.s x, .s y', .s (.int .i64 n1), .s (.int .i64 i1)], μ') ∧ Same μ0 μ' ∧ OwnRow μ0.next μ' .u8 5 y' (zs ++ putD (bs.getD i 0) k)
  | 0, μ, y, zs, hk, hl, hs, hy => by
    rw [overdubref01_Of_L2_eq, overdubref01_Of_L2_B_eq, putD, List.append_nil]
    simp -implicitDefEqProofs (disch := omega) only [lt_t, lt_f, gt_t, gt_f, le_t, le_f, ge_t, ge_f, ne_t, ne_f, eq_t, eq_f, w64, chk_true, Option.bind_some, decide_true, decide_false, cond_true, cond_false, seqJ_n, seqJ_r, seqJ_e, headK_c, asB_bool, asI_int, asS_s, asN_int, extrK_0, extrK_1, extrK_2, Bool.not_true, Bool.not_false, Nat.beq_refl]
    exact ⟨y, μ, rfl, hs, hy⟩
  | k + 1, μ, y, zs, hk, hl, hs, hy => by
    have hx12 := hx.same (bumpS hs 12)
    obtain ⟨y', μ', p1, p2, p3⟩ := pushS (B := 1) (a := 9) (b := 10) (n := 12) (q := some 1) h0 hs hy (bs.getD i 0 / 2 ^ k % 2) (by omega) (by omega) (by omega) (by omega) (by omega)
    obtain ⟨y2, μ2, q1, q2, q3⟩ := ofL_loop (n1 := n1) (i1 := i1) h0 hx hi hv hb k μ' y' _ (by omega) (by simp; omega) p2 p3
    rw [List.append_assoc] at q3
    refine ⟨y2, μ2, ?_, q2, q3⟩
    have e0 : ((k + 1 : Nat) : Int) - 1 = (k : Int) := by omega
    have hu := u64n (n := k) (by omega)
    have hmin : min (Int.toNat (k : Int)) (IntKind.bits .u8) = k := by show min _ 8 = k; omega
    have hand : IntKind.wrap .u8 (BitVec.toNat ((BitVec.ofInt (IntKind.bits .u8) (bs.getD i 0 / 2 ^ k)) &&& (BitVec.ofInt (IntKind.bits .u8) 1))) = bs.getD i 0 / 2 ^ k % 2 := by
      have e : (BitVec.toNat ((BitVec.ofInt (IntKind.bits .u8) (bs.getD i 0 / 2 ^ k)) &&& (BitVec.ofInt (IntKind.bits .u8) 1)) : Int) = bs.getD i 0 / 2 ^ k % 2 := by
        show ((BitVec.toNat ((BitVec.ofInt 8 (bs.getD i 0 / 2 ^ k)) &&& (BitVec.ofInt 8 1)) : Nat) : Int) = _
        rw [BitVec.toNat_and, BitVec.toNat_ofInt, BitVec.toNat_ofInt]
        have : (1 : Int) % ((2 ^ 8 : Nat) : Int) = 1 := by decide
        rw [this, show (1 : Int).toNat = 1 from rfl, Nat.and_one_is_mod]
        omega
      rw [e, wu8 (by omega)]
    have ei : IntKind.wrap .i64 ((k : Int) - 1) = (k : Int) - 1 := wr (by omega)
    have hi1 := fun {R : Type} (K : AV → Option R) => (hx.same hs).ind (i := (i : Int)) (by omega) (by omega) K
    have hl1 := fun {R : Type} (K : AV → Option R) => hx12.load (i := (i : Int)) (by omega) (by omega) K
    rw [nat_toNat] at hl1
    rw [e0, overdubref01_Of_L2_eq, overdubref01_Of_L2_B_eq]
    simp -implicitDefEqProofs only [ge_t (show (0 : Int) ≤ k by omega), hi1, hl1, hu, if_neg (show ¬ (k : Int) < 0 by omega), hmin, fdivp2, hand, p1, ei, Option.bind_some, decide_true, decide_false, cond_true, cond_false, seqJ_n, seqJ_r, seqJ_e, headK_c, asB_bool, asI_int, asS_s, asN_int, extrK_0, extrK_1, extrK_2, Bool.not_true, Bool.not_false, Nat.beq_refl]
    exact q1
def ofD (bs : List Int) : List Int := bs.flatMap fun v => putD v 8
theorem ofD_snoc (bs : List Int) (v : Int) : ofD (bs ++ [v]) = ofD bs ++ putD v 8 := by simp [ofD]
theorem ofD_len : ∀ bs : List Int, (ofD bs).length = 8 * bs.length
  | [] => rfl
  | v :: bs => by
    have := ofD_len bs
    simp only [ofD, List.flatMap_cons, List.length_append, putD_len, List.length_cons] at this ⊢
    omega
theorem ofD_get : ∀ (bs : List Int) (j : Nat), (ofD bs).getD j 0 = digB bs j
  | [], j => by unfold digB; simp [ofD, digV_zero]
  | v :: bs, j => by
    show (putD v 8 ++ ofD bs).getD j 0 = _
    rw [getD_app, putD_len]
    by_cases h : j < 8
    · rw [if_pos h, putD_get v 8 j h]
      unfold digB digV
      rw [show j / 8 = 0 by omega, show j % 8 = j by omega]; rfl
    · rw [if_neg h, ofD_get bs (j - 8)]
      unfold digB
      rw [show j / 8 = (j - 8) / 8 + 1 by omega, show j % 8 = (j - 8) % 8 by omega]; rfl
theorem of_loop {μ0 : AMem} (h0 : WF μ0) {x : SV} {bs : List Int} (hx : IsRow μ0 .u8 x bs) (hv : ∀ v ∈ bs, 0 ≤ v ∧ v < 256) (hb : bs.length ≤ 1000) :
    ∀ (k i : Nat) (μ : AMem) (y : SV), i + k = bs.length → Same μ0 μ → OwnRow μ0.next μ .u8 5 y (ofD (bs.take i)) →
      ∃ y' μ', overdubref01_Of_L1 [.s x, .s (.int .i64 bs.length)] [.s y, .s (.int .i64 i)] μ = some (.exit 0, [.s y'], μ') ∧ Same μ0 μ' ∧ OwnRow μ0.next μ' .u8 5 y' (ofD bs)
  | 0, i, μ, y, h, hs, hy => by
    rw [overdubref01_Of_L1_eq, overdubref01_Of_L1_B_eq]
    rw [List.take_of_length_le (by omega)] at hy
    simp -implicitDefEqProofs (disch := omega) only [lt_t, lt_f, gt_t, gt_f, le_t, le_f, ge_t, ge_f, ne_t, ne_f, eq_t, eq_f, w64, chk_true, Option.bind_some, decide_true, decide_false, cond_true, cond_false, seqJ_n, seqJ_r, seqJ_e, headK_c, asB_bool, asI_int, asS_s, asN_int, extrK_0, extrK_1, extrK_2, Bool.not_true, Bool.not_false, Nat.beq_refl]
    exact ⟨y, μ, rfl, hs, hy⟩
  | k + 1, i, μ, y, h, hs, hy => by
    have hi : i < bs.length := by omega
    have hlen : (ofD (bs.take i)).length = 8 * i := by rw [ofD_len]; simp; omega
    obtain ⟨y1, m1, e1, k1, o1⟩ := ofL_loop (n1 := (bs.length : Int)) (i1 := (i : Int)) h0 hx hi (hv _ (getD_mem hi)) hb 8 μ y _ (by omega) (by omega) hs hy
    rw [show ((8 : Nat) : Int) - 1 = 7 from rfl] at e1
    rw [← ofD_snoc, ← take_snoc hi] at o1
    obtain ⟨y2, m2, q1, q2, q3⟩ := of_loop h0 hx hv hb k (i + 1) m1 y1 (by omega) k1 o1
    rw [nsu] at q1
    refine ⟨y2, m2, ?_, q2, q3⟩
    have c1 := lt_t (a := (i : Int)) (b := (bs.length : Int)) (by omega)
    have ei : IntKind.wrap .i64 ((i : Int) + 1) = (i : Int) + 1 := wr (by omega)
    rw [overdubref01_Of_L1_eq, overdubref01_Of_L1_B_eq]
    simp -implicitDefEqProofs only [c1, e1, ei, Option.bind_some, decide_true, decide_false, cond_true, cond_false, seqJ_n, seqJ_r, seqJ_e, headK_c, asB_bool, asI_int, asS_s, asN_int, extrK_0, extrK_1, extrK_2, Bool.not_true, Bool.not_false, Nat.beq_refl]
    exact q1
theorem Of_is {μ : AMem} (h0 : WF μ) {x : SV} {bs : List Int} (hx : IsRow μ .u8 x bs) (hv : ∀ v ∈ bs, 0 ≤ v ∧ v < 256) (hb : bs.length ≤ 1000) :
    ∃ y l μ', overdubref01_Of [.s x] μ = some (.s y, μ') ∧ Same μ μ' ∧ IsRow μ' .u8 y l ∧ At bs 0 l ∧ ∀ j, isId y j → μ.next ≤ j := by
  obtain ⟨y, m, q1, q2, q3⟩ := of_loop h0 hx hv hb bs.length 0 μ .nilSlice (by omega) (Keep.refl h0) (OwnRow.nil _ _ _ _)
  rw [n0] at q1
  refine ⟨y, ofD bs, m, ?_, q2, q3.row, ⟨by rw [ofD_len]; omega, fun j => by rw [ofD_get, Nat.zero_add]⟩, fun j hj => (own_lives q3 hj).1⟩
  rw [overdubref01_Of_eq]
  simp -implicitDefEqProofs only [hx.len, q1, Option.bind_some, decide_true, decide_false, cond_true, cond_false, seqJ_n, seqJ_r, seqJ_e, headK_c, asB_bool, asI_int, asS_s, asN_int, extrK_0, extrK_1, extrK_2, Bool.not_true, Bool.not_false, Nat.beq_refl]
theorem refGet_loop {μ : AMem} {x : SV} {bs l : List Int} {a n : Nat} (hx : IsRow μ .u8 x l) (hA : At bs a l) (hn : n ≤ l.length) (hn2 : n ≤ 62) :
    ∀ k i : Nat, i + k = n → overdubref01_Bits_Get_L1 [.s x, .s (.int .i64 n)] [.s (.int .i64 (numB bs a i)), .s (.int .i64 i)] μ = some (.exit 0, [.s x, .s (.int .i64 n), .s (.int .i64 (numB bs a n))], μ)
  | 0, i, h => by
    obtain rfl : i = n := by omega
    rw [overdubref01_Bits_Get_L1_eq, overdubref01_Bits_Get_L1_B_eq]
    simp -implicitDefEqProofs (disch := omega) only [lt_t, lt_f, gt_t, gt_f, le_t, le_f, ge_t, ge_f, ne_t, ne_f, eq_t, eq_f, w64, chk_true, Option.bind_some, decide_true, decide_false, cond_true, cond_false, seqJ_n, seqJ_r, seqJ_e, headK_c, asB_bool, asI_int, asS_s, asN_int, extrK_0, extrK_1, extrK_2, Bool.not_true, Bool.not_false, Nat.beq_refl]
  | k + 1, i, h => by
    have ih := refGet_loop hx hA hn hn2 k (i + 1) (by omega)
    rw [nsu] at ih
    have h1 := numB_le bs a i
    have h2 := digB_le bs (a + i)
    have h3 := pow_le62 (n := i) (by omega)
    have hi1 := fun {R : Type} (K : AV → Option R) => hx.ind (i := (i : Int)) (by omega) (by omega) K
    have hl1 := fun {R : Type} (K : AV → Option R) => hx.load (i := (i : Int)) (by omega) (by omega) K
    rw [nat_toNat, hA.2] at hl1
    have e1 : IntKind.wrap .i64 (IntKind.wrap .i64 (2 * numB bs a i) + IntKind.wrap .i64 (digB bs (a + i))) = numB bs a (i + 1) := by
      rw [wr (n := 2 * numB bs a i) (by omega), wr (n := digB bs (a + i)) (by omega), wr (by omega)]; rfl
    have ei : IntKind.wrap .i64 ((i : Int) + 1) = (i : Int) + 1 := wr (by omega)
    rw [overdubref01_Bits_Get_L1_eq, overdubref01_Bits_Get_L1_B_eq]
    simp -implicitDefEqProofs only [lt_t (show (i : Int) < n by omega), hi1, hl1, e1, ei, Option.bind_some, decide_true, decide_false, cond_true, cond_false, seqJ_n, seqJ_r, seqJ_e, headK_c, asB_bool, asI_int, asS_s, asN_int, extrK_0, extrK_1, extrK_2, Bool.not_true, Bool.not_false, Nat.beq_refl]
    exact ih
theorem refGet_is {μ : AMem} {x : SV} {bs l : List Int} {a : Nat} (hx : IsRow μ .u8 x l) (hA : At bs a l) (n : Int) :
    ((n < 0 ∨ n > 62 ∨ n > (l.length : Int)) → overdubref01_Bits_Get [.s x, .s (.int .i64 n)] μ = some (.tuple [.s (.int .i64 0), .s x, .s (.bool false)], μ)) ∧
    (0 ≤ n ∧ n ≤ 62 ∧ n ≤ (l.length : Int) → ∃ y, overdubref01_Bits_Get [.s x, .s (.int .i64 n)] μ = some (.tuple [.s (.int .i64 (numB bs a n.toNat)), .s y, .s (.bool true)], μ) ∧ IsRow μ .u8 y (l.drop n.toNat) ∧ ∀ j, isId y j → isId x j) := by
  refine ⟨fun hn => ?_, fun hn => ?_⟩
  · rw [overdubref01_Bits_Get_eq]
    by_cases h1 : n < 0
    · simp -implicitDefEqProofs (disch := omega) only [lt_t, lt_f, gt_t, gt_f, le_t, le_f, ge_t, ge_f, ne_t, ne_f, eq_t, eq_f, w64, chk_true, Option.bind_some, decide_true, decide_false, cond_true, cond_false, seqJ_n, seqJ_r, seqJ_e, headK_c, asB_bool, asI_int, asS_s, asN_int, extrK_0, extrK_1, extrK_2, Bool.not_true, Bool.not_false, Nat.beq_refl]
    · by_cases h2 : n > 62
      · simp -implicitDefEqProofs (disch := omega) only [lt_t, lt_f, gt_t, gt_f, le_t, le_f, ge_t, ge_f, ne_t, ne_f, eq_t, eq_f, w64, chk_true, Option.bind_some, decide_true, decide_false, cond_true, cond_false, seqJ_n, seqJ_r, seqJ_e, headK_c, asB_bool, asI_int, asS_s, asN_int, extrK_0, extrK_1, extrK_2, Bool.not_true, Bool.not_false, Nat.beq_refl]
      · simp -implicitDefEqProofs (disch := omega) only [lt_t, lt_f, gt_t, gt_f, le_t, le_f, ge_t, ge_f, ne_t, ne_f, eq_t, eq_f, w64, chk_true, Option.bind_some, decide_true, decide_false, cond_true, cond_false, seqJ_n, seqJ_r, seqJ_e, headK_c, asB_bool, asI_int, asS_s, asN_int, extrK_0, extrK_1, extrK_2, Bool.not_true, Bool.not_false, Nat.beq_refl, hx.len]
  · have hlp := refGet_loop (n := n.toNat) hx hA (by omega) (by omega) _ 0 (Nat.zero_add _)
    have e0 : ((n.toNat : Nat) : Int) = n := by omega
    obtain ⟨y, f1, f2, f3⟩ := back3 hx (n := n.toNat) (by omega)
    rw [e0] at f1
    rw [n0, e0, show numB bs a 0 = 0 from rfl] at hlp
    refine ⟨y, ?_, f2, f3⟩
    have q1 := lt_f (a := n) (b := 0) (by omega)
    have q2 := gt_f (a := n) (b := 62) (by omega)
    have q3 := gt_f (a := n) (b := (l.length : Int)) (by omega)
    rw [overdubref01_Bits_Get_eq]
    simp -implicitDefEqProofs only [q1, q2, q3, hx.len, hlp, f1, Option.bind_some, decide_true, decide_false, cond_true, cond_false, seqJ_n, seqJ_r, seqJ_e, headK_c, asB_bool, asI_int, asS_s, asN_int, extrK_0, extrK_1, extrK_2, Bool.not_true, Bool.not_false, Nat.beq_refl]
theorem refOnesT_loop {μ : AMem} {x : SV} {bs l : List Int} {a most : Nat} (hx : IsRow μ .u8 x l) (hA : At bs a l) (hm : most ≤ 1024) :
    ∀ k n : Nat, n + k = most → n ≤ l.length → ∃ n' : Nat, overdubref01_Bits_TakeOnes_L1 [.s x, .s (.int .i64 most)] [.s (.int .i64 n)] μ = some (.exit 0, [.s x, .s (.int .i64 most), .s (.int .i64 n')], μ) ∧ n' ≤ most ∧ n' ≤ l.length ∧
      onesF bs a l.length k n = if n' = most then ((most : Int), true, a + most) else if n' = l.length then (0, false, a) else ((n' : Int), true, a + n' + 1)
  | 0, n, h, hl => by
    obtain rfl : n = most := by omega
    refine ⟨n, ?_, Nat.le_refl _, hl, by rw [if_pos rfl]; rfl⟩
    rw [overdubref01_Bits_TakeOnes_L1_eq, overdubref01_Bits_TakeOnes_L1_B_eq]
    simp -implicitDefEqProofs (disch := omega) only [lt_t, lt_f, gt_t, gt_f, le_t, le_f, ge_t, ge_f, ne_t, ne_f, eq_t, eq_f, w64, chk_true, Option.bind_some, decide_true, decide_false, cond_true, cond_false, seqJ_n, seqJ_r, seqJ_e, headK_c, asB_bool, asI_int, asS_s, asN_int, extrK_0, extrK_1, extrK_2, Bool.not_true, Bool.not_false, Nat.beq_refl]
  | k + 1, n, h, hl => by
    have c1 := lt_t (a := (n : Int)) (b := (most : Int)) (by omega)
    rw [onesF, overdubref01_Bits_TakeOnes_L1_eq, overdubref01_Bits_TakeOnes_L1_B_eq]
    by_cases h1 : l.length ≤ n
    · refine ⟨n, ?_, by omega, hl, by rw [if_pos h1, if_neg (by omega), if_pos (by omega)]⟩
      simp -implicitDefEqProofs only [c1, hx.len, lt_f (show (l.length : Int) ≤ n by omega), Option.bind_some, decide_true, decide_false, cond_true, cond_false, seqJ_n, seqJ_r, seqJ_e, headK_c, asB_bool, asI_int, asS_s, asN_int, extrK_0, extrK_1, extrK_2, Bool.not_true, Bool.not_false, Nat.beq_refl]
    · have c2 := lt_t (a := (n : Int)) (b := (l.length : Int)) (by omega)
      have hi1 := fun {R : Type} (K : AV → Option R) => hx.ind (i := (n : Int)) (by omega) (by omega) K
      have hl1 := fun {R : Type} (K : AV → Option R) => hx.load (i := (n : Int)) (by omega) (by omega) K
      rw [nat_toNat, hA.2] at hl1
      have hd := digB_le bs (a + n)
      rw [if_neg h1]
      by_cases h2 : digB bs (a + n) = 0
      · have t0 : (digB bs (a + n) == 1) = false := by simp [h2]
        refine ⟨n, ?_, by omega, hl, by rw [if_pos h2, if_neg (by omega), if_neg (by omega)]⟩
        simp -implicitDefEqProofs only [c1, hx.len, c2, hi1, hl1, t0, Option.bind_some, decide_true, decide_false, cond_true, cond_false, seqJ_n, seqJ_r, seqJ_e, headK_c, asB_bool, asI_int, asS_s, asN_int, extrK_0, extrK_1, extrK_2, Bool.not_true, Bool.not_false, Nat.beq_refl]
      · obtain ⟨n', e1, e2, e3, e4⟩ := refOnesT_loop hx hA hm k (n + 1) (by omega) (by omega)
        rw [nsu] at e1
        have t1 : (digB bs (a + n) == 1) = true := by simp; omega
        have ei : IntKind.wrap .i64 ((n : Int) + 1) = (n : Int) + 1 := wr (by omega)
        refine ⟨n', ?_, e2, e3, by rw [if_neg h2]; exact e4⟩
        simp -implicitDefEqProofs only [c1, hx.len, c2, hi1, hl1, t1, ei, Option.bind_some, decide_true, decide_false, cond_true, cond_false, seqJ_n, seqJ_r, seqJ_e, headK_c, asB_bool, asI_int, asS_s, asN_int, extrK_0, extrK_1, extrK_2, Bool.not_true, Bool.not_false, Nat.beq_refl]
        exact e1
theorem refTakeOnes_is {μ : AMem} {x : SV} {bs l : List Int} {a most : Nat} (hx : IsRow μ .u8 x l) (hA : At bs a l) (hm : most ≤ 1024) (hl : l.length ≤ 1000000) :
    ((onesF bs a l.length most 0).2.1 = false → ∃ v y, overdubref01_Bits_TakeOnes [.s x, .s (.int .i64 most)] μ = some (.tuple [.s (.int .i64 v), .s y, .s (.bool false)], μ) ∧ v = 0 ∧ y = x) ∧
    ((onesF bs a l.length most 0).2.1 = true → ∃ y n, overdubref01_Bits_TakeOnes [.s x, .s (.int .i64 most)] μ = some (.tuple [.s (.int .i64 (onesF bs a l.length most 0).1), .s y, .s (.bool true)], μ) ∧ IsRow μ .u8 y (l.drop n) ∧ (onesF bs a l.length most 0).2.2 = a + n ∧ n ≤ l.length ∧ ∀ j, isId y j → isId x j) := by
  obtain ⟨n, e1, e2, e3, e4⟩ := refOnesT_loop hx hA hm most 0 (Nat.zero_add _) (by omega)
  rw [n0] at e1
  have c1 := lt_f (a := (most : Int)) (b := 0) (by omega)
  have c2 := gt_f (a := (most : Int)) (b := 1024) (by omega)
  rw [overdubref01_Bits_TakeOnes_eq, e4]
  by_cases h1 : n = most
  · rw [if_pos h1]
    refine ⟨fun h => (by cases h), fun _ => ?_⟩
    subst h1
    obtain ⟨y, f1, f2, f3⟩ := back3 hx (n := n) (by omega)
    have t1 : ((n : Int) == (n : Int)) = true := by simp
    refine ⟨y, n, ?_, f2, rfl, e3, f3⟩
    simp -implicitDefEqProofs only [c1, c2, e1, t1, hx.len, f1, Option.bind_some, decide_true, decide_false, cond_true, cond_false, seqJ_n, seqJ_r, seqJ_e, headK_c, asB_bool, asI_int, asS_s, asN_int, extrK_0, extrK_1, extrK_2, Bool.not_true, Bool.not_false, Nat.beq_refl]
  · rw [if_neg h1]
    have t1 := eq_f (a := (n : Int)) (b := (most : Int)) (by omega)
    by_cases h2 : n = l.length
    · rw [if_pos h2]
      refine ⟨fun _ => ⟨0, x, ?_, rfl, rfl⟩, fun h => by cases h⟩
      have t2 := eq_t (a := (n : Int)) (b := (l.length : Int)) (by omega)
      simp -implicitDefEqProofs only [c1, c2, e1, t1, hx.len, t2, Option.bind_some, decide_true, decide_false, cond_true, cond_false, seqJ_n, seqJ_r, seqJ_e, headK_c, asB_bool, asI_int, asS_s, asN_int, extrK_0, extrK_1, extrK_2, Bool.not_true, Bool.not_false, Nat.beq_refl]
    · rw [if_neg h2]
      refine ⟨fun h => (by cases h), fun _ => ?_⟩
      obtain ⟨y, f1, f2, f3⟩ := back3 hx (n := n + 1) (by omega)
      rw [nsu] at f1
      have t2 := eq_f (a := (n : Int)) (b := (l.length : Int)) (by omega)
      have ei : IntKind.wrap .i64 ((n : Int) + 1) = (n : Int) + 1 := wr (by omega)
      refine ⟨y, n + 1, ?_, f2, by dsimp only; omega, by omega, f3⟩
      simp -implicitDefEqProofs only [c1, c2, e1, t1, hx.len, t2, ei, f1, Option.bind_some, decide_true, decide_false, cond_true, cond_false, seqJ_n, seqJ_r, seqJ_e, headK_c, asB_bool, asI_int, asS_s, asN_int, extrK_0, extrK_1, extrK_2, Bool.not_true, Bool.not_false, Nat.beq_refl]
end Go.Proofs.Ytadhelkiinaenaa
/- Two rows of the call's own grow in one round. -/
namespace Go.Proofs.Ytadhelkiinaenaa
open Go Go.Proofs.Ytadhelkiinaenaa.E
set_option linter.unusedVariables false
set_option linter.unusedSimpArgs false
theorem push2 {μ0 m : AMem} (h0 : WF μ0) (hs : Same μ0 m) {x y : SV} {zs ws : List Int} (hx : OwnRow μ0.next m .i64 3 x zs) (hy : OwnRow μ0.next m .i64 3 y ws) (hd : Apart x y) (v w : Int) (hzl : zs.length ≤ 1000000) (hwl : ws.length ≤ 1000000) {a b c d n : Nat}
    (ha : a < n) (hb : b < n) (hc : c < n) (hdn : d < n) (hab : a ≠ b) (hac : a ≠ c) (had : a ≠ d) (hbc : b ≠ c) (hbd : b ≠ d) (hcd : c ≠ d) :
    ∃ x' y' m1 m2, (∀ {R : Type} (K : AV → AMem → Option R), appendA 3 1 8 (m.next + b) ((m.bump n).set (m.next + a) (rowObj [.int .i64 v] 1 3 (some 1))) (.s x) (.s (.slice (m.next + a) 0 0 1)) K = K (.s x') m1) ∧
      (∀ {R : Type} (K : AV → AMem → Option R), appendA 3 1 8 (m.next + d) (m1.set (m.next + c) (rowObj [.int .i64 w] 1 3 (some 1))) (.s y) (.s (.slice (m.next + c) 0 0 1)) K = K (.s y') m2) ∧
      Same μ0 m2 ∧ OwnRow μ0.next m2 .i64 3 x' (zs ++ [v]) ∧ OwnRow μ0.next m2 .i64 3 y' (ws ++ [w]) ∧ Apart x' y' := by
  have hn := hs.next
  have hx1 : OwnRow μ0.next (m.bump n) .i64 3 x zs := hx.old fun id o ho _ => by rw [bump_obj]; exact ho
  have hy1 : OwnRow μ0.next (m.bump n) .i64 3 y ws := hy.old fun id o ho _ => by rw [bump_obj]; exact ho
  obtain ⟨x', m1, p1, p2, p3, p4, p5, p6, p7⟩ := pushX (B := 8) (ra := m.next + a) (rb := m.next + b) (q := some 1) h0 (bumpS hs n) hx1 v (by omega) (by omega) (by omega) (by omega) (by simp; omega) (by simp; omega) (by omega) (freshB hs.wf n a) (freshB hs.wf n b)
  obtain ⟨hy2, d1⟩ := other hy1 hd (freshB hs.wf n b) p5 p7
  have fc := p6 (m.next + c) (by omega) (by omega) (freshB hs.wf n c)
  have fd := p6 (m.next + d) (by omega) (by omega) (freshB hs.wf n d)
  rw [bump_next] at p4
  obtain ⟨y', m2, q1, q2, q3, q4, q5, q6, q7⟩ := pushX (B := 8) (ra := m.next + c) (rb := m.next + d) (q := some 1) h0 p2 hy2 w (by omega) (by omega) (by omega) (by omega) (by omega) (by omega) (by omega) fc fd
  obtain ⟨hx2, d2⟩ := other p3 d1.symm fd q5 q7
  exact ⟨x', y', m1, m2, p1, q1, q2, hx2, q3, d2.symm⟩
end Go.Proofs.Ytadhelkiinaenaa
