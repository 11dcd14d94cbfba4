/- What the functions come to. -/
import Derived.Test.YtnjenjbodcihmaaGreatZkb
namespace Go.Proofs.YtnjenjbodcihmaaGreat
open Go Go.Proofs.YtnjenjbodcihmaaGreat.E
set_option linter.unusedVariables false
set_option linter.unusedSimpArgs false
def Pre (cs bs : List Int) : Prop := cs.length ≤ bs.length ∧ ∀ j, j < 8 * cs.length → digB cs j = digB bs j
theorem pre_take {bs : List Int} {m : Nat} : Pre (bs.take m) bs := by
  refine ⟨by rw [List.length_take]; omega, fun j hj => ?_⟩
  rw [List.length_take] at hj
  unfold digB
  rw [List.getD_eq_getElem?_getD, List.getElem?_take, if_pos (by omega), ← List.getD_eq_getElem?_getD]
theorem numB_pre {cs bs : List Int} (h : Pre cs bs) {a : Nat} : ∀ n : Nat, a + n ≤ 8 * cs.length → numB cs a n = numB bs a n
  | 0, _ => rfl
  | n + 1, hn => by rw [numB, numB, numB_pre h n (by omega), h.2 _ (by omega)]
theorem getO_pre {cs bs : List Int} (h : Pre cs bs) {a n : Nat} {q : Int × Nat} (ha : a ≤ 8 * cs.length) (hq : getO cs a n = some q) : getO bs a n = some q ∧ q.2 ≤ 8 * cs.length := by
  have hl := h.1
  unfold getO at hq ⊢
  split at hq
  · rename_i hc
    cases hq
    rw [if_pos (by omega), numB_pre h n (by omega)]
    exact ⟨rfl, by dsimp only; omega⟩
  · cases hq
theorem valO_pre {cs bs : List Int} (h : Pre cs bs) {w : Nat} {c : Int} : ∀ {k a : Nat} {q : List Int × Nat}, a ≤ 8 * cs.length → valO cs w c k a = some q → valO bs w c k a = some q ∧ q.2 ≤ 8 * cs.length
  | 0, a, q, ha, hq => by cases hq; exact ⟨rfl, ha⟩
  | k + 1, a, q, ha, hq => by
    obtain ⟨r, hr, hq⟩ := Option.bind_eq_some_iff.mp hq
    obtain ⟨p, hp, rfl⟩ := Option.map_eq_some_iff.mp hq
    obtain ⟨h1, h2⟩ := getO_pre h ha hr
    obtain ⟨h3, h4⟩ := valO_pre h h2 hp
    refine ⟨?_, h4⟩
    rw [valO, h1, Option.bind_some, h3]; rfl
theorem onesF_pre {cs bs : List Int} (h : Pre cs bs) {a : Nat} (ha : a ≤ 8 * cs.length) : ∀ k n : Nat, (onesF cs a (8 * cs.length - a) k n).2.1 = true → onesF bs a (8 * bs.length - a) k n = onesF cs a (8 * cs.length - a) k n
  | 0, n, _ => rfl
  | k + 1, n, ho => by
    have hl := h.1
    rw [onesF] at ho ⊢
    rw [onesF]
    split at ho
    · cases ho
    · rename_i hc
      rw [if_neg (by omega), if_neg hc, h.2 (a + n) (by omega)]
      rw [h.2 (a + n) (by omega)] at ho
      split at ho
      · rw [if_pos (by assumption), if_pos (by assumption)]
      · rw [if_neg (by assumption), if_neg (by assumption)]
        exact onesF_pre h ha k (n + 1) ho
theorem getR_pre {cs bs : List Int} (h : Pre cs bs) {a : Nat} (ha : a ≤ 8 * cs.length) (k : Int) (hg : (getR cs a k).2.1 = true) : getR bs a k = getR cs a k ∧ (getR cs a k).2.2 ≤ 8 * cs.length := by
  refine ⟨?_, getR_le ha k⟩
  have hl := h.1
  unfold getR at hg ⊢
  split at hg
  · cases hg
  · rename_i hk
    rw [if_neg hk, if_neg hk]
    dsimp only at hg ⊢
    by_cases ho : (onesF cs a (8 * cs.length - a) 24 0).2.1 = false
    · rw [if_pos ho] at hg; cases hg
    · have ho' : (onesF cs a (8 * cs.length - a) 24 0).2.1 = true := by simpa using ho
      have hle := (onesF_le cs a ha 24 24 0 (by omega) (by omega) ho').2.2
      rw [onesF_pre h ha 24 0 ho']
      rw [if_neg ho] at hg
      rw [if_neg ho, if_neg ho]
      generalize onesF cs a (8 * cs.length - a) 24 0 = r at *
      generalize (if r.1 = 24 then 32 else k.toNat) = nn at *
      split at hg
      · cases hg
      · rename_i hc
        rw [if_neg (by omega), if_neg hc, numB_pre h _ (by omega)]
theorem riceO_pre {cs bs : List Int} (h : Pre cs bs) {p : Int} : ∀ {k a : Nat} {q : List Int × Nat}, a ≤ 8 * cs.length → riceO cs p k a = some q → riceO bs p k a = some q ∧ q.2 ≤ 8 * cs.length
  | 0, a, q, ha, hq => by cases hq; exact ⟨rfl, ha⟩
  | k + 1, a, q, ha, hq => by
    rw [riceO] at hq
    split at hq
    · rename_i hg
      obtain ⟨p', hp, rfl⟩ := Option.map_eq_some_iff.mp hq
      obtain ⟨e1, e2⟩ := getR_pre h ha p hg
      obtain ⟨h3, h4⟩ := riceO_pre h e2 hp
      refine ⟨?_, h4⟩
      rw [riceO, e1, if_pos hg, h3]; rfl
    · cases hq
theorem resO_pre {cs bs : List Int} (h : Pre cs bs) {n a : Nat} {q : List Int × Nat} (ha : a ≤ 8 * cs.length) (hq : resO cs n a = some q) : resO bs n a = some q ∧ q.2 ≤ 8 * cs.length := by
  unfold resO at hq ⊢
  obtain ⟨r, hr, hq⟩ := Option.bind_eq_some_iff.mp hq
  obtain ⟨h1, h2⟩ := getO_pre h ha hr
  rw [h1, Option.bind_some]
  split at hq
  · rename_i hc
    rw [if_pos hc]
    exact riceO_pre h h2 hq
  · cases hq
theorem bodyO_pre {cs bs : List Int} (h : Pre cs bs) {kind n : Int} {a : Nat} {q : List Int × Nat} (ha : a ≤ 8 * cs.length) (hq : bodyO cs kind n a = some q) : bodyO bs kind n a = some q ∧ q.2 ≤ 8 * cs.length := by
  unfold bodyO at hq ⊢
  split at hq
  · cases hq
  · rename_i h1
    rw [if_neg h1]
    split at hq
    · rename_i h2
      rw [if_pos h2]
      obtain ⟨r, hr, rfl⟩ := Option.map_eq_some_iff.mp hq
      obtain ⟨e1, e2⟩ := valO_pre h ha hr
      rw [e1]
      exact ⟨rfl, e2⟩
    · rename_i h2
      rw [if_neg h2]
      split at hq
      · rename_i h3
        rw [if_pos h3]
        exact valO_pre h ha hq
      · rename_i h3
        rw [if_neg h3]
        split at hq
        · rename_i h4
          rw [if_pos h4]
          split at hq
          · rename_i h5
            rw [if_pos h5]
            obtain ⟨w, hw, hq⟩ := Option.bind_eq_some_iff.mp hq
            obtain ⟨r, hr, hq⟩ := Option.bind_eq_some_iff.mp hq
            obtain ⟨e1, e2⟩ := valO_pre h ha hw
            obtain ⟨e3, e4⟩ := resO_pre h e2 hr
            rw [e1, Option.bind_some, e3, Option.bind_some]
            split at hq
            · rename_i h6
              rw [if_pos h6]
              cases hq
              exact ⟨rfl, e4⟩
            · cases hq
          · cases hq
        · rename_i h4
          rw [if_neg h4]
          split at hq
          · rename_i h5
            rw [if_pos h5]
            obtain ⟨w, hw, hq⟩ := Option.bind_eq_some_iff.mp hq
            obtain ⟨c, hc, hq⟩ := Option.bind_eq_some_iff.mp hq
            obtain ⟨r, hr, hq⟩ := Option.bind_eq_some_iff.mp hq
            obtain ⟨e1, e2⟩ := valO_pre h ha hw
            obtain ⟨e5, e6⟩ := valO_pre h e2 hc
            obtain ⟨e3, e4⟩ := resO_pre h e6 hr
            rw [e1, Option.bind_some, e5, Option.bind_some, e3, Option.bind_some]
            split at hq
            · rename_i h6
              rw [if_pos h6]
              cases hq
              exact ⟨rfl, e4⟩
            · cases hq
          · cases hq
theorem dec_cut {kind : Int} {xs ds bs : List Int} (ht : tame xs) (hl : 1 ≤ xs.length ∧ xs.length ≤ 64) (hf : frameD kind xs = some ds) (hh : holds bs ds) : decO (bs.take (bs.length - 1)) = none := by
  cases hd : decO (bs.take (bs.length - 1)) with
  | none => rfl
  | some ys =>
    exfalso
    have hp := pre_take (bs := bs) (m := bs.length - 1)
    have hR : Rd bs ds := Rd.of hh
    obtain ⟨r, hr⟩ := frame_head hf
    obtain ⟨g1, g2⟩ := heads_back (frame_kind hf) hl.2 (by rw [← hr]; exact hR)
    unfold decO at hd
    obtain ⟨k1, h1, hd⟩ := Option.bind_eq_some_iff.mp hd
    obtain ⟨k2, h2, hd⟩ := Option.bind_eq_some_iff.mp hd
    obtain ⟨q, h3, hd⟩ := Option.bind_eq_some_iff.mp hd
    obtain ⟨e1, l1⟩ := getO_pre hp (Nat.zero_le _) h1
    rw [g1] at e1
    obtain rfl := Option.some.inj e1
    obtain ⟨e2, l2⟩ := getO_pre hp l1 h2
    dsimp only at e2 h2 h3 l2
    rw [g2] at e2
    obtain rfl := Option.some.inj e2
    obtain ⟨e3, l3⟩ := bodyO_pre hp l2 h3
    dsimp only at e3
    rw [body_back (post := []) ht hl hf (by simpa using hR)] at e3
    obtain rfl := Option.some.inj e3
    dsimp only at l3
    rw [List.length_take] at l3
    have := hh.1
    have := hR.2
    have hlen : 16 ≤ ds.length := by rw [hr, List.length_append, head_len]; omega
    omega
def digsFrom (bs : List Int) (a n : Nat) : List Int := (List.range n).map fun i => digB bs (a + i)
theorem digB_out {bs : List Int} {j : Nat} (h : 8 * bs.length ≤ j) : digB bs j = 0 := by
  unfold digB
  rw [List.getD_eq_getElem?_getD, List.getElem?_eq_none (by omega)]
  unfold digV
  simp
theorem digsFrom_get (bs : List Int) (a n i : Nat) : (digsFrom bs a n).getD i 0 = if i < n then digB bs (a + i) else 0 := by
  unfold digsFrom
  rw [List.getD_eq_getElem?_getD, List.getElem?_map]
  split
  · rw [List.getElem?_range (by assumption)]; rfl
  · rw [List.getElem?_eq_none (by simp; omega)]; rfl
theorem restF_true {bs : List Int} {a : Nat} : ∀ k i : Nat, restF bs a k i = true → ∀ j, i ≤ j → j < i + k → ¬ digB bs (a + j) = 1
  | 0, i, _, j, h1, h2 => by omega
  | k + 1, i, h, j, h1, h2 => by
    rw [restF] at h
    split at h
    · cases h
    · by_cases hj : j = i
      · subst hj; assumption
      · exact restF_true k (i + 1) h j (by omega) (by omega)
theorem dec_more {kind : Int} {xs ds bs zs : List Int} (ht : tame xs) (hl : 1 ≤ xs.length ∧ xs.length ≤ 64) (hf : frameD kind xs = some ds) (hh : holds bs ds) (hz : ∀ v ∈ zs, 0 ≤ v ∧ v < 256) : decO (bs ++ zs) = if zs.all (fun v => v == 0) then some xs else none := by
  have hR := Rd.of hh
  have hfront : ∀ j, j < 8 * bs.length → digB (bs ++ zs) j = digB bs j := fun j hj => by
    unfold digB
    rw [List.getD_eq_getElem?_getD, List.getElem?_append_left (by omega), ← List.getD_eq_getElem?_getD]
  have hlen : (bs ++ zs).length = bs.length + zs.length := List.length_append
  have hR2 : Rd (bs ++ zs) (ds ++ digsFrom (bs ++ zs) ds.length (8 * (bs ++ zs).length - ds.length)) := by
    refine ⟨fun j => ?_, by have := hR.2; rw [List.length_append, digsFrom, List.length_map, List.length_range]; omega⟩
    rw [getD_app]
    split
    · rename_i hj
      rw [hfront j (by have := hR.2; omega)]
      exact hR.1 j
    · rename_i hj
      rw [digsFrom_get]
      split
      · rw [show ds.length + (j - ds.length) = j by omega]
      · exact digB_out (by omega)
  rw [dec_at ht hl hf hR2]
  have hback : ∀ i k, k < 8 → digB (bs ++ zs) (8 * (bs.length + i) + k) = digV (zs.getD i 0) k := fun i k hk => by
    unfold digB
    rw [show (8 * (bs.length + i) + k) / 8 = bs.length + i by omega, show (8 * (bs.length + i) + k) % 8 = k by omega, List.getD_eq_getElem?_getD, List.getElem?_append_right (by omega), show bs.length + i - bs.length = i by omega, ← List.getD_eq_getElem?_getD]
  have hR2' := hR.2
  cases hall : zs.all (fun v => v == 0)
  · simp only [Bool.false_eq_true, if_false]
    refine if_neg fun hr => ?_
    have hno := restF_true _ 0 hr
    obtain ⟨v, hv, hne⟩ := List.all_eq_false.mp hall
    apply hne
    obtain ⟨i, hi, rfl⟩ := List.mem_iff_getElem.mp hv
    have hb := hz _ hv
    have : zs[i] = 0 := byte_ext hb (by omega) fun k hk => by
      have h1 := hno (8 * (bs.length + i) + k - ds.length) (Nat.zero_le _) (by rw [hlen]; omega)
      rw [show ds.length + (8 * (bs.length + i) + k - ds.length) = 8 * (bs.length + i) + k by omega, hback i k hk, getD_lt hi] at h1
      have h2 := digV_le zs[i] k
      have h3 : digV 0 k = 0 := by unfold digV; simp
      rw [h3]; omega
    rw [this]; rfl
  · simp only [if_true]
    refine if_pos ?_
    refine restF_all _ 0 fun j h1 h2 => ?_
    by_cases hj : ds.length + j < 8 * bs.length
    · rw [hfront _ hj, hR.1, getD_out (by omega)]
    · obtain ⟨i, k, hk, hjk⟩ : ∃ i k, k < 8 ∧ ds.length + j = 8 * (bs.length + i) + k := ⟨(ds.length + j) / 8 - bs.length, (ds.length + j) % 8, by omega, by omega⟩
      have hz0 : zs.getD i 0 = 0 := by
        rcases Nat.lt_or_ge i zs.length with h | h
        · have := List.all_eq_true.mp hall _ (getD_mem h)
          exact eq_of_beq this
        · rw [List.getD_eq_getElem?_getD, List.getElem?_eq_none h]; rfl
      rw [hjk, hback i k hk, hz0]
      unfold digV
      simp
end Go.Proofs.YtnjenjbodcihmaaGreat
namespace Go.Proofs.YtnjenjbodcihmaaGreat
open Go Go.Proofs.YtnjenjbodcihmaaGreat.E
set_option linter.unusedVariables false
set_option linter.unusedSimpArgs false
theorem open_back {xs ds bs : List Int} (ht : tame xs) (hl : 1 ≤ xs.length ∧ xs.length ≤ 64) (hd : encD xs = some ds) (hh : holds bs ds) (hb : bs.length ≤ 124) : openO (sealZ bs) = some xs := by
  obtain ⟨kk, hf⟩ := enc_kind hd
  unfold openO
  rw [sealZ_whole hb, if_pos rfl, sealZ_take hb]
  have hz0 : ∀ v ∈ List.replicate (124 - bs.length) (0 : Int), 0 ≤ v ∧ v < 256 := fun v hv => by rw [List.eq_of_mem_replicate hv]; omega
  have hall : (List.replicate (124 - bs.length) (0 : Int)).all (fun v => v == 0) = true := List.all_eq_true.mpr fun v hv => by rw [List.eq_of_mem_replicate hv]; rfl
  rw [dec_more ht hl hf hh hz0, if_pos hall]
end Go.Proofs.YtnjenjbodcihmaaGreat
namespace Go.Proofs.YtnjenjbodcihmaaGreat
open Go Go.Proofs.YtnjenjbodcihmaaGreat.E
set_option linter.unusedVariables false
set_option linter.unusedSimpArgs false
def near (l : List Int) : Prop := ∀ v ∈ l, -300000 ≤ v ∧ v ≤ 300000
theorem near_tame {l : List Int} (h : near l) : tame l := fun v hv => by have := h v hv; omega
def toneV (a b c i k : Int) : Int := if k = 1 then a + b * i else if k = 2 then a + (b * i + c * i * i) else if k = 3 then a + b * (i % 7) else a
theorem toneV_le {a b c : Int} {i : Nat} (ha : -50000 ≤ a ∧ a ≤ 50000) (hb : -1000 ≤ b ∧ b ≤ 1000) (hc : -20 ≤ c ∧ c ≤ 20) (hi : i ≤ 64) (k : Int) : (-64000 ≤ b * (i : Int) ∧ b * (i : Int) ≤ 64000) ∧ (-1280 ≤ c * (i : Int) ∧ c * (i : Int) ≤ 1280) ∧ (-81920 ≤ c * (i : Int) * (i : Int) ∧ c * (i : Int) * (i : Int) ≤ 81920) ∧ (-7000 ≤ b * ((i : Int) % 7) ∧ b * ((i : Int) % 7) ≤ 7000) ∧ -200000 ≤ toneV a b c i k ∧ toneV a b c i k ≤ 200000 := by
  have h1 := prod_le (a := b) (b := (i : Int)) (A := 1000) (B := 64) (by omega) (by omega) (by omega) (by omega)
  have h2 := prod_le (a := c) (b := (i : Int)) (A := 20) (B := 64) (by omega) (by omega) (by omega) (by omega)
  have h3 := prod_le (a := c * (i : Int)) (b := (i : Int)) (A := 1280) (B := 64) (by omega) (by omega) (by omega) (by omega)
  have h4 := prod_le (a := b) (b := (i : Int) % 7) (A := 1000) (B := 7) (by omega) (by omega) (by omega) (by omega)
  unfold toneV
  refine ⟨by omega, by omega, by omega, by omega, ?_⟩
  split
  · omega
  · split
    · omega
    · split <;> omega
theorem tone1 {a b c s2 : Int} {i : Nat} (ha : -50000 ≤ a ∧ a ≤ 50000) (hb : -1000 ≤ b ∧ b ≤ 1000) (hc : -20 ≤ c ∧ c ≤ 20) (hi : i ≤ 64) (h2 : -9223372036854775808 ≤ s2 ∧ s2 ≤ 9223372036854775807) (μ : AMem) :
    ((overdubkeep_Within [.s (.int .i64 s2), .s (.int .i64 4)] μ).bind fun r51 =>
      asI .i64 r51.1 fun n52 =>
      bif (n52 == 1) then
      (some (.normal, [.s (.int .i64 (IntKind.wrap .i64 (a + (IntKind.wrap .i64 (b * (i : Int))))))], r51.2))
      else
      (bif (n52 == 2) then
        (some (.normal, [.s (.int .i64 (IntKind.wrap .i64 (a + (IntKind.wrap .i64 ((IntKind.wrap .i64 (b * (i : Int))) + (IntKind.wrap .i64 ((IntKind.wrap .i64 (c * (i : Int))) * (i : Int))))))))], r51.2))
        else
        (bif (n52 == 3) then
          (some (.normal, [.s (.int .i64 (IntKind.wrap .i64 (a + (IntKind.wrap .i64 (b * (Int.tmod (i : Int) 7))))))], r51.2))
          else
          (some (.normal, [.s (.int .i64 a)], r51.2))))) = (some (.normal, [.s (.int .i64 (toneV a b c i (s2 % 4)))], μ) : Option Res) := by
  have w := within_is s2 4 h2 (by omega) (by omega) μ
  obtain ⟨t1, t2, t3, t4, _⟩ := toneV_le ha hb hc hi 0
  have m7 : Int.tmod (i : Int) 7 = (i : Int) % 7 := Int.tmod_eq_emod_of_nonneg (by omega)
  unfold toneV
  by_cases k1 : s2 % 4 = 1
  · rw [if_pos k1]
    have e : IntKind.wrap .i64 (a + (IntKind.wrap .i64 (b * (i : Int)))) = a + b * (i : Int) := by rw [wr (n := b * (i : Int)) (by omega), wr (by omega)]
    simp -implicitDefEqProofs only [w, eq_t k1, e, ss]
  · by_cases k2 : s2 % 4 = 2
    · rw [if_neg k1, if_pos k2]
      have e : IntKind.wrap .i64 (a + (IntKind.wrap .i64 ((IntKind.wrap .i64 (b * (i : Int))) + (IntKind.wrap .i64 ((IntKind.wrap .i64 (c * (i : Int))) * (i : Int)))))) = a + (b * (i : Int) + c * (i : Int) * (i : Int)) := by
        rw [wr (n := b * (i : Int)) (by omega), wr (n := c * (i : Int)) (by omega), wr (n := c * (i : Int) * (i : Int)) (by omega), wr (n := b * (i : Int) + c * (i : Int) * (i : Int)) (by omega), wr (by omega)]
      simp -implicitDefEqProofs only [w, eq_f k1, eq_t k2, e, ss]
    · by_cases k3 : s2 % 4 = 3
      · rw [if_neg k1, if_neg k2, if_pos k3]
        have e : IntKind.wrap .i64 (a + (IntKind.wrap .i64 (b * (Int.tmod (i : Int) 7)))) = a + b * ((i : Int) % 7) := by rw [m7, wr (n := b * ((i : Int) % 7)) (by omega), wr (by omega)]
        simp -implicitDefEqProofs only [w, eq_f k1, eq_f k2, eq_t k3, e, ss]
      · rw [if_neg k1, if_neg k2, if_neg k3]
        simp -implicitDefEqProofs only [w, eq_f k1, eq_f k2, eq_f k3, ss]
theorem tone_loop {μ0 : AMem} (h0 : WF μ0) {x : SV} {zs : List Int} (hx : IsRow μ0 .i64 x zs) (hz : ∀ v ∈ zs, (Lit.int .i64 v).wf = true) {a b c s2 s3 : Int} {n : Nat} (hn : n ≤ 64) (ha : -50000 ≤ a ∧ a ≤ 50000) (hb : -1000 ≤ b ∧ b ≤ 1000) (hc : -20 ≤ c ∧ c ≤ 20) (h2 : -9223372036854775808 ≤ s2 ∧ s2 ≤ 9223372036854775807) (h3 : 0 ≤ s3 ∧ s3 < 4000) :
    ∀ (k i : Nat) (μ : AMem) (y : SV) (ys : List Int), i + k = n → ys.length = i → near ys → Same μ0 μ → OwnRow μ0.next μ .i64 3 y ys →
      ∃ y' μ' ys', overdublaw08_Tone_L1 [.s x, .s (.int .i64 (n : Int)), .s (.int .i64 s2), .s (.int .i64 s3), .s (.int .i64 a), .s (.int .i64 b), .s (.int .i64 c)] [.s y, .s (.int .i64 (i : Int))] μ = some (.exit 0, [.s y'], μ') ∧ Same μ0 μ' ∧ OwnRow μ0.next μ' .i64 3 y' ys' ∧ ys'.length = n ∧ near ys'
  | 0, i, μ, y, ys, h, hl, ht, hs, hy => by
    refine ⟨y, μ, ys, ?_, hs, hy, by omega, ht⟩
    rw [overdublaw08_Tone_L1_eq, overdublaw08_Tone_L1_B_eq]
    simp -implicitDefEqProofs (disch := omega) only [sw, ss]
  | k + 1, i, μ, y, ys, h, hl, ht, hs, hy => by
    have hx1 := hx.same hs
    have ht1 := tone1 (s2 := s2) ha hb hc (show i ≤ 64 by omega) h2 μ
    obtain ⟨_, _, _, _, hv1, hv2⟩ := toneV_le ha hb hc (show i ≤ 64 by omega) (s2 % 4)
    have c1 := lt_t (show (i : Int) < (n : Int) by omega)
    have ei : IntKind.wrap .i64 ((i : Int) + 1) = ((i + 1 : Nat) : Int) := by rw [wr (by omega)]; rfl
    have hgo : ∀ v : Int, -300000 ≤ v ∧ v ≤ 300000 → ∃ y1 m1 y' μ' ys', (∀ {R : Type} (K : AV → AMem → Option R), appendA 3 1 8 (μ.next + 3) ((μ.bump 5).set (μ.next + 2) (rowObj [.int .i64 v] 1 3 (some 1))) (.s y) (.s (.slice (μ.next + 2) 0 0 1)) K = K (.s y1) m1) ∧
        overdublaw08_Tone_L1 [.s x, .s (.int .i64 (n : Int)), .s (.int .i64 s2), .s (.int .i64 s3), .s (.int .i64 a), .s (.int .i64 b), .s (.int .i64 c)] [.s y1, .s (.int .i64 ((i + 1 : Nat) : Int))] m1 = some (.exit 0, [.s y'], μ') ∧ Same μ0 μ' ∧ OwnRow μ0.next μ' .i64 3 y' ys' ∧ ys'.length = n ∧ near ys' := fun v hv => by
      obtain ⟨y1, m1, p1, p2, p3⟩ := pushS (B := 8) (a := 2) (b := 3) (n := 5) (q := some 1) h0 hs hy v (by omega) (by omega) (by omega) (by omega) (by omega)
      obtain ⟨y', μ', ys', q1, q2⟩ := tone_loop h0 hx hz hn ha hb hc h2 h3 k (i + 1) m1 y1 _ (by omega) (by simp [hl]) (fun u hu => by
        rcases List.mem_append.mp hu with h | h
        · exact ht u h
        · rw [List.mem_singleton.mp h]; exact hv) p2 p3
      exact ⟨y1, m1, y', μ', ys', p1, q1, q2⟩
    by_cases c2 : (i : Int) < (zs.length : Int)
    · by_cases c3 : s3 > 0
      · have w := within_is (zs.getD i 0) s3 (wf64 (hz _ (getD_mem (by omega)))) (by omega) (by omega) μ
        have hm1 := Int.emod_nonneg (zs.getD i 0) (show ¬ s3 = 0 by omega)
        have hm2 := Int.emod_lt_of_pos (zs.getD i 0) (show 0 < s3 by omega)
        obtain ⟨y1, m1, y', μ', ys', p1, q1, q2⟩ := hgo (toneV a b c i (s2 % 4) + zs.getD i 0 % s3) (by omega)
        have ew : IntKind.wrap .i64 (toneV a b c i (s2 % 4) + zs.getD i 0 % s3) = toneV a b c i (s2 % 4) + zs.getD i 0 % s3 := wr (by omega)
        have g1 := fun {R : Type} (K : AV → Option R) => hx1.ind (i := (i : Int)) (by omega) (by omega) K
        have g2 := fun {R : Type} (K : AV → Option R) => hx1.load (i := (i : Int)) (by omega) (by omega) K
        refine ⟨y', μ', ys', ?_, q2⟩
        rw [overdublaw08_Tone_L1_eq, overdublaw08_Tone_L1_B_eq]
        simp -implicitDefEqProofs only [c1, ht1, hx1.len, lt_t c2, gt_t c3, g1, g2, nat_toNat, w, ew, p1, ei, ss]
        exact q1
      · obtain ⟨y1, m1, y', μ', ys', p1, q1, q2⟩ := hgo (toneV a b c i (s2 % 4)) (by omega)
        refine ⟨y', μ', ys', ?_, q2⟩
        rw [overdublaw08_Tone_L1_eq, overdublaw08_Tone_L1_B_eq]
        simp -implicitDefEqProofs only [c1, ht1, hx1.len, lt_t c2, gt_f (show s3 ≤ 0 by omega), p1, ei, ss]
        exact q1
    · obtain ⟨y1, m1, y', μ', ys', p1, q1, q2⟩ := hgo (toneV a b c i (s2 % 4)) (by omega)
      refine ⟨y', μ', ys', ?_, q2⟩
      rw [overdublaw08_Tone_L1_eq, overdublaw08_Tone_L1_B_eq]
      simp -implicitDefEqProofs only [c1, ht1, hx1.len, lt_f (show (zs.length : Int) ≤ (i : Int) by omega), p1, ei, ss]
      exact q1
theorem tone_is {μ : AMem} (h0 : WF μ) {x : SV} {zs : List Int} (hx : IsRow μ .i64 x zs) (hz : ∀ v ∈ zs, (Lit.int .i64 v).wf = true) {n s2 p3 : Int} (hn : -9223372036854775808 ≤ n ∧ n ≤ 9223372036854775807) (h2 : -9223372036854775808 ≤ s2 ∧ s2 ≤ 9223372036854775807) (h3 : -9223372036854775808 ≤ p3 ∧ p3 ≤ 9223372036854775807) :
    ∃ y μ' ys, overdublaw08_Tone [.s x, .s (.int .i64 n), .s (.int .i64 s2), .s (.int .i64 p3)] μ = some (.s y, μ') ∧ Same μ μ' ∧ OwnRow μ.next μ' .i64 3 y ys ∧ ys.length = (n % 65).toNat ∧ near ys := by
  have w1 := within_is n 65 hn (by omega) (by omega) μ
  have w2 := within_is p3 4000 h3 (by omega) (by omega) μ
  have hm1 := Int.emod_nonneg n (show ¬ (65 : Int) = 0 by omega)
  have hm2 := Int.emod_lt_of_pos n (show (0 : Int) < 65 by omega)
  have hp1 := Int.emod_nonneg p3 (show ¬ (4000 : Int) = 0 by omega)
  have hp2 := Int.emod_lt_of_pos p3 (show (0 : Int) < 4000 by omega)
  have hnn : (((n % 65).toNat : Nat) : Int) = n % 65 := by omega
  by_cases c : (zs.length : Int) > 2
  · have g0 := fun {R : Type} (K : AV → Option R) => hx.ind (i := 0) (by omega) (by omega) K
    have l0 := fun {R : Type} (K : AV → Option R) => hx.load (i := 0) (by omega) (by omega) K
    have g1 := fun {R : Type} (K : AV → Option R) => hx.ind (i := 1) (by omega) (by omega) K
    have l1 := fun {R : Type} (K : AV → Option R) => hx.load (i := 1) (by omega) (by omega) K
    have g2 := fun {R : Type} (K : AV → Option R) => hx.ind (i := 2) (by omega) (by omega) K
    have l2 := fun {R : Type} (K : AV → Option R) => hx.load (i := 2) (by omega) (by omega) K
    have e0 : (0 : Int).toNat = 0 := rfl
    have e1 : (1 : Int).toNat = 1 := rfl
    have e2 : (2 : Int).toNat = 2 := rfl
    simp only [e0] at l0
    simp only [e1] at l1
    simp only [e2] at l2
    have v0 := within_is (zs.getD 0 0) 100000 (wf64 (hz _ (getD_mem (by omega)))) (by omega) (by omega) μ
    have v1 := within_is (zs.getD 1 0) 2000 (wf64 (hz _ (getD_mem (by omega)))) (by omega) (by omega) μ
    have v2 := within_is (zs.getD 2 0) 40 (wf64 (hz _ (getD_mem (by omega)))) (by omega) (by omega) μ
    have a1 := Int.emod_nonneg (zs.getD 0 0) (show ¬ (100000 : Int) = 0 by omega)
    have a2 := Int.emod_lt_of_pos (zs.getD 0 0) (show (0 : Int) < 100000 by omega)
    have b1 := Int.emod_nonneg (zs.getD 1 0) (show ¬ (2000 : Int) = 0 by omega)
    have b2 := Int.emod_lt_of_pos (zs.getD 1 0) (show (0 : Int) < 2000 by omega)
    have c1 := Int.emod_nonneg (zs.getD 2 0) (show ¬ (40 : Int) = 0 by omega)
    have c2 := Int.emod_lt_of_pos (zs.getD 2 0) (show (0 : Int) < 40 by omega)
    obtain ⟨y, μ', ys, q1, q2, q3, q4, q5⟩ := tone_loop (s2 := s2) (s3 := p3 % 4000) (n := (n % 65).toNat) (a := zs.getD 0 0 % 100000 - 50000) (b := zs.getD 1 0 % 2000 - 1000) (c := zs.getD 2 0 % 40 - 20) h0 hx hz (by omega) (by omega) (by omega) (by omega) h2 ⟨hp1, hp2⟩ _ 0 μ .nilSlice [] (Nat.zero_add _) rfl (fun _ h => by cases h) (Keep.refl h0) (OwnRow.nil _ _ _ _)
    rw [n0, hnn] at q1
    have x0 : IntKind.wrap .i64 (zs.getD 0 0 % 100000 - 50000) = zs.getD 0 0 % 100000 - 50000 := wr (by omega)
    have x1 : IntKind.wrap .i64 (zs.getD 1 0 % 2000 - 1000) = zs.getD 1 0 % 2000 - 1000 := wr (by omega)
    have x2 : IntKind.wrap .i64 (zs.getD 2 0 % 40 - 20) = zs.getD 2 0 % 40 - 20 := wr (by omega)
    refine ⟨y, μ', ys, ?_, q2, q3, q4, q5⟩
    rw [overdublaw08_Tone_eq]
    simp -implicitDefEqProofs only [w1, w2, hx.len, gt_t c, g0, l0, g1, l1, g2, l2, v0, v1, v2, chk_rfl, chk_true, x0, x1, x2, q1, ss]
  · obtain ⟨y, μ', ys, q1, q2, q3, q4, q5⟩ := tone_loop (s2 := s2) (s3 := p3 % 4000) (n := (n % 65).toNat) (a := 0) (b := 0) (c := 0) h0 hx hz (by omega) (by omega) (by omega) (by omega) h2 ⟨hp1, hp2⟩ _ 0 μ .nilSlice [] (Nat.zero_add _) rfl (fun _ h => by cases h) (Keep.refl h0) (OwnRow.nil _ _ _ _)
    rw [n0, hnn] at q1
    refine ⟨y, μ', ys, ?_, q2, q3, q4, q5⟩
    rw [overdublaw08_Tone_eq]
    simp -implicitDefEqProofs only [w1, w2, hx.len, gt_f (show (zs.length : Int) ≤ 2 by omega), q1, ss]
end Go.Proofs.YtnjenjbodcihmaaGreat
namespace Go.Proofs.YtnjenjbodcihmaaGreat
open Go Go.Proofs.YtnjenjbodcihmaaGreat.E
set_option linter.unusedVariables false
set_option linter.unusedSimpArgs false
theorem same_loop {μ : AMem} {x y : SV} {zs ws : List Int} (hx : IsRow μ .i64 x zs) (hy : IsRow μ .i64 y ws) (hl : zs.length = ws.length) (hb : zs.length ≤ 4611686018427387904) :
    ∀ k i : Nat, i + k = zs.length → overdubkeep_Same_int_L1 [.s x, .s y] [.s (.int .i64 i)] μ = if zs.drop i = ws.drop i then some (.exit 0, [], μ) else some (.ret, [.s (.bool false)], μ)
  | 0, i, h => by
    have h1 : ¬ (i : Int) < (zs.length : Int) := by omega
    rw [overdubkeep_Same_int_L1_eq, overdubkeep_Same_int_L1_B_eq, hx.len]
    rw [List.drop_eq_nil_of_le (by omega), List.drop_eq_nil_of_le (by omega), if_pos rfl]
    simp only [h1, Option.bind_some, decide_true, decide_false, cond_true, cond_false, seqJ_n, seqJ_r, seqJ_e, headK_c, asB_bool, asI_int, asS_s, asN_int, Bool.not_true, Bool.not_false, Nat.beq_refl]
  | k + 1, i, h => by
    have ih := same_loop hx hy hl hb k (i + 1) (by omega)
    have h1 : (i : Int) < (zs.length : Int) := by omega
    have e1 : IntKind.wrap .i64 ((i : Int) + 1) = ((i + 1 : Nat) : Int) := by rw [wr (by omega)]; omega
    have e3 : (((i : Nat) : Int)).toNat = i := by omega
    have hi : i < zs.length := by omega
    have hi2 : i < ws.length := by omega
    rw [overdubkeep_Same_int_L1_eq, overdubkeep_Same_int_L1_B_eq, hx.len]
    simp only [h1, Option.bind_some, decide_true, decide_false, cond_true, cond_false, seqJ_n, seqJ_r, seqJ_e, headK_c, asB_bool, asI_int, asS_s, asN_int, Bool.not_true, Bool.not_false, Nat.beq_refl]
    rw [hx.ind (by omega) h1, hx.load (by omega) h1, asI_int, hy.ind (by omega) (by omega), hy.load (by omega) (by omega), asI_int, e3]
    rw [List.drop_eq_getElem_cons hi, List.drop_eq_getElem_cons hi2]
    have g1 : zs.getD i 0 = zs[i] := by rw [List.getD_eq_getElem?_getD, List.getElem?_eq_getElem hi]; rfl
    have g2 : ws.getD i 0 = ws[i] := by rw [List.getD_eq_getElem?_getD, List.getElem?_eq_getElem hi2]; rfl
    rw [g1, g2]
    by_cases he : zs[i] = ws[i]
    · have hb1 : (zs[i] != ws[i]) = false := by simp [he]
      have hb2 : (ws[i] != ws[i]) = false := by simp
      simp only [hb2, e1, he, List.cons.injEq, true_and, Option.bind_some, decide_true, decide_false, cond_true, cond_false, seqJ_n, seqJ_r, seqJ_e, headK_c, asB_bool, asI_int, asS_s, asN_int, Bool.not_true, Bool.not_false, Nat.beq_refl]
      exact ih
    · have hb1 : (zs[i] != ws[i]) = true := by simp [he]
      simp only [hb1, he, List.cons.injEq, false_and, if_false, Option.bind_some, decide_true, decide_false, cond_true, cond_false, seqJ_n, seqJ_r, seqJ_e, headK_c, asB_bool, asI_int, asS_s, asN_int, Bool.not_true, Bool.not_false, Nat.beq_refl]
theorem same_is {μ : AMem} {x y : SV} {zs ws : List Int} (hx : IsRow μ .i64 x zs) (hy : IsRow μ .i64 y ws) (hb : zs.length ≤ 4611686018427387904) :
    overdubkeep_Same_int [.s x, .s y] μ = some (.s (.bool (decide (zs = ws))), μ) := by
  rw [overdubkeep_Same_int_eq, hx.len, hy.len]
  by_cases hl : zs.length = ws.length
  · have h1 : ((zs.length : Int) != (ws.length : Int)) = false := by simp [hl]
    have := same_loop hx hy hl hb _ 0 (Nat.zero_add _)
    simp only [h1, Option.bind_some, decide_true, decide_false, cond_true, cond_false, seqJ_n, seqJ_r, seqJ_e, headK_c, asB_bool, asI_int, asS_s, asN_int, Bool.not_true, Bool.not_false, Nat.beq_refl]
    rw [show overdubkeep_Same_int_L1 [.s x, .s y] [.s (.int .i64 0)] μ = _ from this]
    simp only [List.drop_zero]
    by_cases he : zs = ws
    · simp only [he, if_true, Option.bind_some, decide_true, decide_false, cond_true, cond_false, seqJ_n, seqJ_r, seqJ_e, headK_c, asB_bool, asI_int, asS_s, asN_int, Bool.not_true, Bool.not_false, Nat.beq_refl]
    · simp only [he, if_false, Option.bind_some, decide_true, decide_false, cond_true, cond_false, seqJ_n, seqJ_r, seqJ_e, headK_c, asB_bool, asI_int, asS_s, asN_int, Bool.not_true, Bool.not_false, Nat.beq_refl]
  · have h1 : ((zs.length : Int) != (ws.length : Int)) = true := by simp; omega
    have he : ¬ zs = ws := fun h => hl (by rw [h])
    simp only [h1, he, Option.bind_some, decide_true, decide_false, cond_true, cond_false, seqJ_n, seqJ_r, seqJ_e, headK_c, asB_bool, asI_int, asS_s, asN_int, Bool.not_true, Bool.not_false, Nat.beq_refl]
end Go.Proofs.YtnjenjbodcihmaaGreat
namespace Go.Proofs.YtnjenjbodcihmaaGreat
open Go Go.Proofs.YtnjenjbodcihmaaGreat.E
set_option linter.unusedVariables false
set_option linter.unusedSimpArgs false
def IsRecs (μ : AMem) (k : IntKind) (m : Nat) (x : SV) (zs : List Int) (len : Nat) : Prop :=
  zs.length = len * m ∧ ((x = .nilSlice ∧ len = 0) ∨ ∃ id ver off o, x = .slice id ver off len ∧ μ.obj id = some o ∧ o.ver = ver ∧ ∀ (i : Nat) n, zs[i]? = some n → o.cells[off + i]? = some (.int k n))
def plcR (m : Nat) (x : SV) (i : Int) : AV :=
  match x with
  | .slice id ver off _ => .s (.ptr id ver (off + i.toNat * m))
  | _ => .unk
def plcF (m : Nat) (x : SV) (i : Int) (f : Nat) : AV :=
  match x with
  | .slice id ver off _ => .s (.ptr id ver (off + i.toNat * m + f))
  | _ => .unk
theorem IsRecs.lenS {μ : AMem} {k : IntKind} {m : Nat} {x : SV} {zs : List Int} {len : Nat} (h : IsRecs μ k m x zs len) : lenS (.s x) = some len := by
  rcases h with ⟨_, ⟨rfl, rfl⟩ | ⟨id, ver, off, o, rfl, _⟩⟩ <;> rfl
theorem IsRecs.ind {μ : AMem} {k : IntKind} {m : Nat} {x : SV} {zs : List Int} {len : Nat} (h : IsRecs μ k m x zs len) {i : Int} (h0 : 0 ≤ i) (h1 : i < len) {R : Type} (K : AV → Option R) : indS m (.s x) i K = K (plcR m x i) := by
  rcases h with ⟨_, ⟨rfl, rfl⟩ | ⟨id, ver, off, o, rfl, _⟩⟩
  · omega
  · simp [indS, plcR, h0, h1]
theorem IsRecs.add {μ : AMem} {k : IntKind} {m : Nat} {x : SV} {zs : List Int} {len : Nat} (h : IsRecs μ k m x zs len) {i : Int} (h0 : 0 ≤ i) (h1 : i < len) (f : Nat) {R : Type} (K : AV → Option R) : ptrAdd f (plcR m x i) K = K (plcF m x i f) := by
  rcases h with ⟨_, ⟨rfl, rfl⟩ | ⟨id, ver, off, o, rfl, _⟩⟩
  · omega
  · rfl
theorem IsRecs.load {μ : AMem} {k : IntKind} {m : Nat} {x : SV} {zs : List Int} {len : Nat} (h : IsRecs μ k m x zs len) {i : Nat} (h1 : i < len) {f : Nat} (hf : f < m) {R : Type} (K : AV → Option R) : loadAt μ (plcF m x (i : Int) f) K = K (.s (.int k (zs.getD (i * m + f) 0))) := by
  obtain ⟨hl, ⟨rfl, rfl⟩ | ⟨id, ver, off, o, rfl, ho, hv, hc⟩⟩ := h
  · omega
  · have hlt : i * m + f < zs.length := by
      rw [hl]
      calc i * m + f < i * m + m := by omega
        _ = (i + 1) * m := by rw [Nat.add_mul]; simp
        _ ≤ len * m := Nat.mul_le_mul_right _ (by omega)
    have hg := hc (i * m + f) _ (List.getElem?_eq_getElem hlt)
    have e : off + ((i : Nat) : Int).toNat * m + f = off + (i * m + f) := by rw [nat_toNat, Nat.add_assoc]
    simp only [plcF, loadAt, AMem.cell, ho, Option.bind_some, hv, if_true, e, hg]
    rw [List.getD_eq_getElem?_getD, List.getElem?_eq_getElem hlt]; rfl
theorem IsRecs.same {μ μ' : AMem} {k : IntKind} {m : Nat} {x : SV} {zs : List Int} {len : Nat} (h : IsRecs μ k m x zs len) (hs : Same μ μ') : IsRecs μ' k m x zs len := by
  obtain ⟨hl, h0 | ⟨id, ver, off, o, rfl, ho, r⟩⟩ := h
  · exact ⟨hl, .inl h0⟩
  · exact ⟨hl, .inr ⟨id, ver, off, o, rfl, hs.old id o ho fun h => h, r⟩⟩
theorem IsRecs.wf {μ : AMem} {k : IntKind} {m : Nat} {x : SV} {zs : List Int} {len : Nat} (h : IsRecs μ k m x zs len) (hz : ∀ n ∈ zs, (Lit.int k n).wf = true) {i : Nat} (h1 : i < len) {f : Nat} (hf : f < m) : (Lit.int k (zs.getD (i * m + f) 0)).wf = true := by
  have hlt : i * m + f < zs.length := by
    rw [h.1]
    calc i * m + f < i * m + m := by omega
      _ = (i + 1) * m := by rw [Nat.add_mul]; simp
      _ ≤ len * m := Nat.mul_le_mul_right _ (by omega)
  rw [getD_lt hlt]
  exact hz _ (List.getElem_mem hlt)
theorem IsRecs.arg {k : IntKind} {m : Nat} {zs : List Int} {len : Nat} {l : List Arg} {j : Nat} {a : Arg} (h : Arg.isRecs k zs len a) (hq : zs.length = len * m) (hj : l[j]? = some a) : ∃ x, a.val j = .s x ∧ IsRecs (argMem l) k m x zs len := by
  cases a with
  | nil =>
    obtain ⟨rfl, rfl⟩ := h
    exact ⟨.nilSlice, rfl, hq, .inl ⟨rfl, rfl⟩⟩
  | rs k' zs' len' =>
    obtain ⟨rfl, rfl, rfl⟩ := h
    exact ⟨_, rfl, hq, .inr ⟨j, 0, 0, rowA (zs'.map (.int k')), rfl, by simp [argMem, hj, Arg.obj], rfl, fun i n hi => by rw [Nat.zero_add]; simp [rowA, hi]⟩⟩
  | _ => exact h.elim
end Go.Proofs.YtnjenjbodcihmaaGreat
namespace Go.Proofs.YtnjenjbodcihmaaGreat
open Go Go.Proofs.YtnjenjbodcihmaaGreat.E
set_option linter.unusedVariables false
set_option linter.unusedSimpArgs false
theorem set_set (μ : AMem) (i : Nat) (o o' : AObj) : (μ.set i o).set i o' = μ.set i o' := by
  unfold AMem.set
  congr 1
  funext j
  dsimp only
  split <;> rfl
theorem box3 {R : Type} (M : AMem) (i T : Nat) (q : Option Nat) (z1 z2 z3 a b c : SV) (K : AMem → Option R) :
    storeAt 3 (M.set i (rowObj [z1, z2, z3] 3 T q)) (.s (.ptr i 0 0)) (.agg [a, b, c]) K = K (M.set i (rowObj [a, b, c] 3 T q)) := by
  simp only [storeAt, AV.cells, List.length_cons, List.length_nil, AMem.store, set_self, Option.bind_some, rowObj, if_true, true_and, Nat.zero_add]
  rw [if_pos (Nat.le_refl _), Option.bind_some, set_set]
  rfl
theorem box3_0 (M : AMem) (i T : Nat) (q : Option Nat) (a b c : SV) : (M.set i (rowObj [a, b, c] 3 T q)).cell i 0 (0 + 0) = some a := by
  simp [AMem.cell, rowObj]
theorem box3_1 (M : AMem) (i T : Nat) (q : Option Nat) (a b c : SV) : (M.set i (rowObj [a, b, c] 3 T q)).cell i 0 (0 + 1) = some b := by
  simp [AMem.cell, rowObj]
theorem box3_2 (M : AMem) (i T : Nat) (q : Option Nat) (a b c : SV) : (M.set i (rowObj [a, b, c] 3 T q)).cell i 0 (0 + 2) = some c := by
  simp [AMem.cell, rowObj]
theorem loadN3 {μ : AMem} {id ver off : Nat} {a b c : SV} (h0 : μ.cell id ver off = some a) (h1 : μ.cell id ver (off + 1) = some b) (h2 : μ.cell id ver (off + 2) = some c) : μ.loadN id ver off 3 = some [a, b, c] := by
  simp only [AMem.loadN, h0, h1, h2, Option.bind_some, Option.map_some]
theorem rec3 {μ : AMem} {k : IntKind} {x : SV} {zs : List Int} {len : Nat} (h : IsRecs μ k 3 x zs len) {i : Nat} (h1 : i < len) {R : Type} (K : AV → Option R) :
    loadsAt μ 3 (plcR 3 x (i : Int)) K = K (.agg [.int k (zs.getD (i * 3 + 0) 0), .int k (zs.getD (i * 3 + 1) 0), .int k (zs.getD (i * 3 + 2) 0)]) := by
  obtain ⟨hl, ⟨rfl, rfl⟩ | ⟨id, ver, off, o, rfl, ho, hv, hc⟩⟩ := h
  · omega
  · have hg : ∀ f, f < 3 → μ.cell id ver (off + i * 3 + f) = some (.int k (zs.getD (i * 3 + f) 0)) := fun f hf => by
      have hlt : i * 3 + f < zs.length := by omega
      have := hc _ _ (List.getElem?_eq_getElem hlt)
      simp only [AMem.cell, ho, Option.bind_some, hv, if_true, Nat.add_assoc, this, getD_lt hlt]
    have e0 := hg 0 (by omega)
    have e1 := hg 1 (by omega)
    have e2 := hg 2 (by omega)
    rw [Nat.add_zero] at e0
    simp only [loadsAt, plcR, nat_toNat, loadN3 e0 e1 e2, Option.bind_some]
end Go.Proofs.YtnjenjbodcihmaaGreat
namespace Go.Proofs.YtnjenjbodcihmaaGreat
open Go Go.Proofs.YtnjenjbodcihmaaGreat.E
set_option linter.unusedVariables false
set_option linter.unusedSimpArgs false
def IsActs (μ : AMem) (x : SV) (len : Nat) : Prop :=
  (x = .nilSlice ∧ len = 0) ∨ ∃ id o, x = .slice id 0 0 len ∧ μ.obj id = some o ∧ o.ver = 0 ∧ ∀ i, i < len → ∃ d n r zs, o.cells[i * 3 + 0]? = some (.int .i64 d) ∧ o.cells[i * 3 + 1]? = some (.int .i64 n) ∧ o.cells[i * 3 + 2]? = some r ∧
    (Lit.int .i64 d).wf = true ∧ (Lit.int .i64 n).wf = true ∧ IsRow μ .i64 r zs ∧ ∀ v ∈ zs, (Lit.int .i64 v).wf = true
theorem IsActs.lenS {μ : AMem} {x : SV} {len : Nat} (h : IsActs μ x len) : lenS (.s x) = some len := by
  rcases h with ⟨rfl, rfl⟩ | ⟨id, o, rfl, _⟩ <;> rfl
theorem IsActs.ind {μ : AMem} {x : SV} {len : Nat} (h : IsActs μ x len) {i : Int} (h0 : 0 ≤ i) (h1 : i < len) {R : Type} (K : AV → Option R) : indS 3 (.s x) i K = K (plcR 3 x i) := by
  rcases h with ⟨rfl, rfl⟩ | ⟨id, o, rfl, _⟩
  · omega
  · simp [indS, plcR, h0, h1]
theorem IsActs.act {μ : AMem} {x : SV} {len : Nat} (h : IsActs μ x len) {i : Nat} (h1 : i < len) :
    ∃ d n r zs, (∀ {R : Type} (μ' : AMem) (K : AV → Option R), Same μ μ' → loadsAt μ' 3 (plcR 3 x (i : Int)) K = K (.agg [.int .i64 d, .int .i64 n, r])) ∧ (Lit.int .i64 d).wf = true ∧ (Lit.int .i64 n).wf = true ∧ IsRow μ .i64 r zs ∧ ∀ v ∈ zs, (Lit.int .i64 v).wf = true := by
  rcases h with ⟨rfl, rfl⟩ | ⟨id, o, rfl, ho, hv, hc⟩
  · omega
  · obtain ⟨d, n, r, zs, c0, c1, c2, w1, w2, hr, hz⟩ := hc i h1
    refine ⟨d, n, r, zs, fun {R} μ' K hs => ?_, w1, w2, hr, hz⟩
    have ho' := hs.old id o ho fun h => h
    have e0 : μ'.cell id 0 (0 + i * 3) = some (.int .i64 d) := by
      rw [Nat.add_zero] at c0
      simp only [AMem.cell, ho', Option.bind_some, hv, if_true, Nat.zero_add, c0]
    have e1 : μ'.cell id 0 (0 + i * 3 + 1) = some (.int .i64 n) := by
      simp only [AMem.cell, ho', Option.bind_some, hv, if_true, Nat.zero_add, c1]
    have e2 : μ'.cell id 0 (0 + i * 3 + 2) = some r := by
      simp only [AMem.cell, ho', Option.bind_some, hv, if_true, Nat.zero_add, c2]
    simp only [loadsAt, plcR, nat_toNat, loadN3 e0 e1 e2, Option.bind_some]
theorem IsActs.same {μ μ' : AMem} {x : SV} {len : Nat} (h : IsActs μ x len) (hs : Same μ μ') : IsActs μ' x len := by
  rcases h with h0 | ⟨id, o, rfl, ho, hv, hc⟩
  · exact .inl h0
  · refine .inr ⟨id, o, rfl, hs.old id o ho fun h => h, hv, fun i hi => ?_⟩
    obtain ⟨d, n, r, zs, c0, c1, c2, w1, w2, hr, hz⟩ := hc i hi
    exact ⟨d, n, r, zs, c0, c1, c2, w1, w2, hr.same hs, hz⟩
theorem inner_row {al : List ArgN} {j q : Nat} {cs : List Cell} {len : Nat} (ha : al[j]? = some (.recs cs len)) {c : Cell} (hq : cs[q]? = some c) {k : IntKind} (hc : CellOK (.r k) c) :
    ∃ zs, IsRow (argMemN al) k (c.sv (al.length + before al j + q)) zs ∧ ∀ n ∈ zs, (Lit.int k n).wf = true := by
  rcases hc with rfl | ⟨zs, rfl, hz, _⟩
  · exact ⟨[], .inl ⟨rfl, rfl⟩, fun n hn => by cases hn⟩
  · refine ⟨zs, ?_, hz⟩
    have hi := inner_get al j (.recs cs len) q _ ha hq
    have ho : (argMemN al).obj (al.length + (before al j + q)) = some (rowA (zs.map (.int k))) := by
      rw [objN_inner, hi]; rfl
    rw [← Nat.add_assoc] at ho
    exact IsRow.made ho (by simp) rfl rfl
theorem IsActs.arg {al : List ArgN} {j : Nat} {a : ArgN} {cs : List Cell} {len : Nat} (h : ArgN.isRecs cs len a) (hq : CellsOK [.i .i64, .i .i64, .r .i64] cs len) (hj : al[j]? = some a) : ∃ x, a.val j = .s x ∧ IsActs (argMemN al) x len := by
  cases a with
  | cell c =>
    obtain ⟨rfl, rfl, rfl⟩ := h
    exact ⟨.nilSlice, rfl, .inl ⟨rfl, rfl⟩⟩
  | recs cs' len' =>
    obtain ⟨rfl, rfl⟩ := h
    refine ⟨_, rfl, .inr ⟨j, rowA (cellsAt (al.length + before al j) cs'), rfl, by rw [objN_arg hj]; rfl, rfl, fun i hi => ?_⟩⟩
    have each := hq.2 i
    obtain ⟨c0, h0, d, rfl, w0⟩ := each 0 hi (.i .i64) rfl
    obtain ⟨c1, h1, n, rfl, w1⟩ := each 1 hi (.i .i64) rfl
    obtain ⟨c2, h2, hr⟩ := each 2 hi (.r .i64) rfl
    obtain ⟨zs, hrow, hz⟩ := inner_row hj h2 hr
    have g : ∀ (q : Nat) (c : Cell), cs'[q]? = some c → (rowA (cellsAt (al.length + before al j) cs')).cells[q]? = some (c.sv (al.length + before al j + q)) := fun q c hc => by
      show (cellsAt _ _)[q]? = _
      rw [cellsAt_get, hc]; rfl
    exact ⟨d, n, _, zs, g _ _ h0, g _ _ h1, g _ _ h2, w0, w1, hrow, hz⟩
end Go.Proofs.YtnjenjbodcihmaaGreat
namespace Go.Proofs.YtnjenjbodcihmaaGreat
open Go Go.Proofs.YtnjenjbodcihmaaGreat.E
set_option linter.unusedVariables false
set_option linter.unusedSimpArgs false
def IsRR (k : IntKind) (μ : AMem) (x : SV) (len : Nat) : Prop :=
  ∃ cs, IsV μ 1 x len cs ∧ ∀ (i : Nat) r, cs[i]? = some r → ∃ zs, IsRow μ k r zs ∧ ∀ v ∈ zs, (Lit.int k v).wf = true
theorem IsRR.same {k : IntKind} {μ μ' : AMem} {x : SV} {len : Nat} (h : IsRR k μ x len) (hs : Same μ μ') : IsRR k μ' x len := by
  obtain ⟨cs, h1, h2⟩ := h
  exact ⟨cs, h1.same hs, fun i r hi => let ⟨zs, a, b⟩ := h2 i r hi; ⟨zs, a.same hs, b⟩⟩
theorem IsRR.lenS {k : IntKind} {μ : AMem} {x : SV} {len : Nat} (h : IsRR k μ x len) : lenS (.s x) = some len := by
  obtain ⟨cs, h1, h2⟩ := h
  exact h1.lenS
theorem IsRR.at {k : IntKind} {μ : AMem} {x : SV} {len : Nat} (h : IsRR k μ x len) {i : Nat} (hi : i < len) :
    ∃ r zs, (∀ {R : Type} (K : AV → Option R), indS 1 (.s x) (i : Int) K = K (plcN 1 x i)) ∧ (∀ {R : Type} (μ' : AMem) (K : AV → Option R), Same μ μ' → loadAt μ' (plcN 1 x i) K = K (.s r)) ∧ IsRow μ k r zs ∧ ∀ v ∈ zs, (Lit.int k v).wf = true := by
  obtain ⟨cs, h1, h2⟩ := h
  have hl := h1.clen
  have hc : cs[i]? = some (cs[i]'(by omega)) := List.getElem?_eq_getElem (by omega)
  obtain ⟨zs, hr, hz⟩ := h2 i _ hc
  exact ⟨_, zs, fun K => h1.ind hi K, fun μ' K hs => (h1.same hs).load hc K, hr, hz⟩
theorem IsRR.arg {k : IntKind} {al : List ArgN} {j : Nat} {a : ArgN} {cs : List Cell} {len : Nat} (h : ArgN.isRecs cs len a) (hq : CellsOK [.r k] cs len) (hj : al[j]? = some a) : ∃ x, a.val j = .s x ∧ IsRR k (argMemN al) x len := by
  cases a with
  | cell c =>
    obtain ⟨rfl, rfl, rfl⟩ := h
    exact ⟨.nilSlice, rfl, [], .inl ⟨rfl, rfl, rfl⟩, fun i r hi => by simp at hi⟩
  | recs cs' len' =>
    obtain ⟨rfl, rfl⟩ := h
    have hlen : cs'.length = len' * 1 := hq.1
    have hcl : (cellsAt (al.length + before al j) cs').length = len' * 1 := by
      rw [← hlen]
      have : ∀ (n : Nat), (cellsAt n cs').length = cs'.length := fun n => by
        apply Nat.le_antisymm
        · apply Nat.le_of_not_lt
          intro hlt
          have := cellsAt_get cs' n cs'.length
          rw [List.getElem?_eq_none (Nat.le_refl _), List.getElem?_eq_getElem hlt] at this
          cases this
        · apply Nat.le_of_not_lt
          intro hlt
          have := cellsAt_get cs' n (cellsAt n cs').length
          rw [List.getElem?_eq_none (Nat.le_refl _), List.getElem?_eq_getElem hlt] at this
          cases this
      exact this _
    refine ⟨_, rfl, cellsAt (al.length + before al j) cs', .inr ⟨j, 0, 0, rowA (cellsAt (al.length + before al j) cs'), rfl, by rw [objN_arg hj]; rfl, rfl, hcl, by show 0 + len' * 1 ≤ (cellsAt _ _).length; omega, fun i v hi => by rw [Nat.zero_add]; exact hi⟩, fun i r hi => ?_⟩
    rw [cellsAt_get] at hi
    obtain ⟨c, hc, rfl⟩ := Option.map_eq_some_iff.mp hi
    have hil : i < len' := by
      have := (List.getElem?_eq_some_iff.mp hc).1
      omega
    obtain ⟨c', h1, h2⟩ := hq.2 i 0 hil (.r k) rfl
    simp only [List.length_singleton, Nat.mul_one, Nat.add_zero] at h1
    rw [hc] at h1
    obtain rfl := Option.some.inj h1
    exact inner_row hj hc h2
end Go.Proofs.YtnjenjbodcihmaaGreat
