/- What Samples comes to. -/
import Derived.Test.YtchapaejdgnihaaKWithin
namespace Go.Proofs.Ytchapaejdgnihaa
open Go Go.Proofs.Ytchapaejdgnihaa.E
set_option linter.unusedVariables false
set_option linter.unusedSimpArgs false
def sampleZ (wild : Bool) (v : Int) : Int :=
  if !wild || Int.tmod v 5 != 4 then (if -8388608 ≤ v ∧ v ≤ 8388607 then v else -8388608 + IntKind.wrap .i64 (v - (-8388608)) % 16777216) else v
theorem samples_loop {μ0 : AMem} (h0 : WF μ0) {x : SV} {zs : List Int} {n : Nat} {wild : Bool} (hx : IsRow μ0 .i64 x zs) (hz : ∀ v ∈ zs, (Lit.int .i64 v).wf = true) (hn : n ≤ 1000000) :
    ∀ (k i : Nat) (μ : AMem) (y : SV), i + k = min n zs.length → Same μ0 μ → OwnRow μ0.next μ .i64 3 y ((zs.take i).map (sampleZ wild)) →
      ∃ y' μ', overdubkeep_Samples_L1 [.s x, .s (.int .i64 n), .s (.bool wild)] [.s y, .s (.int .i64 i)] μ = some (.exit 0, [.s y'], μ') ∧ Same μ0 μ' ∧ OwnRow μ0.next μ' .i64 3 y' ((zs.take n).map (sampleZ wild))
  | 0, i, μ, y, h, hs, hy => by
    rw [overdubkeep_Samples_L1_eq, overdubkeep_Samples_L1_B_eq, (hx.same hs).len]
    have hi : zs.take i = zs.take n := by
      rcases Nat.le_total n zs.length with hl | hl
      · congr 1; omega
      · rw [List.take_of_length_le hl, List.take_of_length_le (by omega)]
    rw [hi] at hy
    by_cases h1 : (i : Int) < (zs.length : Int)
    · have h2 : ¬ (i : Int) < (n : Int) := by omega
      simp only [h1, h2, Option.bind_some, decide_true, decide_false, cond_true, cond_false, seqJ_n, seqJ_r, seqJ_e, headK_c, asB_bool, asI_int, asS_s, asN_int, Bool.not_true, Bool.not_false, Nat.beq_refl]
      exact ⟨y, μ, rfl, hs, hy⟩
    · simp only [h1, Option.bind_some, decide_true, decide_false, cond_true, cond_false, seqJ_n, seqJ_r, seqJ_e, headK_c, asB_bool, asI_int, asS_s, asN_int, Bool.not_true, Bool.not_false, Nat.beq_refl]
      exact ⟨y, μ, rfl, hs, hy⟩
  | k + 1, i, μ, y, h, hs, hy => by
    have hx' := hx.same hs
    have h1 : (i : Int) < (zs.length : Int) := by omega
    have h2 : (i : Int) < (n : Int) := by omega
    have e1 : IntKind.wrap .i64 ((i : Int) + 1) = ((i + 1 : Nat) : Int) := by rw [wr (by omega)]; omega
    have e3 : (((i : Nat) : Int)).toNat = i := by omega
    have hi : i < zs.length := by omega
    have g1 : zs.getD i 0 = zs[i] := by rw [List.getD_eq_getElem?_getD, List.getElem?_eq_getElem hi]; rfl
    have hv := wf64 (hz _ (List.getElem_mem hi))
    have htake : (zs.take (i + 1)).map (sampleZ wild) = (zs.take i).map (sampleZ wild) ++ [sampleZ wild zs[i]] := by
      rw [List.take_add_one, List.getElem?_eq_getElem hi, List.map_append]; rfl
    have hlen : ((zs.take i).map (sampleZ wild)).length = i := by simp; omega
    obtain ⟨y', μ', p1, p2, p3, p4, p5, p6⟩ := OwnRow.push (B := 8) (a := 2) (b := 3) (n := 5) (q := some 1) hs.wf hy (sampleZ wild zs[i]) (by omega) (by rw [hlen]; omega) hs.next (by omega) (by omega) (by omega)
    rw [← htake] at p2
    have ih := samples_loop h0 hx hz hn k (i + 1) μ' y' (by omega) (Same.push h0 hs hy p3 p4 p5) p2
    rw [overdubkeep_Samples_L1_eq, overdubkeep_Samples_L1_B_eq, hx'.len]
    simp only [h1, h2, Option.bind_some, decide_true, decide_false, cond_true, cond_false, seqJ_n, seqJ_r, seqJ_e, headK_c, asB_bool, asI_int, asS_s, asN_int, Bool.not_true, Bool.not_false, Nat.beq_refl]
    rw [hx'.ind (by omega) h1, hx'.load (by omega) h1, asI_int, e3, g1]
    generalize hvv : zs[i] = v at *
    have hwr : -9223372036854775808 ≤ IntKind.wrap .i64 (v - (-8388608)) ∧ IntKind.wrap .i64 (v - (-8388608)) ≤ 9223372036854775807 := by rw [IntKind.wrap_i64]; omega
    have hw := within_is (IntKind.wrap .i64 (v - (-8388608))) 16777216 hwr (by omega) (by omega) μ
    have fin : ∀ u, u = sampleZ wild v → (appendA 3 1 8 (μ.next + 3) ((μ.bump 5).set (μ.next + 2) (rowObj [.int .i64 u] 1 3 (some 1))) (.s y) (.s (.slice (μ.next + 2) 0 0 1)) fun x63 m64 =>
        asS x63 fun x65 => some (AExit.normal, [AV.s x65, .s (.int .i64 (IntKind.wrap .i64 ((i : Int) + 1)))], m64)) = some (.normal, [.s y', .s (.int .i64 ((i + 1 : Nat) : Int))], μ') := by
      intro u hu; subst hu; rw [p1, asS_s, e1]
    have inner : ∀ m : AMem, m = μ → (overdubkeep_Within [.s (.int .i64 (IntKind.wrap .i64 (v - (-8388608)))), .s (.int .i64 16777216)] m) = some (.s (.int .i64 (IntKind.wrap .i64 (v - (-8388608)) % 16777216)), μ) := fun m hm => by rw [hm]; exact hw
    have hsamp : sampleZ wild v = if !wild || Int.tmod v 5 != 4 then (if -8388608 ≤ v ∧ v ≤ 8388607 then v else -8388608 + IntKind.wrap .i64 (v - (-8388608)) % 16777216) else v := rfl
    have hadd : IntKind.wrap .i64 (-8388608 + IntKind.wrap .i64 (v - (-8388608)) % 16777216) = -8388608 + IntKind.wrap .i64 (v - (-8388608)) % 16777216 := wr (by omega)
    cases wild
    all_goals simp only [Bool.not_true, Bool.not_false, Bool.true_or, Bool.false_or, if_true] at hsamp
    · simp only [inner μ rfl, Option.bind_some, decide_true, decide_false, cond_true, cond_false, seqJ_n, seqJ_r, seqJ_e, headK_c, asB_bool, asI_int, asS_s, asN_int, Bool.not_true, Bool.not_false, Nat.beq_refl]
      rw [hx'.ind (by omega) h1, hx'.load (by omega) h1, asI_int, e3, g1]
      by_cases c1 : v ≥ -8388608
      · rw [hx'.ind (by omega) h1, hx'.load (by omega) h1, asI_int, e3, g1]
        by_cases c2 : v ≤ 8388607
        · simp only [c1, c2, Option.bind_some, decide_true, decide_false, cond_true, cond_false, seqJ_n, seqJ_r, seqJ_e, headK_c, asB_bool, asI_int, asS_s, asN_int, Bool.not_true, Bool.not_false, Nat.beq_refl]
          rw [hx'.ind (by omega) h1, hx'.load (by omega) h1, asI_int, e3, g1]
          simp only [Option.bind_some, decide_true, decide_false, cond_true, cond_false, seqJ_n, seqJ_r, seqJ_e, headK_c, asB_bool, asI_int, asS_s, asN_int, Bool.not_true, Bool.not_false, Nat.beq_refl]
          rw [fin v (by rw [hsamp, if_pos (by omega)])]
          exact ih
        · simp only [c1, c2, hadd, Option.bind_some, decide_true, decide_false, cond_true, cond_false, seqJ_n, seqJ_r, seqJ_e, headK_c, asB_bool, asI_int, asS_s, asN_int, Bool.not_true, Bool.not_false, Nat.beq_refl]
          rw [fin _ (by rw [hsamp, if_neg (by omega)])]
          exact ih
      · simp only [c1, hadd, Option.bind_some, decide_true, decide_false, cond_true, cond_false, seqJ_n, seqJ_r, seqJ_e, headK_c, asB_bool, asI_int, asS_s, asN_int, Bool.not_true, Bool.not_false, Nat.beq_refl]
        rw [fin _ (by rw [hsamp, if_neg (by omega)])]
        exact ih
    · cases hm : (Int.tmod v 5 != 4)
      all_goals simp only [hm, Bool.false_eq_true, if_true, if_false] at hsamp
      · simp only [hm, Option.bind_some, decide_true, decide_false, cond_true, cond_false, seqJ_n, seqJ_r, seqJ_e, headK_c, asB_bool, asI_int, asS_s, asN_int, Bool.not_true, Bool.not_false, Nat.beq_refl]
        rw [fin v hsamp.symm]
        exact ih
      · simp only [hm, inner μ rfl, Option.bind_some, decide_true, decide_false, cond_true, cond_false, seqJ_n, seqJ_r, seqJ_e, headK_c, asB_bool, asI_int, asS_s, asN_int, Bool.not_true, Bool.not_false, Nat.beq_refl]
        rw [hx'.ind (by omega) h1, hx'.load (by omega) h1, asI_int, e3, g1]
        by_cases c1 : v ≥ -8388608
        · rw [hx'.ind (by omega) h1, hx'.load (by omega) h1, asI_int, e3, g1]
          by_cases c2 : v ≤ 8388607
          · simp only [c1, c2, Option.bind_some, decide_true, decide_false, cond_true, cond_false, seqJ_n, seqJ_r, seqJ_e, headK_c, asB_bool, asI_int, asS_s, asN_int, Bool.not_true, Bool.not_false, Nat.beq_refl]
            rw [hx'.ind (by omega) h1, hx'.load (by omega) h1, asI_int, e3, g1]
            simp only [Option.bind_some, decide_true, decide_false, cond_true, cond_false, seqJ_n, seqJ_r, seqJ_e, headK_c, asB_bool, asI_int, asS_s, asN_int, Bool.not_true, Bool.not_false, Nat.beq_refl]
            rw [fin v (by rw [hsamp, if_pos (by omega)])]
            exact ih
          · simp only [c1, c2, hadd, Option.bind_some, decide_true, decide_false, cond_true, cond_false, seqJ_n, seqJ_r, seqJ_e, headK_c, asB_bool, asI_int, asS_s, asN_int, Bool.not_true, Bool.not_false, Nat.beq_refl]
            rw [fin _ (by rw [hsamp, if_neg (by omega)])]
            exact ih
        · simp only [c1, hadd, Option.bind_some, decide_true, decide_false, cond_true, cond_false, seqJ_n, seqJ_r, seqJ_e, headK_c, asB_bool, asI_int, asS_s, asN_int, Bool.not_true, Bool.not_false, Nat.beq_refl]
          rw [fin _ (by rw [hsamp, if_neg (by omega)])]
          exact ih
theorem samples_is {μ : AMem} (h0 : WF μ) {x : SV} {zs : List Int} (n : Nat) (wild : Bool) (hx : IsRow μ .i64 x zs) (hz : ∀ v ∈ zs, (Lit.int .i64 v).wf = true) (hn : n ≤ 1000000) :
    ∃ y μ', overdubkeep_Samples [.s x, .s (.int .i64 n), .s (.bool wild)] μ = some (.s y, μ') ∧ Same μ μ' ∧ OwnRow μ.next μ' .i64 3 y ((zs.take n).map (sampleZ wild)) := by
  obtain ⟨y, μ', h1, h2, h3⟩ := samples_loop h0 (n := n) (wild := wild) hx hz hn _ 0 μ .nilSlice (Nat.zero_add _) (Keep.refl h0) (OwnRow.nil _ _ _ _)
  refine ⟨y, μ', ?_, h2, h3⟩
  rw [overdubkeep_Samples_eq]
  rw [show overdubkeep_Samples_L1 [.s x, .s (.int .i64 n), .s (.bool wild)] [.s .nilSlice, .s (.int .i64 0)] μ = _ from h1]
  simp only [Option.bind_some, decide_true, decide_false, cond_true, cond_false, seqJ_n, seqJ_r, seqJ_e, headK_c, asB_bool, asI_int, asS_s, asN_int, Bool.not_true, Bool.not_false, Nat.beq_refl]
theorem sampleZ_tame (v : Int) : -8388608 ≤ sampleZ false v ∧ sampleZ false v ≤ 8388607 := by
  unfold sampleZ
  simp only [Bool.not_false, Bool.true_or, if_true]
  split <;> omega
theorem sampleZ_wf {wild : Bool} {v : Int} (h : (Lit.int .i64 v).wf = true) : -9223372036854775808 ≤ sampleZ wild v ∧ sampleZ wild v ≤ 9223372036854775807 := by
  have := wf64 h
  unfold sampleZ
  split
  · split <;> omega
  · omega
end Go.Proofs.Ytchapaejdgnihaa
