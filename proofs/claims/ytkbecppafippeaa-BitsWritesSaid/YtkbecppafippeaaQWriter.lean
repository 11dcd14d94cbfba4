/- Digits in a row: what a writer comes to. -/
import Derived.Test.YtkbecppafippeaaKBits
namespace Go.Proofs.Ytkbecppafippeaa
open Go Go.Proofs.Ytkbecppafippeaa.E
set_option linter.unusedVariables false
set_option linter.unusedSimpArgs false
/-- A writer's box: its bytes, how many digits. -/
def St (N : Nat) (μ : AMem) (id : Nat) (b : SV) (n : Int) (bs : List Int) : Prop :=
  N ≤ id ∧ (∃ o, μ.obj id = some o ∧ o.own = true ∧ o.ver = 0 ∧ o.cells = [b, .int .i64 n]) ∧ OwnRow N μ .u8 5 b bs ∧ ¬ isId b id
def foot (id : Nat) (b : SV) : Nat → Prop := fun j => j = id ∨ isId b j
theorem St.cell0 {N : Nat} {μ : AMem} {id : Nat} {b : SV} {n : Int} {bs : List Int} (h : St N μ id b n bs) : μ.cell id 0 (0 + 0) = some b := by
  obtain ⟨_, ⟨o, ho, _, hv, hc⟩, _⟩ := h
  simp only [AMem.cell, ho, Option.bind_some, hv, if_true, hc]; rfl
theorem St.cell1 {N : Nat} {μ : AMem} {id : Nat} {b : SV} {n : Int} {bs : List Int} (h : St N μ id b n bs) : μ.cell id 0 (0 + 1) = some (.int .i64 n) := by
  obtain ⟨_, ⟨o, ho, _, hv, hc⟩, _⟩ := h
  simp only [AMem.cell, ho, Option.bind_some, hv, if_true, hc]; rfl
theorem St.keep {N : Nat} {μ μ' : AMem} {S : Nat → Prop} {id : Nat} {b : SV} {n : Int} {bs : List Int} (h : St N μ id b n bs) (hk : Keep S μ μ') (hS : ∀ j, S j → ¬ foot id b j) : St N μ' id b n bs := by
  obtain ⟨hN, ⟨o, ho, hr⟩, hb, hi⟩ := h
  exact ⟨hN, ⟨o, hk.old id o ho fun h => hS id h (.inl rfl), hr⟩, ownKeep hb hk fun j hj hh => hS j hj (.inr hh), hi⟩
theorem St.same {N : Nat} {μ μ' : AMem} {id : Nat} {b : SV} {n : Int} {bs : List Int} (h : St N μ id b n bs) (hk : Same μ μ') : St N μ' id b n bs := h.keep hk fun _ h => h.elim
theorem St.less {N M : Nat} {μ : AMem} {id : Nat} {b : SV} {n : Int} {bs : List Int} (h : St N μ id b n bs) (hM : M ≤ N) : St M μ id b n bs := ⟨Nat.le_trans hM h.1, h.2.1, h.2.2.1.less hM, h.2.2.2⟩
theorem St.ids {N : Nat} {μ : AMem} {id : Nat} {b : SV} {n : Int} {bs : List Int} (h : St N μ id b n bs) {j : Nat} (hj : foot id b j) : N ≤ j ∧ ∃ o, μ.obj j = some o := by
  rcases hj with rfl | hj
  · obtain ⟨hN, ⟨o, ho, _⟩, _⟩ := h
    exact ⟨hN, o, ho⟩
  · exact own_lives h.2.2.1 hj
/-- The count is written. -/
theorem St.count {N : Nat} {μ : AMem} (hw : WF μ) {id : Nat} {b : SV} {n : Int} {bs : List Int} (h : St N μ id b n bs) (v : Int) :
    ∃ μ', μ.store id 0 (0 + 1) [.int .i64 v] = some μ' ∧ Keep (fun j => j = id) μ μ' ∧ St N μ' id b v bs := by
  obtain ⟨hN, ⟨o, ho, how, hv, hc⟩, hb, hi⟩ := h
  have hk : Keep (fun j => j = id) μ (μ.set id { o with cells := overA o.cells (0 + 1) [.int .i64 v] }) := Keep.set hw ho rfl
  refine ⟨μ.set id { o with cells := overA o.cells (0 + 1) [.int .i64 v] }, ?_, hk, hN, ⟨{ o with cells := overA o.cells (0 + 1) [.int .i64 v] }, by simp, how, hv, ?_⟩, ownKeep hb hk (fun j hj => by subst hj; exact hi), hi⟩
  · simp only [AMem.store, ho, Option.bind_some, how, hv, hc]; rfl
  · show overA o.cells (0 + 1) [.int .i64 v] = _
    rw [hc]; rfl
/-- The bytes are another row. -/
theorem St.bytes {N : Nat} {μ : AMem} (hw : WF μ) {id : Nat} {b b' : SV} {n : Int} {cs : List Int} (hN : N ≤ id) (h : ∃ o, μ.obj id = some o ∧ o.own = true ∧ o.ver = 0 ∧ o.cells = [b, .int .i64 n]) (hb : OwnRow N μ .u8 5 b' cs) (hi : ¬ isId b' id) :
    ∃ μ', μ.store id 0 (0 + 0) [b'] = some μ' ∧ Keep (fun j => j = id) μ μ' ∧ St N μ' id b' n cs := by
  obtain ⟨o, ho, how, hv, hc⟩ := h
  have hk : Keep (fun j => j = id) μ (μ.set id { o with cells := overA o.cells (0 + 0) [b'] }) := Keep.set hw ho rfl
  refine ⟨μ.set id { o with cells := overA o.cells (0 + 0) [b'] }, ?_, hk, hN, ⟨{ o with cells := overA o.cells (0 + 0) [b'] }, by simp, how, hv, ?_⟩, ownKeep hb hk (fun j hj => by subst hj; exact hi), hi⟩
  · simp only [AMem.store, ho, Option.bind_some, how, hv, hc]; rfl
  · show overA o.cells (0 + 0) [b'] = _
    rw [hc]; rfl
theorem E.Keep.weak {S T : Nat → Prop} {μ μ' : AMem} (h : Keep S μ μ') (hST : ∀ j, S j → T j) : Keep T μ μ' := ⟨h.wf, h.next, fun id o ho hf => h.old id o ho fun hs => hf (hST id hs), h.low⟩
/-- What a call may change later: what it held, and what is new. -/
def Wr (N : Nat) (μ : AMem) (x : SV) (F : Nat → Prop) (ds : List Int) : Prop := ∃ id b bs, x = .ptr id 0 0 ∧ F = foot id b ∧ St N μ id b ds.length bs ∧ holds bs ds
theorem Wr.nn {N : Nat} {μ : AMem} {x : SV} {F : Nat → Prop} {ds : List Int} (h : Wr N μ x F ds) : isNil (.s x) = some false := by
  obtain ⟨id, b, bs, rfl, _⟩ := h; rfl
theorem Wr.keep {N : Nat} {μ μ' : AMem} {S F : Nat → Prop} {x : SV} {ds : List Int} (h : Wr N μ x F ds) (hk : Keep S μ μ') (hS : ∀ j, S j → ¬ F j) : Wr N μ' x F ds := by
  obtain ⟨id, b, bs, hx, rfl, hs, hh⟩ := h
  exact ⟨id, b, bs, hx, rfl, hs.keep hk hS, hh⟩
theorem Wr.same {N : Nat} {μ μ' : AMem} {F : Nat → Prop} {x : SV} {ds : List Int} (h : Wr N μ x F ds) (hk : Same μ μ') : Wr N μ' x F ds := h.keep hk fun _ h => h.elim
theorem Wr.ids {N : Nat} {μ : AMem} {F : Nat → Prop} {x : SV} {ds : List Int} (h : Wr N μ x F ds) {j : Nat} (hj : F j) : N ≤ j ∧ ∃ o, μ.obj j = some o := by
  obtain ⟨id, b, bs, _, rfl, hs, _⟩ := h
  exact hs.ids hj
theorem Wr.less {N M : Nat} {μ : AMem} {F : Nat → Prop} {x : SV} {ds : List Int} (h : Wr N μ x F ds) (hM : M ≤ N) : Wr M μ x F ds := by
  obtain ⟨id, b, bs, hx, hF, hs, hh⟩ := h
  exact ⟨id, b, bs, hx, hF, hs.less hM, hh⟩
theorem newWriter_is {μ : AMem} (hw : WF μ) : ∃ x F μ', bits_NewWriter [] μ = some (.s x, μ') ∧ Same μ μ' ∧ Wr μ.next μ' x F [] := by
  refine ⟨.ptr (μ.next + 1) 0 0, foot (μ.next + 1) .nilSlice, _, bits_NewWriter_eq μ, Same.bumpSet hw (by omega) _, μ.next + 1, .nilSlice, [], rfl, rfl, ⟨by omega, ⟨_, set_self _ _ _, rfl, rfl, rfl⟩, OwnRow.nil _ _ _ _, fun h => h⟩, holds_nil⟩
/-- The first step of a digit: a byte is begun. -/
theorem put_begin {N : Nat} {μ : AMem} (hw : WF μ) {id : Nat} {b : SV} {n : Nat} {bs : List Int} (h : St N μ id b n bs) (hn : n ≤ 1000000) (hbs : bs.length = (n + 7) / 8) :
    ∃ b' μ', ((μ.cell id 0 (0 + 1)).bind fun x1 =>
    asI .i64 (.s x1) fun n2 =>
    bif ((Int.tmod n2 8) == 0) then
    (((μ.bump 10).cell id 0 (0 + 0)).bind fun x3 =>
      appendA 5 1 1 (μ.next + 6) ((μ.bump 10).set (μ.next + 5) (rowObj [.int .u8 0] 1 5 (some 1))) (.s x3) (.s (.slice (μ.next + 5) 0 0 1)) fun x4 m5 =>
      asS x4 fun x6 =>
      (m5.store id 0 (0 + 0) [x6]).bind fun m7 =>
      some (AExit.normal, ([] : List AV), m7))
    else
    (some (AExit.normal, [], μ))) = some (AExit.normal, ([] : List AV), μ') ∧
      Keep (foot id b) μ μ' ∧ St N μ' id b' n (begun bs n) ∧ ∀ j, foot id b' j → foot id b j ∨ μ.next ≤ j := by
  have hc0 := h.cell0
  have hc1 := h.cell1
  have hm : (Int.tmod (n : Int) 8 == 0) = decide (n % 8 = 0) := by
    rw [Int.tmod_eq_emod_of_nonneg (by omega)]
    by_cases c : n % 8 = 0
    · rw [decide_eq_true c]; simp; omega
    · rw [decide_eq_false c]; simp; omega
  unfold begun
  by_cases c : n % 8 = 0
  · rw [if_pos c]
    obtain ⟨hN, ⟨o, ho, how, hv, hc⟩, hb, hi⟩ := h
    have hidl := hw.lt ho
    obtain ⟨b', m5, p1, p2, p3, p4, p5, p6⟩ := OwnRow.push (B := 1) (a := 5) (b := 6) (n := 10) (q := some 1) hw hb 0 (by omega) (by omega) (by omega) (by omega) (by omega) (by omega)
    have hi' : ¬ isId b' id := fun hh => by
      rcases p6 id hh with h1 | h1
      · exact hi h1
      · omega
    obtain ⟨m7, s1, s2, s3⟩ := St.bytes p3 hN ⟨o, p5.1 id o ho hi, how, hv, hc⟩ p2 hi'
    refine ⟨b', m7, ?_, ?_, s3, fun j hj => ?_⟩
    · simp -implicitDefEqProofs only [hc1, bump_cell, hc0, hm, decide_eq_true c, p1, s1, Option.bind_some, decide_true, decide_false, cond_true, cond_false, seqJ_n, seqJ_r, seqJ_e, headK_c, asB_bool, asI_int, asS_s, asN_int, extrK_0, extrK_1, extrK_2, Bool.not_true, Bool.not_false, Nat.beq_refl]
    · refine ⟨s2.wf, Nat.le_trans p4 s2.next, fun j o' ho' hf => s2.old j o' (p5.1 j o' ho' fun hh => hf (.inr hh)) fun e => hf (.inl e), fun j hj hno => s2.low j (Nat.lt_of_lt_of_le hj p4) (p5.2 j hj hno)⟩
    · rcases hj with rfl | hj
      · exact .inl (.inl rfl)
      · rcases p6 j hj with h1 | h1
        · exact .inl (.inr h1)
        · exact .inr h1
  · rw [if_neg c]
    refine ⟨b, μ, ?_, Keep.refl hw, h, fun j hj => .inl hj⟩
    simp -implicitDefEqProofs only [hc1, hm, decide_eq_false c, Option.bind_some, decide_true, decide_false, cond_true, cond_false, seqJ_n, seqJ_r, seqJ_e, headK_c, asB_bool, asI_int, asS_s, asN_int, extrK_0, extrK_1, extrK_2, Bool.not_true, Bool.not_false, Nat.beq_refl]
/-- Two changes in a row: the second one changes what the first left, and what is new. -/
theorem E.Keep.trans2 {S T : Nat → Prop} {μ m μ' : AMem} (h : Keep S μ m) (k : Keep T m μ') (hT : ∀ j, T j → S j ∨ μ.next ≤ j) (hw : WF μ) : Keep S μ μ' :=
  ⟨k.wf, Nat.le_trans h.next k.next, fun id o ho hf => k.old id o (h.old id o ho hf) fun ht => by
    rcases hT id ht with h1 | h1
    · exact hf h1
    · have := hw.lt ho; omega, fun id hi hn => k.low id (Nat.lt_of_lt_of_le hi h.next) (h.low id hi hn)⟩
theorem put_is {N : Nat} {μ : AMem} (hw : WF μ) {x : SV} {F : Nat → Prop} {ds : List Int} (h : Wr N μ x F ds) (hl : ds.length ≤ 1000000) (d : Bool) :
    ∃ F' μ', bits_Writer_put [.s x, .s (.bool d)] μ = some (.tuple [], μ') ∧ Keep F μ μ' ∧ Wr N μ' x F' (ds ++ [if d then 1 else 0]) ∧ ∀ j, F' j → F j ∨ μ.next ≤ j := by
  obtain ⟨id, b, bs, rfl, rfl, hst, hh⟩ := h
  obtain ⟨b', m9, e1, k1, st1, f1⟩ := put_begin hw hst hl hh.1
  obtain ⟨g1, g2, g3, g4⟩ := begun_spec hh
  have hc0 := st1.cell0
  have hc1 := st1.cell1
  have hi1 : IntKind.wrap .i64 (Int.tdiv (ds.length : Int) 8) = ((ds.length / 8 : Nat) : Int) := by
    rw [Int.tdiv_eq_ediv_of_nonneg (by omega), wr (by omega)]; omega
  have hm : Int.tmod (ds.length : Int) 8 = ((ds.length % 8 : Nat) : Int) := by rw [Int.tmod_eq_emod_of_nonneg (by omega)]; omega
  have hmin : min (Int.toNat ((ds.length % 8 : Nat) : Int)) (IntKind.bits .u8) = ds.length % 8 := by show min _ 8 = _; omega
  have hwr : IntKind.wrap .i64 ((ds.length : Int) + 1) = (ds.length : Int) + 1 := wr (by omega)
  have hlen : ((ds ++ [if d then (1 : Int) else 0]).length : Int) = (ds.length : Int) + 1 := by simp
  cases d
  · obtain ⟨m24, s1, s2, s3⟩ := st1.count k1.wf ((ds.length : Int) + 1)
    refine ⟨foot id b', m24, ?_, k1.trans2 (T := foot id b') (s2.weak fun j hj => .inl hj) f1 hw, ⟨id, b', _, rfl, rfl, by rw [hlen]; exact s3, holds_nought hh⟩, f1⟩
    rw [bits_Writer_put_eq, e1]
    simp -implicitDefEqProofs only [hc1, hwr, s1, Option.bind_some, decide_true, decide_false, cond_true, cond_false, seqJ_n, seqJ_r, seqJ_e, headK_c, asB_bool, asI_int, asS_s, asN_int, extrK_0, extrK_1, extrK_2, Bool.not_true, Bool.not_false, Nat.beq_refl]
  · obtain ⟨hN, hob, hb, hni⟩ := st1
    obtain ⟨m19, t1, t2, t3, t4⟩ := storeK k1.wf hb (i := ds.length / 8) g1 (orB ((begun bs ds.length).getD (ds.length / 8) 0) (ds.length % 8))
    obtain ⟨o, ho, how, hv, hc⟩ := hob
    have st2 : St N m19 id b' ds.length ((begun bs ds.length).set (ds.length / 8) (orB ((begun bs ds.length).getD (ds.length / 8) 0) (ds.length % 8))) := ⟨hN, ⟨o, t2.old id o ho hni, how, hv, hc⟩, t3, hni⟩
    have hc2 := st2.cell1
    obtain ⟨m24, s1, s2, s3⟩ := st2.count t2.wf ((ds.length : Int) + 1)
    have k2 : Keep (foot id b') m9 m24 := (t2.weak fun j hj => .inr hj).trans (s2.weak fun j hj => .inl hj)
    refine ⟨foot id b', m24, ?_, k1.trans2 k2 f1 hw, ⟨id, b', _, rfl, rfl, by rw [hlen]; exact s3, holds_one hh⟩, f1⟩
    have hia := fun {R : Type} (K : AV → Option R) => hb.row.ind (i := ((ds.length / 8 : Nat) : Int)) (by omega) (by omega) K
    have hla := fun {R : Type} (K : AV → Option R) => hb.row.load (i := ((ds.length / 8 : Nat) : Int)) (by omega) (by omega) K
    rw [nat_toNat] at hla
    have hnn : ¬ ((ds.length % 8 : Nat) : Int) < 0 := by omega
    have horb : IntKind.wrap .u8 (BitVec.toNat ((BitVec.ofInt (IntKind.bits .u8) ((begun bs ds.length).getD (ds.length / 8) 0)) ||| (BitVec.ofInt (IntKind.bits .u8) (Int.fdiv 128 (2 ^ (ds.length % 8)))))) = orB ((begun bs ds.length).getD (ds.length / 8) 0) (ds.length % 8) := rfl
    rw [bits_Writer_put_eq, e1]
    simp -implicitDefEqProofs only [hc0, hc1, hi1, hm, hia, hla, Option.bind_some, decide_true, decide_false, cond_true, cond_false, seqJ_n, seqJ_r, seqJ_e, headK_c, asB_bool, asI_int, asS_s, asN_int, extrK_0, extrK_1, extrK_2, Bool.not_true, Bool.not_false, Nat.beq_refl]
    rw [if_neg hnn, hmin, horb, t1]
    simp -implicitDefEqProofs only [hc2, hwr, s1, Option.bind_some, decide_true, decide_false, cond_true, cond_false, seqJ_n, seqJ_r, seqJ_e, headK_c, asB_bool, asI_int, asS_s, asN_int, extrK_0, extrK_1, extrK_2, Bool.not_true, Bool.not_false, Nat.beq_refl]
end Go.Proofs.Ytkbecppafippeaa
