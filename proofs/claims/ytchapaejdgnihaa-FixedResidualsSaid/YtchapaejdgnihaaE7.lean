/- The abstract machine is sound, part 7: code, functions. -/
import Derived.Test.YtchapaejdgnihaaE6
namespace Go.Proofs.Ytchapaejdgnihaa.E
open Go
set_option linter.unusedVariables false
set_option linter.unusedSimpArgs false
section
variable {P : Program}

def AExit.to : AExit → Exit
  | .normal => .normal
  | .exit id => .exit id
  | .ret => .ret
theorem headK_some {R : Type} {vs : List AV} {K : AV → List AV → Option R} {r : R} (h : headK vs K = some r) : ∃ v l, vs = v :: l ∧ K v l = some r := by
  unfold headK at h
  split at h
  · exact ⟨_, _, rfl, h⟩
  · cases h
/-- Slots come back as they were. -/
theorem joinK_rel {R : Type} {ι : Nat → Loc} {μ : AMem} {e : Env} {a : Act} (he : EnvR ι μ e a) {K : Env → Option R} {r : R} :
    ∀ (L : Slots) (e0 : Env), EnvR ι μ e0 a → joinK L (valsOf L e) e0 K = some r → ∃ e', EnvR ι μ e' a ∧ K e' = some r
  | [], e0, h0, h => ⟨e0, h0, h⟩
  | (s, t) :: L, e0, h0, h => by
    have hput : ∀ v, e s = v → EnvR ι μ (e0.put (some s) v) a := by
      intro v hv x
      simp only [Env.put]
      by_cases hx : x = s
      · subst hx; simp only [Nat.beq_refl, cond_true]; rw [← hv]; exact he x
      · rw [beq_no hx]; exact h0 x
    unfold joinK valsOf at h
    obtain ⟨v, l, hvl, h⟩ := headK_some h
    simp only [List.map_cons, List.cons.injEq] at hvl
    obtain ⟨hv, rfl⟩ := hvl
    cases t <;> dsimp only at h
    case i k => obtain ⟨n, hn, h2⟩ := asI_some h; exact joinK_rel he L _ (hput _ (hv.trans hn)) h2
    case b => obtain ⟨n, hn, h2⟩ := asB_some h; exact joinK_rel he L _ (hput _ (hv.trans hn)) h2
    case s => obtain ⟨n, hn, h2⟩ := asS_some h; exact joinK_rel he L _ (hput _ (hv.trans hn)) h2
    case v => exact joinK_rel he L _ (hput _ hv) h
theorem noEnv_rel (ι : Nat → Loc) (μ : AMem) (a : Act) : EnvR ι μ noEnv a := fun _ => by unfold noEnv AVR; trivial
theorem envO_rel {ι ι' : Nat → Loc} {μ μ' : AMem} {e : Env} {a a' : Act} (he : EnvR ι μ e a) (hx : Ext ι μ ι' μ') : ∀ (O : List Nat), (∀ s ∈ O, a'.tmps.getD s undef = a.tmps.getD s undef) → EnvR ι' μ' (envO O (O.map e)) a'
  | [], _ => noEnv_rel ι' μ' a'
  | d :: O, h => by
    intro s
    simp only [List.map_cons, envO]
    by_cases hs : s = d
    · subst hs
      simp only [Nat.beq_refl, cond_true]
      rw [h s (List.mem_cons_self ..)]
      exact (he s).mono hx
    · rw [beq_no hs]
      exact envO_rel he hx O (fun x hx' => h x (List.mem_cons_of_mem _ hx')) s
theorem exitsK_some {R : Type} {id : Nat} {f : Nat → Option R} {r : R} : ∀ {xs : List Nat}, exitsK xs id f = some r → f id = some r
  | [], h => by cases h
  | j :: xs, h => by
    unfold exitsK at h
    cases hb : Nat.beq j id with
    | true => rw [hb] at h; rw [← Nat.eq_of_beq_eq_true hb]; exact h
    | false => rw [hb] at h; exact exitsK_some h
theorem keepsA_spec {O : List Nat} {c : Code} (h : keepsA O c = true) : ∀ s ∈ O, s ∉ writesA c := by
  intro s hs
  have := List.all_eq_true.mp h s hs
  simpa using this
theorem Tr.lift {ι ι' : Nat → Loc} {μ μ0 μ' : AMem} {w w' : World} (h : Tr P ι μ0 w ι' μ' w') (ho : μ0.obj = μ.obj) (hn : μ.next ≤ μ0.next) : Tr P ι μ w ι' μ' w' := by
  obtain ⟨a1, a2, a3, a4, a5, a6, a7, a8, a9⟩ := h
  refine ⟨a1, ?_, Nat.le_trans hn a3, a4, a5, a6, a7, ?_, ?_⟩
  · intro id o h; exact a2 id o (by rw [ho]; exact h)
  · rw [ho] at a8; exact a8
  · rw [ho] at a9; exact a9
theorem resvA_obj (ops : Array Oper) (μ : AMem) : (resvA ops μ).obj = μ.obj := by unfold resvA; cases newsA ops <;> rfl
theorem resvA_next (ops : Array Oper) (μ : AMem) : μ.next ≤ (resvA ops μ).next := by unfold resvA; cases newsA ops <;> simp [AMem.bump]
theorem resvA_in {ι : Nat → Loc} {μ : AMem} {w : World} {nt : Nat} {e : Env} {a : Act} (ops : Array Oper) (h : In P ι μ w nt e a) : In P ι (resvA ops μ) w nt e a := by
  unfold resvA
  cases newsA ops
  · exact h
  · refine ⟨h.sim.bump _, h.env.mono (Tr.bump h.sim _).ext, h.size, h.defers⟩
theorem resvA_free {ι : Nat → Loc} {μ : AMem} {w : World} (h : Sim P ι μ w) (ops : Array Oper) (l : List Nat) (hl : ∀ i ∈ l, i < ops.size) : Free ops μ.next l (resvA ops μ) := by
  intro hn i hi
  have := hl i hi
  unfold resvA
  rw [hn]
  refine ⟨by simp [AMem.bump]; exact this, ?_⟩
  show μ.obj (μ.next + i) = none
  cases ho : μ.obj (μ.next + i) with
  | none => rfl
  | some o => have := (h.live _ _ ho).1; omega
/-- A loop whose rounds are numbered downwards. -/
theorem wp_loop_down {c : Code} {Q : Exit → Act → World → Prop} (I : Nat → Act → World → Prop)
    (round : ∀ n a w, I n a w → c.wp P (Exit.then (fun a' w' => ∃ m, m < n ∧ I m a' w') Q) a w) {n : Nat} {a : Act} {w : World} (h : I n a w) : (Code.loop c).wp P Q a w := by
  intro b k cs
  have key : ∀ n a w, I n a w → ∃ e a' w', Q e a' w' ∧ Arrives P (lone (b.at a (.code c :: .inLoop c :: k)) cs w) b k cs e a' w' := by
    intro n
    induction n using Nat.strongRecOn with
    | _ n ih =>
      intro a w hI
      obtain ⟨e, a₁, w₁, hq, harr⟩ := round n a w hI b (.inLoop c :: k) cs
      cases e with
      | normal =>
        obtain ⟨m, hlt, hI₁⟩ := hq
        obtain ⟨e₂, a₂, w₂, hq₂, harr₂⟩ := ih m hlt a₁ w₁ hI₁
        exact ⟨e₂, a₂, w₂, hq₂, .of_steps (Steps.trans harr (.one step_inLoop)) harr₂⟩
      | exit id => exact ⟨_, a₁, w₁, hq, .pass (x := .inLoop c) rfl (fun _ _ => .inl (by simp)) harr⟩
      | goto l => exact ⟨_, a₁, w₁, hq, .pass (x := .inLoop c) rfl (fun _ _ => .inl (by simp)) harr⟩
      | ret => exact ⟨_, a₁, w₁, hq, .pass (x := .inLoop c) rfl (fun _ _ => .inl (by simp)) harr⟩
      | panic ch => exact ⟨_, a₁, w₁, hq, .pass (x := .inLoop c) rfl (fun _ _ => .inl (by simp)) harr⟩
      | outgrown => exact ⟨_, a₁, w₁, hq, .pass (x := .inLoop c) rfl (fun _ _ => .inl (by simp)) harr⟩
  obtain ⟨e, a', w', hq, harr⟩ := key n a w h
  exact ⟨e, a', w', hq, .of_steps (.one step_loop) harr⟩

/-- What draws is sound (shown in another part). -/
def DrawsSound (P : Program) (Γ : FuncId → FunA) : Prop := ∀ {R : Type} {id : Nat} {ops : Array Oper} {nt : Nat} {l : List Nat} {K : Env → AMem → Option R} {r : R} {Q : Exit → Act → World → Prop}
  {ι : Nat → Loc} {μ : AMem} {w : World} {e : Env} {a : Act}, dstsA nt ops = true → orderA ops (ancs ops) l = true → In P ι μ w nt e a →
  runD P Γ ops (ancs ops) μ.next K l e (resvA ops μ) [] = some r →
  (∀ ι' μ' w' e' a', K e' μ' = some r → On P μ.next ι (resvA ops μ) w a (ops.toList.filterMap (·.dst)) ι' μ' w' a' → In P ι' μ' w' nt e' a' → Q .normal a' w') → (Code.region id ops true).wp P Q a w

theorem den_wp {Γ : FuncId → FunA} {nt : Nat} (hΓ : ∀ f, Sound P f (Γ f)) (hD : DrawsSound P Γ) : ∀ (c : Code) (an : Ann) (lv : Lv) {R : Type} (K : AExit → Env → AMem → Option R) (r : R)
    (ι : Nat → Loc) (μ : AMem) (w : World) (e : Env) (a : Act) (Q : Exit → Act → World → Prop), den P Γ nt c an lv R e μ K = some r → In P ι μ w nt e a →
    (∀ ex ι' μ' w' e' a', K ex e' μ' = some r → On P μ.next ι μ w a (writesA c) ι' μ' w' a' → In P ι' μ' w' nt e' a' → Q ex.to a' w') → c.wp P Q a w := by
  intro c
  have refl : ∀ (ι : Nat → Loc) (μ : AMem) (w : World) (e : Env) (a : Act) (W : List Nat), In P ι μ w nt e a → On P μ.next ι μ w a W ι μ w a := fun ι μ w e a W hi => ⟨Tr.refl hi.sim, fun _ _ h => h, fun _ _ => rfl⟩
  induction c with
  | skip => intro an lv R K r ι μ w e a Q h hi hQ; unfold den at h; exact wp_skip (hQ .normal _ _ _ _ _ h (refl _ _ _ _ _ _ hi) hi)
  | ret => intro an lv R K r ι μ w e a Q h hi hQ; unfold den at h; exact wp_ret (hQ .ret _ _ _ _ _ h (refl _ _ _ _ _ _ hi) hi)
  | exit id => intro an lv R K r ι μ w e a Q h hi hQ; unfold den at h; exact wp_exit (hQ (.exit id) _ _ _ _ _ h (refl _ _ _ _ _ _ hi) hi)
  | region id ops draw =>
    intro an lv R K r ι μ w e a Q h hi hQ
    have up : ∀ {ι' μ' w' a'}, On P μ.next ι (resvA ops μ) w a (ops.toList.filterMap (·.dst)) ι' μ' w' a' → On P μ.next ι μ w a (ops.toList.filterMap (·.dst)) ι' μ' w' a' := fun hon =>
      ⟨hon.tr.lift (resvA_obj ops μ) (resvA_next ops μ), fun j hj hd => hon.dead j hj (by rw [resvA_obj]; exact hd), hon.keeps⟩
    cases draw with
    | false =>
      by_cases hw : an = .wide
      · subst hw
        unfold den at h
        cases hd : dstsA nt ops with
        | false => rw [hd] at h; cases h
        | true =>
          rw [hd] at h
          refine wp_region (runW_wp hΓ hd (List.range ops.size) ι (resvA ops μ) w e a List.nodup_range (resvA_next ops μ) (resvA_in ops hi) (resvA_free hi.sim ops _ (fun i hi => List.mem_range.mp hi)) h ?_)
          exact fun ι' μ' w' e' a' hK hon hin => hQ .normal ι' μ' w' e' a' hK (up hon) hin
      · have h' : (bif dstsA nt ops then runA P Γ ops μ.next (K .normal) (List.range ops.size) e (resvA ops μ) else none) = some r := by
          cases an <;> first | exact absurd rfl hw | (unfold den at h; exact h)
        cases hd : dstsA nt ops with
        | false => rw [hd] at h'; cases h'
        | true =>
          rw [hd] at h'
          refine wp_region (runA_wp hΓ hd (List.range ops.size) ι (resvA ops μ) w e a List.nodup_range (resvA_next ops μ) (resvA_in ops hi) (resvA_free hi.sim ops _ (fun i hi => List.mem_range.mp hi)) h' ?_)
          exact fun ι' μ' w' e' a' hK hon hin => hQ .normal ι' μ' w' e' a' hK (up hon) hin
    | true =>
      cases an with
      | ord l =>
        unfold den at h
        cases hd : (dstsA nt ops && orderA ops (ancs ops) l) with
        | false => rw [hd] at h; cases h
        | true =>
          rw [hd] at h
          rw [Bool.and_eq_true] at hd
          exact hD hd.1 hd.2 hi h fun ι' μ' w' e' a' hK hon hin => hQ .normal ι' μ' w' e' a' hK (up hon) hin
      | _ => unfold den at h; cases h
  | seq x y ihx ihy =>
    intro an lv R K r ι μ w e a Q h hi hQ
    have hwl : ∀ s, s ∈ writesA x → s ∈ writesA (.seq x y) := fun s hs => List.mem_append_left _ hs
    have hwr : ∀ s, s ∈ writesA y → s ∈ writesA (.seq x y) := fun s hs => List.mem_append_right _ hs
    cases an with
    | two p q =>
      unfold den at h
      refine wp_seq (ihx p lv _ r ι μ w e a _ h hi ?_)
      intro ex ι' μ' w' e' a' hK hon hin
      cases ex with
      | normal =>
        refine ihy q lv _ r ι' μ' w' e' a' _ hK hin ?_
        exact fun ex ι2 μ2 w2 e2 a2 hK2 hon2 hin2 => hQ ex ι2 μ2 w2 e2 a2 hK2 (On.trans hon hon2 hon.tr.next hwl hwr) hin2
      | exit id => exact hQ (.exit id) _ _ _ _ _ hK ⟨hon.tr, hon.dead, fun s hs => hon.keeps s fun h => hs (hwl s h)⟩ hin
      | ret => exact hQ .ret _ _ _ _ _ hK ⟨hon.tr, hon.dead, fun s hs => hon.keeps s fun h => hs (hwl s h)⟩ hin
    | join L O xs p q =>
      unfold den at h
      cases hk : keepsA O x with
      | false => rw [hk] at h; cases h
      | true =>
        rw [hk] at h
        simp only [cond_true] at h
        unfold seqJ at h
        obtain ⟨⟨ex, vs, μ1⟩, h1, h2⟩ := Option.bind_eq_some_iff.mp h
        refine wp_seq (ihx p lv _ (ex, vs, μ1) ι μ w e a _ h1 hi ?_)
        intro ex' ι' μ' w' e' a' hK hon hin
        obtain ⟨rfl, rfl, rfl⟩ : ex' = ex ∧ valsOf (lv.at L ex') e' = vs ∧ μ' = μ1 := by cases hK; exact ⟨rfl, rfl, rfl⟩
        have hon' : On P μ.next ι μ w a (writesA (.seq x y)) ι' μ' w' a' := ⟨hon.tr, hon.dead, fun s hs => hon.keeps s fun h => hs (hwl s h)⟩
        cases ex' with
        | normal =>
          obtain ⟨e2, he2, h3⟩ := joinK_rel hin.env L _ (envO_rel hi.env hon.tr.ext O fun s hs => hon.keeps s (keepsA_spec hk s hs)) h2
          refine ihy q lv _ r ι' μ' w' e2 a' _ h3 ⟨hin.sim, he2, hin.size, hin.defers⟩ ?_
          exact fun ex ι2 μ2 w2 e2 a2 hK2 hon2 hin2 => hQ ex ι2 μ2 w2 e2 a2 hK2 (On.trans hon hon2 hon.tr.next hwl hwr) hin2
        | exit id =>
          have h3 := exitsK_some h2
          obtain ⟨e2, he2, h4⟩ := joinK_rel hin.env _ _ (noEnv_rel _ _ _) h3
          exact hQ (.exit id) _ _ _ _ _ h4 hon' ⟨hin.sim, he2, hin.size, hin.defers⟩
        | ret =>
          obtain ⟨e2, he2, h4⟩ := joinK_rel hin.env _ _ (noEnv_rel _ _ _) h2
          exact hQ .ret _ _ _ _ _ h4 hon' ⟨hin.sim, he2, hin.size, hin.defers⟩
    | _ => unfold den at h; cases h
  | cond c x y ihx ihy =>
    intro an lv R K r ι μ w e a Q h hi hQ
    cases an with
    | two p q =>
      unfold den at h
      unfold condK at h
      split at h
      · rename_i t ht
        have hc : a.eval c = .bool t := by
          have := evalA_rel hi.env c
          rw [ht] at this
          exact this
        refine wp_cond_split hc (fun ht => ?_) (fun ht => ?_)
        · subst ht
          exact ihx p lv _ r ι μ w e a _ h hi fun ex ι2 μ2 w2 e2 a2 hK hon hin => hQ ex ι2 μ2 w2 e2 a2 hK ⟨hon.tr, hon.dead, fun s hs => hon.keeps s fun h => hs (List.mem_append_left _ h)⟩ hin
        · subst ht
          exact ihy q lv _ r ι μ w e a _ h hi fun ex ι2 μ2 w2 e2 a2 hK hon hin => hQ ex ι2 μ2 w2 e2 a2 hK ⟨hon.tr, hon.dead, fun s hs => hon.keeps s fun h => hs (List.mem_append_right _ h)⟩ hin
      · cases h
    | _ => unfold den at h; cases h
  | block id x ihx =>
    intro an lv R K r ι μ w e a Q h hi hQ
    cases an with
    | join L O xs p q =>
      unfold den at h
      refine wp_block (ihx p _ _ r ι μ w e a _ h hi ?_)
      intro ex ι' μ' w' e' a' hK hon hin
      cases ex with
      | normal => exact hQ .normal _ _ _ _ _ hK hon hin
      | ret => exact hQ .ret _ _ _ _ _ hK hon hin
      | exit j =>
        simp only [AExit.to, Exit.inBlock]
        dsimp only at hK
        by_cases hj : j = id
        · rw [if_pos hj]
          subst hj
          simp only [Nat.beq_refl, cond_true] at hK
          exact hQ .normal _ _ _ _ _ hK hon hin
        · rw [if_neg hj]
          rw [beq_no hj] at hK
          exact hQ (.exit j) _ _ _ _ _ hK hon hin
    | _ => unfold den at h; cases h
  | loop x ihx =>
    intro an lv R K r ι μ w e a Q h hi hQ
    cases an with
    | loop L O xs p =>
      unfold den at h
      cases hk : keepsA O x with
      | false => rw [hk] at h; cases h
      | true =>
        rw [hk] at h
        simp only [cond_true] at h
        unfold seqJ at h
        obtain ⟨⟨ex, vs, μ1⟩, h1, h2⟩ := Option.bind_eq_some_iff.mp h
        obtain ⟨k, h1⟩ := loopA_some.mp h1
        refine wp_loop_down (fun n a1 w1 => ∃ ι1 μ1' e1, roundsA (fun vs μ => joinK L vs (envO O (O.map e)) fun e => den P Γ nt x p lv Res e μ fun ex e μ => some (ex, valsOf (lv.at L ex) e, μ)) n (valsOf L e1) μ1' = some (ex, vs, μ1) ∧
          On P μ.next ι μ w a (writesA x) ι1 μ1' w1 a1 ∧ In P ι1 μ1' w1 nt e1 a1) ?_ (n := k) ⟨ι, μ, e, h1, refl _ _ _ _ _ _ hi, hi⟩
        rintro n a1 w1 ⟨ι1, μ1', e1, hr, hon, hin⟩
        cases n with
        | zero => cases hr
        | succ n =>
          unfold roundsA at hr
          obtain ⟨⟨ex2, vs2, μ2⟩, hb, hrest⟩ := Option.bind_eq_some_iff.mp hr
          obtain ⟨e2, he2, hb2⟩ := joinK_rel hin.env L _ (envO_rel hi.env hon.tr.ext O fun s hs => hon.keeps s (keepsA_spec hk s hs)) hb
          refine ihx p lv _ (ex2, vs2, μ2) ι1 μ1' w1 e2 a1 _ hb2 ⟨hin.sim, he2, hin.size, hin.defers⟩ ?_
          intro ex3 ι3 μ3 w3 e3 a3 hK hon3 hin3
          obtain ⟨rfl, rfl, rfl⟩ : ex3 = ex2 ∧ valsOf (lv.at L ex3) e3 = vs2 ∧ μ3 = μ2 := by cases hK; exact ⟨rfl, rfl, rfl⟩
          have hon4 : On P μ.next ι μ w a (writesA x) ι3 μ3 w3 a3 := On.trans hon hon3 hon.tr.next (fun _ h => h) (fun _ h => h)
          cases ex3 with
          | normal => exact ⟨n, Nat.lt_succ_self n, ι3, μ3, e3, hrest, hon4, hin3⟩
          | exit id =>
            cases hrest
            have h3 := exitsK_some h2
            obtain ⟨e5, he5, h4⟩ := joinK_rel hin3.env _ _ (noEnv_rel _ _ _) h3
            exact hQ (.exit id) _ _ _ _ _ h4 hon4 ⟨hin3.sim, he5, hin3.size, hin3.defers⟩
          | ret =>
            cases hrest
            obtain ⟨e5, he5, h4⟩ := joinK_rel hin3.env _ _ (noEnv_rel _ _ _) h2
            exact hQ .ret _ _ _ _ _ h4 hon4 ⟨hin3.sim, he5, hin3.size, hin3.defers⟩
    | _ => unfold den at h; cases h
  | _ => intro an lv R K r ι μ w e a Q h hi hQ; unfold den at h; cases h

theorem resL_spec : ∀ {l : List ResultVar} {m : List Nat}, resL l = some m → l = m.map ResultVar.tmp
  | [], m, h => by obtain rfl := Option.some.inj h; rfl
  | .tmp t :: r, m, h => by
    simp only [resL] at h
    obtain ⟨m', h1, rfl⟩ := Option.map_eq_some_iff.mp h
    rw [resL_spec h1]; rfl
  | .cell _ _ :: r, m, h => by cases h
theorem mapM_tmps (tmps : Array Value) (g : ResultVar → Sem Value) (hg : ∀ t, g (.tmp t) = pure (tmps.getD t undef)) : ∀ (l : List Nat) (w : World), ((l.map ResultVar.tmp).mapM g).run P w = .ok (l.map (tmps.getD · undef)) w
  | [], w => rfl
  | t :: l, w => by simp only [List.map_cons, List.mapM_cons, hg, Sem.run_bind, Sem.run_pure, Result.andThen_ok, mapM_tmps tmps g hg l]
theorem results_run {fn : Func} {l : List Nat} (h : resL fn.results.toList = some l) (tmps : Array Value) (w : World) :
    ∃ v, (results fn tmps).run P w = .ok v w ∧ ((∃ t, l = [t] ∧ v = tmps.getD t undef) ∨ (l.length ≠ 1 ∧ v = .tuple (l.map (tmps.getD · undef)).toArray)) := by
  have hr := resL_spec h
  have hm : ∀ (g : ResultVar → Sem Value) (hg : ∀ t, g (.tmp t) = pure (tmps.getD t undef)), (fn.results.mapM g).run P w = .ok (l.map (tmps.getD · undef)).toArray w := by
    intro g hg
    rw [Array.mapM_eq_mapM_toList, hr, map_eq_pure_bind, Sem.run_bind, mapM_tmps tmps g hg]
    rfl
  by_cases h1 : l.length = 1
  · obtain ⟨t, rfl⟩ := List.length_eq_one_iff.mp h1
    exact ⟨tmps.getD t undef, by unfold results; rw [Sem.run_bind, hm _ (fun _ => rfl)]; simp, .inl ⟨t, rfl, rfl⟩⟩
  · exact ⟨.tuple (l.map (tmps.getD · undef)).toArray, by unfold results; rw [Sem.run_bind, hm _ (fun _ => rfl)]; simp [h1], .inr ⟨h1, rfl⟩⟩
theorem packV_rel {ι : Nat → Loc} {μ : AMem} {e : Env} {a : Act} (he : EnvR ι μ e a) {l : List Nat} {v : Value}
    (h : (∃ t, l = [t] ∧ v = a.tmps.getD t undef) ∨ (l.length ≠ 1 ∧ v = .tuple (l.map (a.tmps.getD · undef)).toArray)) : AVR ι μ (packV (l.map e)) v := by
  rcases h with ⟨t, rfl, rfl⟩ | ⟨h1, rfl⟩
  · exact he t
  · have : packV (l.map e) = .tuple (l.map e) := by
      match l, h1 with
      | [], _ => rfl
      | [t], h1 => exact absurd rfl h1
      | t :: u :: r, _ => rfl
    rw [this]
    unfold AVR
    refine ⟨_, rfl, AVRs_iff.mpr ⟨by simp, fun i x hi => ?_⟩⟩
    rw [List.getElem?_map] at hi
    obtain ⟨t, ht, rfl⟩ := Option.map_eq_some_iff.mp hi
    exact ⟨a.tmps.getD t undef, by simp [ht], he t⟩
theorem denF_sound {Γ : FuncId → FunA} (hΓ : ∀ f, Sound P f (Γ f)) (hD : DrawsSound P Γ) {f : FuncId} {fn : Func} {an : Ann} {rs : Slots} (hf : P.funcs[f]? = some fn) (hname : (fn.name == "runtime.NumGoroutine") = false) :
    Sound P f (denF P Γ fn an rs) := by
  intro as μ r μ' h
  unfold denF at h
  split at h
  · rename_i c l hb hl
    cases hle : Nat.ble as.length fn.ntmps with
    | false => rw [hle] at h; cases h
    | true =>
      rw [hle] at h
      simp only [cond_true] at h
      have hlen := Nat.le_of_ble_eq_true hle
      refine ⟨⟨fn, hf, hname, by rw [hb]; rfl⟩, fun ι w vs hs hvs => ?_⟩
      have hvl : vs.length = as.length := hvs.1
      refine calls_of_wp hf hb (den_wp hΓ hD c an _ _ (r, μ') ι μ w _ _ _ h ⟨hs, ?_, ?_, rfl⟩ ?_)
      · intro s
        have htm : (vs.toArray ++ Array.replicate (fn.ntmps - vs.toArray.size) undef).getD s undef = vs.getD s undef := by
          simp only [Array.getD_eq_getD_getElem?, List.getD_eq_getElem?_getD, Array.getElem?_append, List.size_toArray]
          by_cases hlt : s < vs.length
          · simp [hlt]
          · rw [if_neg hlt, List.getElem?_eq_none (by omega), Array.getElem?_replicate]
            split <;> rfl
        show AVR ι μ (as.getD s (.tuple [])) ((vs.toArray ++ Array.replicate (fn.ntmps - vs.toArray.size) undef).getD s undef)
        rw [htm, List.getD_eq_getElem?_getD, List.getD_eq_getElem?_getD]
        cases hx : as[s]? with
        | none =>
          have : vs[s]? = none := by rw [List.getElem?_eq_none_iff] at hx ⊢; omega
          rw [this]
          exact undef_rel _ _
        | some x =>
          obtain ⟨y, hy, hr⟩ := hvs.2 s x hx
          rw [hy]
          exact hr
      · simp; omega
      · intro ex ι' μ1 w' e' a' hK hon hin
        have fin : (some (packV (l.map e'), μ1) : Option (AV × AMem)) = some (r, μ') → a'.defers = [] ∧ ∃ v, (results fn a'.tmps).run P w' = .ok v w' ∧ Post P ι μ w r μ' (.returned v) w' := by
          intro hK
          cases hK
          obtain ⟨v, h1, h2⟩ := results_run (P := P) hl a'.tmps w'
          exact ⟨hin.defers, v, h1, ι', v, rfl, hon.tr, hon.dead, packV_rel hin.env h2⟩
        cases ex with
        | exit id => cases hK
        | normal => exact fin hK
        | ret => exact fin hK
  · cases h
end
end Go.Proofs.Ytchapaejdgnihaa.E
