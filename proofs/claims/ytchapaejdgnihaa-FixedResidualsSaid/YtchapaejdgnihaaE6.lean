/- The abstract machine is sound, part 6: one operation; a region in its given order. -/
import Derived.Test.YtchapaejdgnihaaE5
import Derived.Orders
namespace Go.Proofs.Ytchapaejdgnihaa.E
open Go
set_option linter.unusedVariables false
set_option linter.unusedSimpArgs false
section
variable {R : Type} {P : Program}
/-! ### Functions -/
/-- What a call comes to. -/
def Post (P : Program) (ι : Nat → Loc) (μ : AMem) (w : World) (r : AV) (μ' : AMem) : Ending → World → Prop :=
  fun e w' => ∃ ι' v, e = .returned v ∧ Tr P ι μ w ι' μ' w' ∧ Dead μ μ' ∧ AVR ι' μ' r v
def Sound (P : Program) (f : FuncId) (F : FunA) : Prop := ∀ as μ r μ', F as μ = some (r, μ') →
  (∃ fn, P.funcs[f]? = some fn ∧ (fn.name == "runtime.NumGoroutine") = false ∧ fn.body.isNone = false) ∧
  ∀ ι w (vs : List Value), Sim P ι μ w → All2 (AVR ι μ) as vs → Calls P f vs.toArray w (Post P ι μ w r μ')
theorem Sound.none (f : FuncId) : Sound P f (fun _ _ => none) := fun _ _ _ _ h => by cases h

/-- What holds between slots. -/
def EnvR (ι : Nat → Loc) (μ : AMem) (e : Env) (a : Act) : Prop := ∀ s, AVR ι μ (e s) (a.tmps.getD s undef)
theorem EnvR.mono {ι ι' : Nat → Loc} {μ μ' : AMem} (hx : Ext ι μ ι' μ') {e : Env} {a : Act} (h : EnvR ι μ e a) : EnvR ι' μ' e a := fun s => (h s).mono hx
theorem undef_rel (ι : Nat → Loc) (μ : AMem) : AVR ι μ (.tuple []) undef := ⟨#[], rfl, rfl⟩
theorem put_getD {a : Act} {d : Nat} {u : Value} (hd : d < a.tmps.size) (s : Nat) : (a.put (some d) u).tmps.getD s undef = if s = d then u else a.tmps.getD s undef := by
  simp only [Act.put, Array.getD_eq_getD_getElem?, Array.getElem?_setIfInBounds]
  by_cases h : d = s
  · subst h; simp [hd]
  · have : ¬ s = d := fun e => h e.symm
    simp [h, this]
theorem beq_no {s d : Nat} (h : ¬ s = d) : Nat.beq s d = false := by
  cases hb : Nat.beq s d with
  | false => rfl
  | true => exact absurd (Nat.eq_of_beq_eq_true hb) h
theorem EnvR.put {ι : Nat → Loc} {μ : AMem} {e : Env} {a : Act} (h : EnvR ι μ e a) {d : Option Nat} {v : AV} {u : Value} (hd : ∀ x, d = some x → x < a.tmps.size) (hv : AVR ι μ v u) : EnvR ι μ (e.put d v) (a.put d u) := by
  cases d with
  | none => exact h
  | some d =>
    intro s
    rw [put_getD (hd d rfl)]
    simp only [Env.put]
    by_cases hs : s = d
    · subst hs; simpa using hv
    · have : Nat.beq s d = false := beq_no hs
      simp only [this, cond_false, if_neg hs]; exact h s
theorem put_size (a : Act) (d : Option Nat) (u : Value) : (a.put d u).tmps.size = a.tmps.size := by cases d <;> simp [Act.put]
theorem put_defers' (a : Act) (d : Option Nat) (u : Value) : (a.put d u).defers = a.defers := by cases d <;> rfl
theorem put_other (a : Act) (d : Option Nat) (u : Value) (s : Nat) (h : d ≠ some s) : (a.put d u).tmps.getD s undef = a.tmps.getD s undef := by
  cases d with
  | none => rfl
  | some d =>
    have : d ≠ s := fun e => h (by rw [e])
    simp [Act.put, Array.getElem?_setIfInBounds_ne this]

theorem kd_alc {op : Op} (h : kdOf op = .alc) : newA op = true := by
  cases op with
  | call c => obtain ⟨ce, as, ts⟩ := c; cases ce with
    | builtin b => cases b <;> cases h
    | _ => cases h
  | box _ _ => rfl
  | alloc _ => rfl
  | buildSlice _ _ _ => rfl
  | makeSlice _ _ _ => rfl
  | _ => cases h
/-- One operation. -/
theorem stepK_wp {Γ : FuncId → FunA} (hΓ : ∀ f, Sound P f (Γ f)) {ι : Nat → Loc} {μ : AMem} {w : World} (hs : Sim P ι μ w) {e : Env} {a : Act} (he : EnvR ι μ e a)
    {nid : Nat} {o : Oper} (hnf : newA o.op = true → nid < μ.next ∧ μ.obj nid = none) {K : AV → AMem → Option R} {r : R} (h : stepK P Γ e nid μ o K = some r) :
    ∃ v μ', K v μ' = some r ∧
      ∀ (next : Act → World → Prop) (Q : Exit → Act → World → Prop), (∀ ι' w' u, Tr P ι μ w ι' μ' w' → (∀ j, j < μ.next → j ≠ nid → μ.obj j = none → μ'.obj j = none) → AVR ι' μ' v u → next (a.put o.dst u) w') → o.wp P a w next Q := by
  have hr := evalA_rel he
  unfold stepK at h
  split at h
  · obtain ⟨y, v, h1, h2, h3⟩ := pureK_tells (P := P) h hr
    refine ⟨y, μ, h1, fun next Q hN => ?_⟩
    unfold Oper.wp
    rw [h3, Oper.upon_value]
    exact hN ι w v (Tr.refl hs) (fun _ _ _ h => h) h2
  · split at h
    · rename_i t x hop
      obtain ⟨y, v, h1, h2, h3⟩ := loadK_tells (P := P) hs h (hr x)
      refine ⟨y, μ, viewK_some h1, fun next Q hN => ?_⟩
      unfold Oper.wp execOp
      rw [hop]
      simp only [Sem.run_bind, h3, Result.andThen_ok, Sem.run_pure, Oper.upon_value]
      exact hN ι w v (Tr.refl hs) (fun _ _ _ h => h) h2
    · cases h
  · rename_i hkd
    obtain ⟨hn, hf⟩ := hnf (kd_alc hkd)
    obtain ⟨ob, y, v, ι', w', h1, h2, h3, h4⟩ := allocK_tells (P := P) hs hn hf (ρ := a.eval) (o := o) h hr
    refine ⟨y, μ.set nid ob, h1, fun next Q hN => ?_⟩
    unfold Oper.wp
    rw [h2, Oper.upon_value]
    exact hN ι' w' v h3 (fun j _ hj hd => Dead1.set j hj hd) h4
  · rw [effK_nat] at h
    obtain ⟨⟨y0, μ0⟩, h0, h⟩ := Option.bind_eq_some_iff.mp h
    have hd := effK_dead h0
    obtain ⟨y, μ', ι', w', h1, h2, h3⟩ := effK_does (P := P) hs (ρ := a.eval) (o := o) hnf h0 hr
    cases h1
    refine ⟨_, _, viewK_some h, fun next Q hN => ?_⟩
    unfold Oper.wp
    rcases h2 with ⟨v, h2, h4⟩ | ⟨h2, rfl⟩
    · rw [h2, Oper.upon_value]; exact hN ι' w' v h3 (fun j _ hj => hd j hj) h4
    · rw [h2, Oper.upon_skip]; exact hN ι' w' undef h3 (fun j _ hj => hd j hj) (undef_rel _ _)
  · unfold callK at h
    split at h
    · rename_i f as ts hop
      unfold callV at h
      split at h
      · rename_i g caps hfe
        obtain ⟨⟨y, μ'⟩, hy, h1⟩ := Option.bind_eq_some_iff.mp h
        obtain ⟨⟨fn, hfn, hname, hbody⟩, hcalls⟩ := hΓ g _ _ _ _ hy
        have hfv := hr f
        rw [hfe] at hfv
        obtain ⟨cvs, hfv, hcs, hcr⟩ := hfv
        refine ⟨y, μ', viewK_some h1, fun next Q hN => ?_⟩
        have hargs : All2 (AVR ι μ) (as.toList.map (evalA e) ++ caps.map fun c => .s (.ptr c.1 c.2.1 c.2.2)) (as.toList.map a.eval ++ cvs.toList) := by
          refine (map_rel hr as.toList).append ⟨by simp [hcs], fun i x hi => ?_⟩
          rw [List.getElem?_map] at hi
          obtain ⟨c, hc, rfl⟩ := Option.map_eq_some_iff.mp hi
          obtain ⟨u, hu, hp⟩ := hcr i c hc
          exact ⟨u, by rw [Array.getElem?_toList]; exact hu, hp⟩
        have hc := hcalls ι w _ hs hargs
        unfold Oper.wp execOp
        rw [hop]
        have harr : (as.toList.map a.eval ++ cvs.toList).toArray = as.map a.eval ++ cvs := by apply Array.ext'; simp
        rw [harr] at hc
        have hres : (resolve a.eval { callee := .value f, args := as, argTypes := ts } o.type).run P w = .ok { target := .fn (.func g) cvs, args := as.map a.eval } w := by
          simp only [resolve, hfv, Deferred.ofValue, Sem.run_pure]
          simp
        have hinv : (callFunc g (as.map a.eval ++ cvs)).run P w = .ok (.enter g (as.map a.eval ++ cvs)) w := by
          unfold callFunc
          rw [Sem.run_bind, run_program]
          simp only [Result.andThen_ok, hfn, hname, hbody, Bool.false_eq_true, if_false, Sem.run_pure]
        rw [Sem.run_bind, hres]
        simp only [Result.andThen_ok, invoke]
        rw [hinv, Oper.upon_enter]
        refine hc.mono fun en w' hp => ?_
        obtain ⟨ι', v, rfl, ht, hdead, hv⟩ := hp
        exact hN ι' w' v ht (fun j hj _ hd => hdead j hj hd) hv
      · cases h
    · cases h

theorem cutM_tells {ι : Nat → Loc} {μ : AMem} {w : World} (hs : Sim P ι μ w) {t e : TypeId} {n : Nat} {x : AV} {l h : Int} {K : AV → Option R} {r : R} (hk : cutM (n + 1) μ x l h K = some r) {a : Value} (ha : AVR ι μ x a)
    (hu : P.underlying t = some (.slice e)) (hn : sizeA P e = some (n + 1)) (lo : Option Value) (k : IntKind)
    (hlo : ∀ w (y : Nat), 0 ≤ l → l ≤ y → (match lo with | some v => Instr.sliceBound v y .sliceB | none => pure 0 : Sem Nat).run P w = .ok l.toNat w) :
    ∃ y v, K y = some r ∧ AVR ι μ y v ∧ (Instr.sliceAt t a lo (some (.int k h)) none).run P w = .ok v w := by
  unfold cutM at hk
  split at hk
  · split at hk
    · rename_i hb
      obtain ⟨rfl, rfl⟩ := hb
      simp only [AVR, SVR] at ha
      subst ha
      have h1 : (match (some (.int k 0) : Option Value) with | some v => Instr.sliceBound v 0 .sliceAcap | none => pure 0 : Sem Nat).run P w = .ok 0 w := bound_run _ (by omega) (by omega) w
      have hbs := bounds_run (P := P) (lo := lo) (hi := some (.int k 0)) (len := 0) (cap := 0) (l := 0) (h := 0) (w := w) h1 (hlo w 0 (by omega) (by omega))
      refine ⟨_, .slice none 0 0, hk, rfl, ?_⟩
      simp only [Instr.sliceAt, Sem.run_bind, run_und hu, Result.andThen_ok, Instr.slice, hbs, run_siz hn, Sem.run_pure, Option.map_none]
      rfl
    · cases hk
  · rename_i id ver len
    obtain ⟨o, ho, hk1⟩ := Option.bind_eq_some_iff.mp hk
    split at hk1
    · rename_i hver
      obtain ⟨c, hc, hk2⟩ := Option.bind_eq_some_iff.mp hk1
      split at hk2
      · rename_i hb
        obtain ⟨o', ho', hv, ad, cap, rfl, hlc, hh⟩ := ha
        rw [ho] at ho'
        obtain rfl := Option.some.inj ho'
        obtain ⟨g1, g2⟩ := hh hver
        have hcap : cap = c := (g1 rfl).trans ((hs.live id o ho).2.cap c hc)
        subst hcap
        have h1 : (match (some (.int k h) : Option Value) with | some v => Instr.sliceBound v cap .sliceAcap | none => pure len : Sem Nat).run P w = .ok h.toNat w := bound_run _ (by omega) (by omega) w
        have hbs := bounds_run (P := P) (lo := lo) (hi := some (.int k h)) (len := len) (cap := cap) (l := l.toNat) (h := h.toNat) (w := w) h1 (hlo w h.toNat hb.1 (by omega))
        refine ⟨_, .slice (some (if cap = l.toNat then ad else ad.add (l.toNat * (n + 1)))) (h.toNat - l.toNat) (cap - l.toNat), hk2, ?_, ?_⟩
        · refine ⟨o, ho, hv, _, _, rfl, by omega, fun hov => ?_⟩
          refine ⟨fun h0 => ?_, ?_⟩
          · have : l.toNat = 0 := by
              have h0' : l.toNat * (n + 1) = 0 := by omega
              rcases Nat.mul_eq_zero.mp h0' with h0' | h0'
              · exact h0'
              · omega
            rw [this, Nat.sub_zero]; exact g1 (by omega)
          · by_cases hc' : cap = l.toNat
            · right; omega
            · rw [if_neg hc']
              rcases g2 with g2 | g2
              · left
                rw [g2]
                unfold Addr.add
                split
                · rename_i e0; simp [e0]
                · simp [Nat.add_assoc]
              · right; omega
        · simp only [Instr.sliceAt, Sem.run_bind, run_und hu, Result.andThen_ok, Instr.slice, hbs, run_siz hn, Sem.run_pure, Option.map_some]
          congr 2
          split <;> rfl
      · cases hk2
    · cases hk1
  · cases hk
/-- One operation, where cuts go up to the capacity. -/
theorem stepW_wp {Γ : FuncId → FunA} (hΓ : ∀ f, Sound P f (Γ f)) {ι : Nat → Loc} {μ : AMem} {w : World} (hs : Sim P ι μ w) {e : Env} {a : Act} (he : EnvR ι μ e a)
    {nid : Nat} {o : Oper} (hnf : newA o.op = true → nid < μ.next ∧ μ.obj nid = none) {K : AV → AMem → Option R} {r : R} (h : stepW P Γ e nid μ o K = some r) :
    ∃ v μ', K v μ' = some r ∧
      ∀ (next : Act → World → Prop) (Q : Exit → Act → World → Prop), (∀ ι' w' u, Tr P ι μ w ι' μ' w' → (∀ j, j < μ.next → j ≠ nid → μ.obj j = none → μ'.obj j = none) → AVR ι' μ' v u → next (a.put o.dst u) w') → o.wp P a w next Q := by
  have hr := evalA_rel he
  unfold stepW at h
  split at h
  · rename_i t x lo hi hop
    have fin : ∀ {y v} {lv hv : Option Value}, (Instr.sliceAt t (a.eval x) (lo.map a.eval) (hi.map a.eval) none).run P w = .ok v w → K y μ = some r → AVR ι μ y v → ∃ v μ', K v μ' = some r ∧
        ∀ (next : Act → World → Prop) (Q : Exit → Act → World → Prop), (∀ ι' w' u, Tr P ι μ w ι' μ' w' → (∀ j, j < μ.next → j ≠ nid → μ.obj j = none → μ'.obj j = none) → AVR ι' μ' v u → next (a.put o.dst u) w') → o.wp P a w next Q := by
      intro y v lv hv h1 h2 h3
      refine ⟨y, μ, h2, fun next Q hN => ?_⟩
      have : (execOp a.eval o).run P w = .ok (.value v) w := by
        unfold execOp; rw [hop]
        simp only [Sem.run_bind, Option.map_none, h1, Result.andThen_ok, Sem.run_pure]
      unfold Oper.wp
      rw [this, Oper.upon_value]
      exact hN ι w v (Tr.refl hs) (fun _ _ _ h => h) h3
    unfold sliceW at h
    split at h
    · rename_i e1 hu
      split at h
      · rename_i n hn
        split at h
        · rename_i hl hh
          obtain ⟨b, hb⟩ : ∃ b, hi = some b := by cases hi with | none => cases hh | some b => exact ⟨b, rfl⟩
          obtain rfl : lo = none := by cases lo with | none => rfl | some _ => cases hl
          subst hb
          simp only [Option.map_some, Option.some.injEq] at hh
          obtain ⟨k, m, hm, h1⟩ := asN_some h
          have hbv : a.eval b = .int k m := by have := hr b; rw [hh, hm] at this; exact this
          obtain ⟨y, v, g1, g2, g3⟩ := cutM_tells (P := P) hs h1 (hr x) hu hn none k (fun w y _ _ => by simp_all)
          exact fin (lv := none) (hv := none) (by simpa only [Option.map_none, Option.map_some, hbv] using g3) g1 g2
        · rename_i hl hh
          obtain ⟨b, hb⟩ : ∃ b, hi = some b := by cases hi with | none => cases hh | some b => exact ⟨b, rfl⟩
          obtain ⟨b', hb'⟩ : ∃ b, lo = some b := by cases lo with | none => cases hl | some b => exact ⟨b, rfl⟩
          subst hb hb'
          simp only [Option.map_some, Option.some.injEq] at hh hl
          obtain ⟨k', m', hm', h1⟩ := asN_some h
          obtain ⟨k, m, hm, h2⟩ := asN_some h1
          have hbv : a.eval b = .int k m := by have := hr b; rw [hh, hm] at this; exact this
          have hbv' : a.eval b' = .int k' m' := by have := hr b'; rw [hl, hm'] at this; exact this
          obtain ⟨y, v, g1, g2, g3⟩ := cutM_tells (P := P) hs h2 (hr x) hu hn (some (.int k' m')) k (fun w y h0 h1 => bound_run _ h0 h1 w)
          exact fin (lv := none) (hv := none) (by simpa only [Option.map_some, hbv, hbv'] using g3) g1 g2
        · cases h
      · cases h
    · cases h
  · exact stepK_wp hΓ hs he hnf h

/-- A guard. -/
theorem guardedK_wanted {ι : Nat → Loc} {μ : AMem} {ops : Array Oper} {e : Env} {a : Act} (he : EnvR ι μ e a) {o : Oper} {X Y : Env → Option R} {r : R} (h : guardedK ops e o X Y = some r) :
    ∃ e', EnvR ι μ e' a ∧ ((X e' = some r ∧ Region.wanted o (yielded ops a.tmps) = true) ∨ (Y e' = some r ∧ Region.wanted o (yielded ops a.tmps) = false)) := by
  unfold guardedK at h
  unfold Region.wanted
  split at h
  · rename_i hg
    exact ⟨e, he, .inl ⟨h, by rw [hg]⟩⟩
  · rename_i j want hg
    rw [hg]
    split at h
    · cases h
    · rename_i d hd
      have hsame : ∀ b, e d = .s (.bool b) → EnvR ι μ (e.put (some d) (.s (.bool b))) a := by
        intro b hb s
        simp only [Env.put]
        by_cases hs : s = d
        · subst hs; simp only [Nat.beq_refl, cond_true]; rw [← hb]; exact he s
        · have : Nat.beq s d = false := beq_no hs
          simp only [this, cond_false]; exact he s
      have hed := he d
      unfold guardK at h
      split at h
      · rename_i b hb
        rw [hb] at hed
        have hv : a.tmps.getD d undef = .bool b := hed
        have hy : yielded ops a.tmps j = some b := by
          unfold yielded
          rw [hd]
          simp only [Option.bind_some]
          rw [Array.getD_eq_getD_getElem?] at hv
          cases ht : a.tmps[d]? with
          | none => rw [ht] at hv; cases hv
          | some x => rw [ht] at hv; simp at hv; subst hv; rfl
        cases want <;> cases b <;> simp only [cond_true, cond_false, Bool.not_true, Bool.not_false] at h
        · exact ⟨_, hsame false hb, .inl ⟨h, by simp [hy]⟩⟩
        · exact ⟨_, hsame true hb, .inr ⟨h, by simp [hy]⟩⟩
        · exact ⟨_, hsame false hb, .inr ⟨h, by simp [hy]⟩⟩
        · exact ⟨_, hsame true hb, .inl ⟨h, by simp [hy]⟩⟩
      · rename_i hb
        rw [hb] at hed
        obtain ⟨vs, hv, hall⟩ := hed
        obtain rfl : vs = #[] := by apply Array.ext'; exact hall
        have hy : yielded ops a.tmps j = none := by
          unfold yielded
          rw [hd]
          simp only [Option.bind_some]
          rw [Array.getD_eq_getD_getElem?] at hv
          cases ht : a.tmps[d]? with
          | none => rfl
          | some x => rw [ht] at hv; simp at hv; subst hv; rfl
        exact ⟨e, he, .inr ⟨h, by simp [hy]⟩⟩
      · cases h

/-- What is so all along in a function's run. -/
structure In (P : Program) (ι : Nat → Loc) (μ : AMem) (w : World) (nt : Nat) (e : Env) (a : Act) : Prop where
  sim : Sim P ι μ w
  env : EnvR ι μ e a
  size : a.tmps.size = nt
  defers : a.defers = []
/-- The one goes on to the other. -/
structure On (P : Program) (n : Nat) (ι : Nat → Loc) (μ : AMem) (w : World) (a : Act) (W : List Nat) (ι' : Nat → Loc) (μ' : AMem) (w' : World) (a' : Act) : Prop where
  tr : Tr P ι μ w ι' μ' w'
  dead : ∀ j, j < n → μ.obj j = none → μ'.obj j = none
  keeps : ∀ s, s ∉ W → a'.tmps.getD s undef = a.tmps.getD s undef
theorem On.trans {ι ι1 ι2 : Nat → Loc} {μ μ1 μ2 : AMem} {w w1 w2 : World} {a a1 a2 : Act} {V W X : List Nat} {n m : Nat} (h : On P n ι μ w a V ι1 μ1 w1 a1) (k : On P m ι1 μ1 w1 a1 W ι2 μ2 w2 a2) (hnm : n ≤ m)
    (hV : ∀ s, s ∈ V → s ∈ X) (hW : ∀ s, s ∈ W → s ∈ X) : On P n ι μ w a X ι2 μ2 w2 a2 :=
  ⟨h.tr.trans k.tr, fun j hj hd => k.dead j (Nat.lt_of_lt_of_le hj hnm) (h.dead j hj hd), fun s hs => (k.keeps s fun x => hs (hW s x)).trans (h.keeps s fun x => hs (hV s x))⟩

/-- What the operations that are still to come need: their objects' numbers are free. -/
def Free (ops : Array Oper) (N : Nat) (l : List Nat) (μ : AMem) : Prop := newsA ops = true → ∀ i ∈ l, N + i < μ.next ∧ μ.obj (N + i) = none
theorem newsA_of {ops : Array Oper} {i : Nat} {o : Oper} (ho : ops[i]? = some o) (h : newA o.op = true) : newsA ops = true := by
  rw [newsA, Array.any_eq_true']
  exact ⟨o, Array.mem_of_getElem? ho, h⟩
/-- One operation of a region, guarded. -/
theorem oneK_wp {Γ : FuncId → FunA} (hΓ : ∀ f, Sound P f (Γ f)) {ops : Array Oper} {N i nt : Nat} {ι : Nat → Loc} {μ : AMem} {w : World} {e : Env} {a : Act} (hi : In P ι μ w nt e a)
    {o : Oper} (hnf : newA o.op = true → N + i < μ.next ∧ μ.obj (N + i) = none) (ho : ops[i]? = some o) (hd : ∀ d, o.dst = some d → d < nt) {W : List Nat} (hW : ∀ d, o.dst = some d → d ∈ W)
    {K : Env → AV → AMem → Option R} {K' : Env → Option R} {r : R}
    (h : guardedK ops e o (fun e => stepK P Γ e (N + i) μ o (K e)) K' = some r) :
    ∃ e' v μ',
      ((K e' v μ' = some r) ∨ (K' e' = some r ∧ v = .tuple [] ∧ μ' = μ)) ∧
      ∀ (next : Act → World → Prop) (Q : Exit → Act → World → Prop), (∀ ι' w' a', Tr P ι μ w ι' μ' w' → (∀ j, j < μ.next → j ≠ N + i → μ.obj j = none → μ'.obj j = none) → In P ι' μ' w' nt (e'.put o.dst v) a' → (∀ s, s ∉ W → a'.tmps.getD s undef = a.tmps.getD s undef) → next a' w') → wpOp P ops Q i next a w := by
  obtain ⟨e', he', h1⟩ := guardedK_wanted hi.env h
  have fin : ∀ ι' μ' w' v u, Tr P ι μ w ι' μ' w' → AVR ι' μ' v u → In P ι' μ' w' nt (e'.put o.dst v) (a.put o.dst u) ∧ (∀ s, s ∉ W → (a.put o.dst u).tmps.getD s undef = a.tmps.getD s undef) := by
    intro ι' μ' w' v u ht hv
    refine ⟨⟨ht.sim, (he'.mono ht.ext).put (fun x hx => by rw [hi.size]; exact hd x hx) hv, by rw [put_size]; exact hi.size, by rw [put_defers']; exact hi.defers⟩, fun s hs => put_other _ _ _ _ fun e => hs (hW s e)⟩
  rcases h1 with ⟨h1, hw⟩ | ⟨h1, hw⟩
  · obtain ⟨v, μ', h2, h4⟩ := stepK_wp (P := P) hΓ hi.sim he' hnf h1
    refine ⟨e', v, μ', .inl h2, fun next Q hN => ?_⟩
    unfold wpOp
    rw [ho]
    simp only [hw, if_true]
    exact .inl (h4 _ Q fun ι' w' u ht hdd hv => hN ι' w' _ ht hdd (fin _ _ _ _ _ ht hv).1 (fin _ _ _ _ _ ht hv).2)
  · refine ⟨e', .tuple [], μ, .inr ⟨h1, rfl, rfl⟩, fun next Q hN => ?_⟩
    unfold wpOp
    rw [ho]
    simp only [hw, Bool.false_eq_true, if_false]
    have ht := Tr.refl hi.sim
    exact hN ι w _ ht (fun _ _ _ h => h) (fin _ _ _ _ _ ht (undef_rel _ _)).1 (fin _ _ _ _ _ ht (undef_rel _ _)).2

/-- One operation of a region, guarded, where cuts go up to the capacity. -/
theorem oneW_wp {Γ : FuncId → FunA} (hΓ : ∀ f, Sound P f (Γ f)) {ops : Array Oper} {N i nt : Nat} {ι : Nat → Loc} {μ : AMem} {w : World} {e : Env} {a : Act} (hi : In P ι μ w nt e a)
    {o : Oper} (hnf : newA o.op = true → N + i < μ.next ∧ μ.obj (N + i) = none) (ho : ops[i]? = some o) (hd : ∀ d, o.dst = some d → d < nt) {W : List Nat} (hW : ∀ d, o.dst = some d → d ∈ W)
    {K : Env → AV → AMem → Option R} {K' : Env → Option R} {r : R}
    (h : guardedK ops e o (fun e => stepW P Γ e (N + i) μ o (K e)) K' = some r) :
    ∃ e' v μ',
      ((K e' v μ' = some r) ∨ (K' e' = some r ∧ v = .tuple [] ∧ μ' = μ)) ∧
      ∀ (next : Act → World → Prop) (Q : Exit → Act → World → Prop), (∀ ι' w' a', Tr P ι μ w ι' μ' w' → (∀ j, j < μ.next → j ≠ N + i → μ.obj j = none → μ'.obj j = none) → In P ι' μ' w' nt (e'.put o.dst v) a' → (∀ s, s ∉ W → a'.tmps.getD s undef = a.tmps.getD s undef) → next a' w') → wpOp P ops Q i next a w := by
  obtain ⟨e', he', h1⟩ := guardedK_wanted hi.env h
  have fin : ∀ ι' μ' w' v u, Tr P ι μ w ι' μ' w' → AVR ι' μ' v u → In P ι' μ' w' nt (e'.put o.dst v) (a.put o.dst u) ∧ (∀ s, s ∉ W → (a.put o.dst u).tmps.getD s undef = a.tmps.getD s undef) := by
    intro ι' μ' w' v u ht hv
    refine ⟨⟨ht.sim, (he'.mono ht.ext).put (fun x hx => by rw [hi.size]; exact hd x hx) hv, by rw [put_size]; exact hi.size, by rw [put_defers']; exact hi.defers⟩, fun s hs => put_other _ _ _ _ fun e => hs (hW s e)⟩
  rcases h1 with ⟨h1, hw⟩ | ⟨h1, hw⟩
  · obtain ⟨v, μ', h2, h4⟩ := stepW_wp (P := P) hΓ hi.sim he' hnf h1
    refine ⟨e', v, μ', .inl h2, fun next Q hN => ?_⟩
    unfold wpOp
    rw [ho]
    simp only [hw, if_true]
    exact .inl (h4 _ Q fun ι' w' u ht hdd hv => hN ι' w' _ ht hdd (fin _ _ _ _ _ ht hv).1 (fin _ _ _ _ _ ht hv).2)
  · refine ⟨e', .tuple [], μ, .inr ⟨h1, rfl, rfl⟩, fun next Q hN => ?_⟩
    unfold wpOp
    rw [ho]
    simp only [hw, Bool.false_eq_true, if_false]
    have ht := Tr.refl hi.sim
    exact hN ι w _ ht (fun _ _ _ h => h) (fin _ _ _ _ _ ht (undef_rel _ _)).1 (fin _ _ _ _ _ ht (undef_rel _ _)).2

theorem dstsA_spec {nt : Nat} {ops : Array Oper} (h : dstsA nt ops = true) {i : Nat} {o : Oper} (ho : ops[i]? = some o) : ∀ d, o.dst = some d → d < nt := by
  intro d hd
  have := Array.all_eq_true_iff_forall_mem.1 h o (Array.mem_of_getElem? ho)
  rw [hd] at this
  simpa using this
theorem dst_mem {ops : Array Oper} {i : Nat} {o : Oper} (ho : ops[i]? = some o) : ∀ d, o.dst = some d → d ∈ ops.toList.filterMap (·.dst) :=
  fun d hd => List.mem_filterMap.2 ⟨o, by simpa using Array.mem_of_getElem? ho, hd⟩

/-- A region in its given order. -/
theorem runA_wp {Γ : FuncId → FunA} (hΓ : ∀ f, Sound P f (Γ f)) {ops : Array Oper} {N nt : Nat} (hd : dstsA nt ops = true) {K : Env → AMem → Option R} {r : R} {Q : Exit → Act → World → Prop} :
    ∀ (l : List Nat) (ι : Nat → Loc) (μ : AMem) (w : World) (e : Env) (a : Act), l.Nodup → N ≤ μ.next → In P ι μ w nt e a → Free ops N l μ → runA P Γ ops N K l e μ = some r →
      (∀ ι' μ' w' e' a', K e' μ' = some r → On P N ι μ w a (ops.toList.filterMap (·.dst)) ι' μ' w' a' → In P ι' μ' w' nt e' a' → Q .normal a' w') → wpOps P ops Q l a w
  | [], ι, μ, w, e, a, _, _, hi, _, h, hQ => hQ ι μ w e a h ⟨Tr.refl hi.sim, fun _ _ h => h, fun _ _ => rfl⟩ hi
  | i :: l, ι, μ, w, e, a, hnd, hN, hi, hfree, h, hQ => by
    unfold runA at h
    split at h
    · cases h
    · rename_i o ho
      have hil := (List.nodup_cons.1 hnd).1
      obtain ⟨e', v, μ', h2, h3⟩ := oneK_wp (K := fun e v μ' => runA P Γ ops N K l (e.put o.dst v) μ') (K' := fun e => runA P Γ ops N K l (e.put o.dst (.tuple [])) μ) hΓ hi
        (fun hnew => hfree (newsA_of ho hnew) i (List.mem_cons_self ..)) ho (dstsA_spec hd ho) (dst_mem ho) h
      rw [wpOps_cons]
      refine h3 _ Q fun ι' w' a' ht h1 hi' hk => ?_
      have h2' : runA P Γ ops N K l (e'.put o.dst v) μ' = some r := by
        rcases h2 with h2 | ⟨h2, rfl, rfl⟩ <;> exact h2
      have hdead : ∀ j, j < N → μ.obj j = none → μ'.obj j = none := fun j hj hdj => h1 j (by omega) (by omega) hdj
      refine runA_wp hΓ hd l ι' μ' w' _ a' (List.nodup_cons.1 hnd).2 (Nat.le_trans hN ht.next) hi' (fun hnew j hj => ?_) h2'
        (fun ι2 μ2 w2 e2 a2 hK hon hin => hQ ι2 μ2 w2 e2 a2 hK (On.trans ⟨ht, hdead, hk⟩ hon (Nat.le_refl _) (fun _ h => h) (fun _ h => h)) hin)
      obtain ⟨hnj, hfj⟩ := hfree hnew j (List.mem_cons_of_mem _ hj)
      have hji : N + j ≠ N + i := fun e => hil (by
        have : j = i := by omega
        rw [← this]; exact hj)
      exact ⟨Nat.lt_of_lt_of_le hnj ht.next, h1 _ hnj hji hfj⟩
/-- A region in its given order, where cuts go up to the capacity. -/
theorem runW_wp {Γ : FuncId → FunA} (hΓ : ∀ f, Sound P f (Γ f)) {ops : Array Oper} {N nt : Nat} (hd : dstsA nt ops = true) {K : Env → AMem → Option R} {r : R} {Q : Exit → Act → World → Prop} :
    ∀ (l : List Nat) (ι : Nat → Loc) (μ : AMem) (w : World) (e : Env) (a : Act), l.Nodup → N ≤ μ.next → In P ι μ w nt e a → Free ops N l μ → runW P Γ ops N K l e μ = some r →
      (∀ ι' μ' w' e' a', K e' μ' = some r → On P N ι μ w a (ops.toList.filterMap (·.dst)) ι' μ' w' a' → In P ι' μ' w' nt e' a' → Q .normal a' w') → wpOps P ops Q l a w
  | [], ι, μ, w, e, a, _, _, hi, _, h, hQ => hQ ι μ w e a h ⟨Tr.refl hi.sim, fun _ _ h => h, fun _ _ => rfl⟩ hi
  | i :: l, ι, μ, w, e, a, hnd, hN, hi, hfree, h, hQ => by
    unfold runW at h
    split at h
    · cases h
    · rename_i o ho
      have hil := (List.nodup_cons.1 hnd).1
      obtain ⟨e', v, μ', h2, h3⟩ := oneW_wp (K := fun e v μ' => runW P Γ ops N K l (e.put o.dst v) μ') (K' := fun e => runW P Γ ops N K l (e.put o.dst (.tuple [])) μ) hΓ hi
        (fun hnew => hfree (newsA_of ho hnew) i (List.mem_cons_self ..)) ho (dstsA_spec hd ho) (dst_mem ho) h
      rw [wpOps_cons]
      refine h3 _ Q fun ι' w' a' ht h1 hi' hk => ?_
      have h2' : runW P Γ ops N K l (e'.put o.dst v) μ' = some r := by
        rcases h2 with h2 | ⟨h2, rfl, rfl⟩ <;> exact h2
      have hdead : ∀ j, j < N → μ.obj j = none → μ'.obj j = none := fun j hj hdj => h1 j (by omega) (by omega) hdj
      refine runW_wp hΓ hd l ι' μ' w' _ a' (List.nodup_cons.1 hnd).2 (Nat.le_trans hN ht.next) hi' (fun hnew j hj => ?_) h2'
        (fun ι2 μ2 w2 e2 a2 hK hon hin => hQ ι2 μ2 w2 e2 a2 hK (On.trans ⟨ht, hdead, hk⟩ hon (Nat.le_refl _) (fun _ h => h) (fun _ h => h)) hin)
      obtain ⟨hnj, hfj⟩ := hfree hnew j (List.mem_cons_of_mem _ hj)
      have hji : N + j ≠ N + i := fun e => hil (by
        have : j = i := by omega
        rw [← this]; exact hj)
      exact ⟨Nat.lt_of_lt_of_le hnj ht.next, h1 _ hnj hji hfj⟩
end
end Go.Proofs.Ytchapaejdgnihaa.E
