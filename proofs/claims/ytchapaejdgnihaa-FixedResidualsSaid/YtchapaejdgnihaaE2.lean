/- The abstract machine is sound, part 2: each operation that does not look at memory. -/
import Derived.Test.YtchapaejdgnihaaE1
namespace Go.Proofs.Ytchapaejdgnihaa.E
open Go
set_option linter.unusedVariables false

section
variable {R : Type} {ι : Nat → Loc} {μ : AMem} {P : Program}

/-- The operation tells y's like, v, and K goes on with y. -/
def Tells (P : Program) (ι : Nat → Loc) (μ : AMem) (K : AV → Option R) (r : R) (s : Sem Value) : Prop :=
  ∃ y v, K y = some r ∧ AVR ι μ y v ∧ ∀ w, s.run P w = .ok v w

theorem constA_rel (v : Value) : AVR ι μ (constA v) v := by
  have key : ∀ y, constA v = y → AVR ι μ y v := by
    intro y h
    unfold constA at h
    split at h <;> subst h <;> first | trivial | rfl | exact ⟨#[], rfl, rfl, fun _ _ h => by simp at h⟩
  exact key _ rfl
theorem evalA_rel {e : Env} {a : Act} (h : ∀ s, AVR ι μ (e s) (a.tmps.getD s undef)) (x : Operand) : AVR ι μ (evalA e x) (a.eval x) := by
  cases x with
  | tmp t => exact h t
  | const v => exact constA_rel v
  | global g => trivial
  | func f => exact ⟨#[], rfl, rfl, fun _ _ h => by simp at h⟩

theorem asI_some {k : IntKind} {v : AV} {K : Int → Option R} {r : R} (h : asI k v K = some r) : ∃ n, v = .s (.int k n) ∧ K n = some r := by
  unfold asI at h
  split at h
  · split at h
    · rename_i e; subst e; exact ⟨_, rfl, h⟩
    · cases h
  · cases h
theorem asN_some {v : AV} {K : Int → Option R} {r : R} (h : asN v K = some r) : ∃ k n, v = .s (.int k n) ∧ K n = some r := by
  unfold asN at h
  split at h
  · exact ⟨_, _, rfl, h⟩
  · cases h
theorem asB_some {v : AV} {K : Bool → Option R} {r : R} (h : asB v K = some r) : ∃ n, v = .s (.bool n) ∧ K n = some r := by
  unfold asB at h
  split at h
  · exact ⟨_, rfl, h⟩
  · cases h
theorem asS_some {v : AV} {K : SV → Option R} {r : R} (h : asS v K = some r) : ∃ n, v = .s n ∧ K n = some r := by
  unfold asS at h
  split at h
  · exact ⟨_, rfl, h⟩
  · cases h
theorem viewK_some {P : Program} {t : TypeId} {v : AV} {K : AV → Option R} {r : R} (h : viewK P t v K = some r) : K v = some r := by
  unfold viewK at h
  split at h
  · obtain ⟨n, rfl, h1⟩ := asI_some h; exact h1
  · obtain ⟨n, rfl, h1⟩ := asB_some h; exact h1
  · obtain ⟨n, rfl, h1⟩ := asS_some h; exact h1
  · obtain ⟨n, rfl, h1⟩ := asS_some h; exact h1
  · obtain ⟨n, rfl, h1⟩ := asS_some h; exact h1
  · exact h
theorem lenS_rel {v : AV} {n : Nat} {u : Value} (h : lenS v = some n) (hv : AVR ι μ v u) : ∃ a c, u = .slice a n c := by
  unfold lenS at h
  split at h
  · obtain rfl := Option.some.inj h
    obtain ⟨o, _, _, a, c, rfl, _⟩ := hv
    exact ⟨_, _, rfl⟩
  · obtain rfl := Option.some.inj h
    simp only [AVR, SVR] at hv
    exact ⟨_, _, hv⟩
  · cases h

theorem run_und {P : Program} {t : TypeId} {d : TypeDesc} (h : P.underlying t = some d) (w : World) : (underlying t).run P w = .ok d w := by
  simp [underlying, h]
theorem run_inf {P : Program} {t : TypeId} {d : TypeInfo} (h : P.info? t = some d) (w : World) : (typeInfo t).run P w = .ok d w := by
  simp [typeInfo, h]
theorem run_siz {P : Program} {t : TypeId} {n : Nat} (h : sizeA P t = some n) (w : World) : (sizeOf t).run P w = .ok n w := by
  unfold sizeA at h
  cases hi : P.info? t with
  | none => rw [hi] at h; cases h
  | some i => rw [hi] at h; obtain rfl := Option.some.inj h; simp [sizeOf, run_inf hi]
theorem run_agg {P : Program} {t : TypeId} {b : Bool} (h : aggA P t = some b) (w : World) : (isAgg t).run P w = .ok b w := by
  unfold aggA at h
  unfold isAgg
  split at h <;> rename_i hd
  · obtain rfl := Option.some.inj h; simp [run_und hd]
  · obtain rfl := Option.some.inj h; simp [run_und hd]
  · obtain rfl := Option.some.inj h
    rename_i d h1 h2
    rw [Sem.run_bind, run_und hd]
    cases d <;> first | rfl | (exact (h1 _ rfl).elim) | (exact (h2 _ _ rfl).elim)
  · cases h

theorem intK_tells {t : TypeId} {op : BinOp} {k : IntKind} {a b : Int} {K : SV → Option R} {r : R} (hs : isShift op = false) (h : intK op k a b K = some r) :
    ∃ y v, K y = some r ∧ SVR ι μ y v ∧ ∀ w, (binOp op t (.int k a) (.int k b)).run P w = .ok v w := by
  cases op <;> simp only [isShift, Bool.true_eq_false] at hs <;> simp only [intK] at h
  case quo =>
    split at h
    · cases h
    · rename_i hb; exact ⟨_, _, h, rfl, fun w => by simp [binOp, Op.intDiv, hb]⟩
  case rem =>
    split at h
    · cases h
    · rename_i hb; exact ⟨_, _, h, rfl, fun w => by simp [binOp, Op.intDiv, hb]⟩
  all_goals exact ⟨_, _, h, rfl, fun w => by simp [binOp, Op.intArith, Op.intBits, Op.intCmp]⟩
theorem shiftK_tells {t : TypeId} {op : BinOp} {k k' : IntKind} {a b : Int} {K : SV → Option R} {r : R} (h : shiftK op k a b K = some r) :
    ∃ y v, K y = some r ∧ SVR ι μ y v ∧ ∀ w, (binOp op t (.int k a) (.int k' b)).run P w = .ok v w := by
  cases op <;> simp only [shiftK] at h <;> first | (cases h; done) | skip
  all_goals
    split at h
    · cases h
    · rename_i hb; exact ⟨_, _, h, rfl, fun w => by simp [binOp, Op.shift, hb]⟩
theorem eqGuard_int (op : BinOp) (t : TypeId) (x y : Operand) (k k' : IntKind) (a b : Int) (w : World) : (eqGuard op t x y (.int k a) (.int k' b)).run P w = .ok () w := by
  unfold eqGuard; cases op <;> simp
theorem eqGuard_bool (op : BinOp) (t : TypeId) (x y : Operand) (a b : Bool) (w : World) : (eqGuard op t x y (.bool a) (.bool b)).run P w = .ok () w := by
  unfold eqGuard; cases op <;> simp
theorem eqGuard_ptr (op : BinOp) (t : TypeId) (x y : Operand) (a b : Option Addr) (w : World) : (eqGuard op t x y (.pointer a) (.pointer b)).run P w = .ok () w := by
  unfold eqGuard; cases op <;> simp
theorem maxDepth_eq : Op.maxDepth = 9999 + 1 := rfl
theorem equal_bool {t : TypeId} (h : P.underlying t = some .bool) (a b : Bool) (w : World) : (Op.equal t (.bool a) (.bool b)).run P w = .ok (a == b) w := by
  unfold Op.equal
  rw [maxDepth_eq, Op.equalIn, Sem.run_bind, run_und h]
  rfl
theorem equal_ptr {t e : TypeId} (h : P.underlying t = some (.pointer e)) (a : Option Addr) (w : World) : (Op.equal t (.pointer a) (.pointer none)).run P w = .ok a.isNone w := by
  unfold Op.equal
  rw [maxDepth_eq, Op.equalIn, Sem.run_bind, run_und h]
  cases a <;> rfl
theorem isNil_rel {v : AV} {b : Bool} {u : Value} (h : isNil v = some b) (hv : AVR ι μ v u) : ∃ a, u = .pointer a ∧ a.isNone = b := by
  unfold isNil at h
  split at h
  · obtain rfl := Option.some.inj h; simp only [AVR, SVR] at hv; exact ⟨none, hv, rfl⟩
  · obtain rfl := Option.some.inj h; obtain ⟨_, _, _, a, rfl, _⟩ := hv; exact ⟨some a, rfl, rfl⟩
  · cases h
theorem nilPtr_rel {u : Value} (hv : AVR ι μ (.s .nilPtr) u) : u = .pointer none := hv
theorem int_rel {k : IntKind} {n : Int} {u : Value} (hv : AVR ι μ (.s (.int k n)) u) : u = .int k n := hv
theorem bool_rel {n : Bool} {u : Value} (hv : AVR ι μ (.s (.bool n)) u) : u = .bool n := hv

theorem binK_tells {op : BinOp} {t : TypeId} {x y : AV} {K : AV → Option R} {r : R} (h : binK P op t x y K = some r) {a b : Value} (ha : AVR ι μ x a) (hb : AVR ι μ y b) (p q : Operand) :
    Tells P ι μ K r (do eqGuard op t p q a b; binOp op t a b) := by
  unfold binK at h
  split at h
  · rename_i k hu
    cases hs : isShift op with
    | true =>
      rw [hs] at h
      simp only [cond_true] at h
      obtain ⟨n, rfl, h1⟩ := asI_some h
      obtain ⟨k', m, rfl, h2⟩ := asN_some h1
      obtain rfl := int_rel ha
      obtain rfl := int_rel hb
      obtain ⟨y, v, g1, g2, g3⟩ := shiftK_tells (t := t) (P := P) (ι := ι) (μ := μ) (k' := k') h2
      exact ⟨_, v, g1, g2, fun w => by rw [Sem.run_bind, eqGuard_int]; exact g3 w⟩
    | false =>
      rw [hs] at h
      simp only [cond_false] at h
      obtain ⟨n, rfl, h1⟩ := asI_some h
      obtain ⟨m, rfl, h2⟩ := asI_some h1
      obtain rfl := int_rel ha
      obtain rfl := int_rel hb
      obtain ⟨y, v, g1, g2, g3⟩ := intK_tells (t := t) (P := P) (ι := ι) (μ := μ) hs h2
      exact ⟨_, v, g1, g2, fun w => by rw [Sem.run_bind, eqGuard_int]; exact g3 w⟩
  · rename_i hu
    split at h
    · obtain ⟨n, rfl, h1⟩ := asB_some h
      obtain ⟨m, rfl, h2⟩ := asB_some h1
      obtain rfl := bool_rel ha
      obtain rfl := bool_rel hb
      exact ⟨_, _, h2, rfl, fun w => by rw [Sem.run_bind, eqGuard_bool]; simp [binOp, equal_bool hu]⟩
    · obtain ⟨n, rfl, h1⟩ := asB_some h
      obtain ⟨m, rfl, h2⟩ := asB_some h1
      obtain rfl := bool_rel ha
      obtain rfl := bool_rel hb
      exact ⟨_, _, h2, rfl, fun w => by rw [Sem.run_bind, eqGuard_bool]; simp [binOp, equal_bool hu]⟩
    · cases h
  · rename_i e hu
    split at h
    · obtain ⟨n, hn, h1⟩ := Option.bind_eq_some_iff.mp h
      obtain ⟨p', rfl, hp⟩ := isNil_rel hn ha
      obtain rfl := nilPtr_rel hb
      exact ⟨_, _, h1, rfl, fun w => by rw [Sem.run_bind, eqGuard_ptr]; simp [binOp, equal_ptr hu, hp]⟩
    · obtain ⟨n, hn, h1⟩ := Option.bind_eq_some_iff.mp h
      obtain ⟨p', rfl, hp⟩ := isNil_rel hn ha
      obtain rfl := nilPtr_rel hb
      exact ⟨_, _, h1, rfl, fun w => by rw [Sem.run_bind, eqGuard_ptr]; simp [binOp, equal_ptr hu, hp]⟩
    · cases h
  · cases h
theorem unK_tells {op : UnOp} {x : AV} {K : AV → Option R} {r : R} (h : unK op x K = some r) {a : Value} (ha : AVR ι μ x a) : Tells P ι μ K r (Op.unary op a) := by
  unfold unK at h
  split at h
  · split at h
    · obtain rfl := int_rel ha
      exact ⟨_, _, h, rfl, fun w => by simp [Op.unary, Op.intArith]⟩
    · cases h
  · split at h
    · obtain rfl := int_rel ha
      exact ⟨_, _, h, rfl, fun w => by simp [Op.unary, Op.intBits]⟩
    · cases h
  · obtain ⟨n, rfl, h1⟩ := asB_some h
    obtain rfl := bool_rel ha
    exact ⟨_, _, h1, rfl, fun w => by simp [Op.unary]⟩
  · cases h
theorem convK_tells {s d : TypeId} {x : AV} {K : AV → Option R} {r : R} (h : convK P s d x K = some r) {a : Value} (ha : AVR ι μ x a) : Tells P ι μ K r (convert s d a) := by
  unfold convK at h
  split at h
  · rename_i k' k hs hd
    obtain ⟨q, n, rfl, h1⟩ := asN_some h
    obtain rfl := int_rel ha
    exact ⟨_, _, h1, rfl, fun w => by simp [convert, run_und hs, run_und hd, Conv.intToInt]⟩
  · cases h
theorem ptr_add_rel {id ver off n : Nat} {a : Value} (h : PtrR ι μ id ver off a) : ∃ ad, a = .pointer (some ad) ∧ PtrR ι μ id ver (off + n) (.pointer (some (ad.add n))) := by
  obtain ⟨o, ho, hv, ad, rfl, he⟩ := h
  refine ⟨ad, rfl, o, ho, hv, _, rfl, fun hh => ?_⟩
  rw [he hh]
  unfold Addr.add
  split
  · rename_i e; subst e; rfl
  · simp [Nat.add_assoc]
theorem fieldK_tells {st : TypeId} {f : Nat} {x : AV} {K : AV → Option R} {r : R} (h : fieldK P st f x K = some r) {a : Value} (ha : AVR ι μ x a) : Tells P ι μ K r (Instr.fieldAt st a f) := by
  unfold fieldK at h
  split at h
  · rename_i fs hu
    split at h
    · rename_i fd hf
      split at h
      · rename_i n hn
        unfold ptrAdd at h
        split at h
        · obtain ⟨ad, rfl, hp⟩ := ptr_add_rel (n := fd.offset) ha
          exact ⟨_, _, h, hp, fun w => by simp [Instr.fieldAt, run_und hu, hf, Instr.sureAddr, fieldPlace, run_siz hn]⟩
        · cases h
      · cases h
    · cases h
  · cases h
theorem partK_tells {st : TypeId} {f : Nat} {x : AV} {K : AV → Option R} {r : R} (h : partK P st f x K = some r) {a : Value} (ha : AVR ι μ x a) : Tells P ι μ K r (Instr.field st a f) := by
  unfold partK at h
  split at h
  · rename_i fs hu
    split at h
    · rename_i fd hf
      split at h
      · rename_i n hg hn
        unfold aggCut at h
        split at h
        · rename_i l
          obtain ⟨cs, rfl, hc⟩ := ha
          refine ⟨_, .agg (cs.extract fd.offset (fd.offset + n)), h, ⟨_, rfl, ?_⟩, fun w => by simp [Instr.field, run_und hu, hf, asAgg, part, run_agg hg, run_siz hn]⟩
          rw [Array.toList_extract]
          rw [List.extract_eq_take_drop]
          rw [Nat.add_sub_cancel_left]
          exact (hc.drop _).take _
        · cases h
      · rename_i n hg hn
        unfold aggAt at h
        split at h
        · rename_i l
          split at h
          · rename_i y hy
            obtain ⟨cs, rfl, hc⟩ := ha
            obtain ⟨u, hu', hr⟩ := hc.2 _ _ hy
            rw [Array.getElem?_toList] at hu'
            exact ⟨_, u, h, hr, fun w => by simp [Instr.field, run_und hu, hf, asAgg, part, run_agg hg, hu']⟩
          · cases h
        · cases h
      · cases h
    · cases h
  · cases h
theorem indexK_tells {t : TypeId} {x i : AV} {K : AV → Option R} {r : R} (h : indexK P t x i K = some r) {a b : Value} (ha : AVR ι μ x a) (hb : AVR ι μ i b) : Tells P ι μ K r (Instr.indexAt t a b) := by
  unfold indexK at h
  split at h
  · rename_i e hu
    split at h
    · rename_i n hn
      obtain ⟨k, m, rfl, h0⟩ := asN_some h
      obtain rfl := int_rel hb
      clear h
      unfold indS at h0
      split at h0
      · rename_i id ver off len
        split at h0
        · rename_i hm
          obtain ⟨o, ho, hv, ad, c, rfl, hlc, hh⟩ := ha
          have hp : PtrR ι μ id ver (off + m.toNat * n) (.pointer (some (ad.add (m.toNat * n)))) := by
            refine ⟨o, ho, hv, _, rfl, fun hov => ?_⟩
            obtain ⟨h1, h2⟩ := hh hov
            rcases h2 with h2 | h2
            · rw [h2]
              unfold Addr.add
              split
              · rename_i e0; simp [e0]
              · simp [Nat.add_assoc]
            · omega
          exact ⟨_, _, h0, hp, fun w => by simp [Instr.indexAt, asIntOf, run_und hu, run_siz hn, hm.1, hm.2]⟩
        · cases h0
      · cases h0
    · cases h
  · rename_i len e hu
    split at h
    · rename_i n hn
      obtain ⟨k, m, rfl, h0⟩ := asN_some h
      obtain rfl := int_rel hb
      clear h
      unfold indP at h0
      split at h0
      · split at h0
        · rename_i hm
          obtain ⟨ad, rfl, hp⟩ := ptr_add_rel (n := m.toNat * n) ha
          exact ⟨_, _, h0, hp, fun w => by simp [Instr.indexAt, asIntOf, run_und hu, run_siz hn, Instr.sureAddr, hm.1, hm.2]⟩
        · cases h0
      · cases h0
    · cases h
  · cases h

theorem bounds_run {lo hi : Option Value} {len cap l h : Nat} {w : World}
    (h1 : (match hi with | some v => Instr.sliceBound v cap .sliceAcap | none => pure len : Sem Nat).run P w = .ok h w)
    (h2 : (match lo with | some v => Instr.sliceBound v h .sliceB | none => pure 0 : Sem Nat).run P w = .ok l w) :
    (Instr.sliceBounds true len cap lo hi none).run P w = .ok (l, h, cap) w := by
  unfold Instr.sliceBounds
  cases hi <;> cases lo <;> simp_all
theorem cut_tells {t e : TypeId} {n : Nat} {x : AV} {l h : Int} {K : AV → Option R} {r : R} (hk : cutS (n + 1) x l h K = some r) {a : Value} (ha : AVR ι μ x a)
    (hu : P.underlying t = some (.slice e)) (hn : sizeA P e = some (n + 1)) (lo hi : Option Value)
    (hlo : ∀ w (y : Nat), 0 ≤ l → l ≤ y → (match lo with | some v => Instr.sliceBound v y .sliceB | none => pure 0 : Sem Nat).run P w = .ok l.toNat w)
    (hhi : ∀ w (len cap : Nat), 0 ≤ h → h ≤ len → len ≤ cap → (∀ q c, a = .slice q len c → (match hi with | some v => Instr.sliceBound v cap .sliceAcap | none => pure len : Sem Nat).run P w = .ok h.toNat w)) :
    Tells P ι μ K r (Instr.sliceAt t a lo hi none) := by
  unfold cutS at hk
  split at hk
  · rename_i id ver off len
    split at hk
    · rename_i hb
      obtain ⟨o, ho, hv, ad, c, rfl, hlc, hh⟩ := ha
      have h1 := fun w => hhi w len c (by omega) hb.2.2 hlc (some ad) c rfl
      have h2 := fun w => hlo w h.toNat hb.1 (by omega)
      refine ⟨_, .slice (some (if c = l.toNat then ad else ad.add (l.toNat * (n + 1)))) (h.toNat - l.toNat) (c - l.toNat), hk, ?_, fun w => ?_⟩
      · refine ⟨o, ho, hv, _, _, rfl, by omega, fun hov => ?_⟩
        obtain ⟨g1, g2⟩ := hh hov
        refine ⟨fun h0 => ?_, ?_⟩
        · have : l.toNat = 0 := by
            have h0' : l.toNat * (n + 1) = 0 := by omega
            rcases Nat.mul_eq_zero.mp h0' with h0' | h0'
            · exact h0'
            · omega
          rw [this, Nat.sub_zero]; exact g1 (by omega)
        · by_cases hc : c = l.toNat
          · right; omega
          · rw [if_neg hc]
            rcases g2 with g2 | g2
            · left
              rw [g2]
              unfold Addr.add
              split
              · rename_i e0; simp [e0]
              · simp [Nat.add_assoc]
            · right; omega
      · have hbs := bounds_run (h1 w) (h2 w)
        simp only [Instr.sliceAt, Sem.run_bind, run_und hu, Result.andThen_ok, Instr.slice, hbs, run_siz hn, Sem.run_pure, Option.map_some]
        congr 2
        split <;> rfl
    · cases hk
  · split at hk
    · rename_i hb
      obtain ⟨rfl, rfl⟩ := hb
      simp only [AVR, SVR] at ha
      subst ha
      have h1 := fun w => hhi w 0 0 (by omega) (by omega) (by omega) none 0 rfl
      have h2 := fun w => hlo w 0 (by omega) (by omega)
      refine ⟨_, .slice none 0 0, hk, rfl, fun w => ?_⟩
      have hbs := bounds_run (h1 w) (h2 w)
      simp only [Instr.sliceAt, Sem.run_bind, run_und hu, Result.andThen_ok, Instr.slice, hbs, run_siz hn, Sem.run_pure, Option.map_none]
      rfl
    · cases hk
  · cases hk
theorem bound_run {k : IntKind} {l : Int} {y : Nat} (code : BoundsCode) (h0 : 0 ≤ l) (h1 : l ≤ y) (w : World) : (Instr.sliceBound (.int k l) y code).run P w = .ok l.toNat w := by
  simp [Instr.sliceBound, asIntOf, h0, h1]
theorem sliceK_tells {t : TypeId} {lo hi : Option AV} {x : AV} {K : AV → Option R} {r : R} (h : sliceK P t lo hi x K = some r) {a : Value} (ha : AVR ι μ x a) {lv hv : Option Value}
    (hlo : ∀ y, lo = some y → ∃ v, lv = some v ∧ AVR ι μ y v) (hlo' : lo = none → lv = none) (hhi : ∀ y, hi = some y → ∃ v, hv = some v ∧ AVR ι μ y v) (hhi' : hi = none → hv = none) :
    Tells P ι μ K r (Instr.sliceAt t a lv hv none) := by
  unfold sliceK at h
  split at h
  · rename_i e hu
    split at h
    · rename_i n hn
      split at h
      · obtain ⟨m, hm, h1⟩ := Option.bind_eq_some_iff.mp h
        obtain ⟨q, c, rfl⟩ := lenS_rel hm ha
        rw [hlo' rfl, hhi' rfl]
        exact cut_tells h1 ha hu hn none none (fun w y _ _ => by simp) (fun w len cap _ _ _ q c he => by cases he; simp)
      · obtain ⟨k, l, rfl, h1⟩ := asN_some h
        obtain ⟨m, hm, h2⟩ := Option.bind_eq_some_iff.mp h1
        obtain ⟨q, c, rfl⟩ := lenS_rel hm ha
        obtain ⟨v, rfl, hv1⟩ := hlo _ rfl
        obtain rfl := int_rel hv1
        rw [hhi' rfl]
        exact cut_tells h2 ha hu hn _ none (fun w y h0 h1 => bound_run _ h0 h1 w) (fun w len cap _ _ _ q c he => by cases he; simp)
      · obtain ⟨k, l, rfl, h1⟩ := asN_some h
        obtain ⟨v, rfl, hv1⟩ := hhi _ rfl
        obtain rfl := int_rel hv1
        rw [hlo' rfl]
        exact cut_tells h1 ha hu hn none _ (fun w y _ _ => by simp) (fun w len cap h0 h1 h2 q c he => bound_run _ h0 (by omega) w)
      · obtain ⟨k, l, rfl, h1⟩ := asN_some h
        obtain ⟨k', l', rfl, h2⟩ := asN_some h1
        obtain ⟨v, rfl, hv1⟩ := hlo _ rfl
        obtain ⟨v', rfl, hv2⟩ := hhi _ rfl
        obtain rfl := int_rel hv1
        obtain rfl := int_rel hv2
        exact cut_tells h2 ha hu hn _ _ (fun w y h0 h1 => bound_run _ h0 h1 w) (fun w len cap h0 h1 h2 q c he => bound_run _ h0 (by omega) w)
    · cases h
  · cases h
theorem lenK_tells {t ty : TypeId} {x : AV} {K : AV → Option R} {r : R} (h : lenK P t x K = some r) {a : Value} (ha : AVR ι μ x a) : Tells P ι μ K r (Builtin.len_ #[t] ty #[a]) := by
  unfold lenK at h
  split at h
  · rename_i e hu
    obtain ⟨m, hm, h1⟩ := Option.bind_eq_some_iff.mp h
    obtain ⟨q, c, rfl⟩ := lenS_rel hm ha
    exact ⟨_, _, h1, rfl, fun w => by simp [Builtin.len_, run_und hu, goInt]⟩
  · cases h
theorem extrK_tells {i : Nat} {x : AV} {K : AV → Option R} {r : R} (h : extrK i x K = some r) {a : Value} (ha : AVR ι μ x a) : Tells P ι μ K r (Instr.extract a i) := by
  unfold extrK at h
  split at h
  · split at h
    · rename_i y hy
      obtain ⟨vs, rfl, hc⟩ := ha
      obtain ⟨u, hu, hr⟩ := (AVRs_iff.mp hc).2 _ _ hy
      rw [Array.getElem?_toList] at hu
      exact ⟨_, u, h, hr, fun w => by simp [Instr.extract, hu]⟩
    · cases h
  · cases h
theorem minK_tells {x y : AV} {K : AV → Option R} {r : R} (h : minK x y K = some r) {a b : Value} (ha : AVR ι μ x a) (hb : AVR ι μ y b) : Tells P ι μ K r (Builtin.min2 a b) := by
  unfold minK at h
  split at h
  · split at h
    · obtain rfl := int_rel ha; obtain rfl := int_rel hb
      exact ⟨_, _, h, rfl, fun w => by simp [Builtin.min2]⟩
    · cases h
  · cases h
theorem maxK_tells {x y : AV} {K : AV → Option R} {r : R} (h : maxK x y K = some r) {a b : Value} (ha : AVR ι μ x a) (hb : AVR ι μ y b) : Tells P ι μ K r (Builtin.max2 a b) := by
  unfold maxK at h
  split at h
  · split at h
    · obtain rfl := int_rel ha; obtain rfl := int_rel hb
      exact ⟨_, _, h, rfl, fun w => by simp [Builtin.max2]⟩
    · cases h
  · cases h
theorem foldMin_tells {K : AV → Option R} {r : R} : ∀ {l : List AV} {x : AV}, foldMin K x l = some r → ∀ {a : Value} {m : List Value}, AVR ι μ x a → All2 (AVR ι μ) l m → Tells P ι μ K r (m.foldlM Builtin.min2 a)
  | [], x, h, a, m, ha, hm => by obtain rfl := hm.nil_inv; exact ⟨_, _, h, ha, fun w => by simp⟩
  | y :: l, x, h, a, m, ha, hm => by
    obtain ⟨b, m', rfl, hb, hm'⟩ := hm.cons_inv
    obtain ⟨z, c, h1, h2, h3⟩ := minK_tells (P := P) h ha hb
    obtain ⟨z', c', g1, g2, g3⟩ := foldMin_tells h1 h2 hm'
    exact ⟨z', c', g1, g2, fun w => by rw [List.foldlM_cons, Sem.run_bind, h3]; exact g3 w⟩
theorem foldMax_tells {K : AV → Option R} {r : R} : ∀ {l : List AV} {x : AV}, foldMax K x l = some r → ∀ {a : Value} {m : List Value}, AVR ι μ x a → All2 (AVR ι μ) l m → Tells P ι μ K r (m.foldlM Builtin.max2 a)
  | [], x, h, a, m, ha, hm => by obtain rfl := hm.nil_inv; exact ⟨_, _, h, ha, fun w => by simp⟩
  | y :: l, x, h, a, m, ha, hm => by
    obtain ⟨b, m', rfl, hb, hm'⟩ := hm.cons_inv
    obtain ⟨z, c, h1, h2, h3⟩ := maxK_tells (P := P) h ha hb
    obtain ⟨z', c', g1, g2, g3⟩ := foldMax_tells h1 h2 hm'
    exact ⟨z', c', g1, g2, fun w => by rw [List.foldlM_cons, Sem.run_bind, h3]; exact g3 w⟩
end
end Go.Proofs.Ytchapaejdgnihaa.E
