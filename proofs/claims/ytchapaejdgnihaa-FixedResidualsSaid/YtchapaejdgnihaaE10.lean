/- The abstract machine is sound, part 10: regions whose order is open. -/
import Derived.Test.YtchapaejdgnihaaE7
import Derived.Test.YtchapaejdgnihaaE9
namespace Go.Proofs.Ytchapaejdgnihaa.E
open Go
set_option linter.unusedVariables false
set_option linter.unusedSimpArgs false
section
variable {R : Type} {P : Program}

/-- What a guard comes to. -/
def gstat (ops : Array Oper) (e : Env) (o : Oper) : Option Bool :=
  match o.guard with
  | none => some true
  | some (j, want) => match (ops[j]?).bind (·.dst) with
    | none => none
    | some d => match e d with
      | .s (.bool b) => some (bif want then b else !b)
      | .tuple [] => some false
      | _ => none
theorem put_same {e : Env} {d : Nat} {v : AV} (h : e d = v) : e.put (some d) v = e := by
  funext s
  simp only [Env.put]
  by_cases hs : s = d
  · subst hs; simp [h]
  · rw [beq_no hs]; rfl
theorem guardedK_eq {ops : Array Oper} {e : Env} {o : Oper} {X Y : Env → Option R} :
    guardedK ops e o X Y = match gstat ops e o with | none => none | some true => X e | some false => Y e := by
  unfold guardedK gstat
  cases hg : o.guard with
  | none => rfl
  | some gw =>
    obtain ⟨j, want⟩ := gw
    dsimp only
    cases hd : (ops[j]?).bind (·.dst) with
    | none => rfl
    | some d =>
      dsimp only
      unfold guardK
      split
      · rename_i b hb
        have := put_same hb
        cases want <;> cases b <;> simp only [cond_true, cond_false, Bool.not_true, Bool.not_false, this, hb]
      · rename_i hb; simp only [hb]
      · rename_i h1 h2
        split
        · rfl
        · rename_i b hb
          split at hb
          · rename_i c hc; exact absurd hc (h1 c)
          · rename_i hc; exact absurd hc h2
          · cases hb
        · rename_i b hb
          split at hb
          · rename_i c hc; exact absurd hc (h1 c)
          · rename_i hc; exact absurd hc h2
          · cases hb
abbrev St := Env × AMem × List Rec
def OkD (P : Program) (b : Array Nat) (N i : Nat) (o : Oper) (μ μ' : AMem) (D : List Rec) : Prop :=
  match kdOf o.op with
  | .eff | .cal => ∀ d ∈ D, anc b d.1 i = false → loadK P d.2.1 μ' d.2.2.1 some = some d.2.2.2
  | .alc => μ.obj (N + i) = none
  | _ => True
def recD (i : Nat) (e : Env) (o : Oper) (v : AV) (D : List Rec) : List Rec :=
  match kdOf o.op with
  | .lod => recOf i e o v D
  | _ => D
/-- One operation, carried out or not. -/
def Runs1 (P : Program) (Γ : FuncId → FunA) (ops : Array Oper) (b : Array Nat) (N i : Nat) (s s' : St) : Prop :=
  ∃ o, ops[i]? = some o ∧ ((gstat ops s.1 o = some false ∧ s' = (s.1.put o.dst (.tuple []), s.2.1, s.2.2)) ∨
    (gstat ops s.1 o = some true ∧ ∃ v μ', stepK P Γ s.1 (N + i) s.2.1 o pairK = some (v, μ') ∧ OkD P b N i o s.2.1 μ' s.2.2 ∧ s' = (s.1.put o.dst v, μ', recD i s.1 o v s.2.2)))
theorem stillA_iff {μ : AMem} {x : Option R} {r : R} : ∀ {D : List Rec}, stillA P μ D x = some r ↔ (∀ d ∈ D, loadK P d.2.1 μ d.2.2.1 some = some d.2.2.2) ∧ x = some r
  | [] => ⟨fun h => ⟨fun _ hd => (by cases hd), h⟩, fun h => h.2⟩
  | d :: D => by
    unfold stillA
    constructor
    · intro h
      obtain ⟨h1, h2⟩ := checkA_some h
      obtain ⟨h3, h4⟩ := stillA_iff.mp h2
      refine ⟨fun q hq => ?_, h4⟩
      rcases List.mem_cons.mp hq with rfl | hq
      · exact h1
      · exact h3 q hq
    · rintro ⟨h1, h2⟩
      rw [checkA_pos (h1 d (List.mem_cons_self ..))]
      exact stillA_iff.mpr ⟨fun q hq => h1 q (List.mem_cons_of_mem _ hq), h2⟩
theorem checkA_iff {α : Type} {p : Prop} {x : Option α} {r : α} : checkA p x = some r ↔ p ∧ x = some r := ⟨checkA_some, fun h => by rw [checkA_pos h.1]; exact h.2⟩
/-- What is behind one operation. -/
theorem tail_iff {b : Array Nat} {N i : Nat} {o : Oper} {e : Env} {μ μ' : AMem} {v : AV} {D : List Rec} {X : List Rec → Option R} {r : R} :
    (match kdOf o.op with
      | .eff | .cal => stillA P μ' (D.filter fun d => !anc b d.1 i) (X D)
      | .alc => checkA (μ.obj (N + i) = none) (X D)
      | .lod => X (recOf i e o v D)
      | _ => X D) = some r ↔ OkD P b N i o μ μ' D ∧ X (recD i e o v D) = some r := by
  have hf : (∀ d ∈ D.filter fun d => !anc b d.1 i, loadK P d.2.1 μ' d.2.2.1 some = some d.2.2.2) ↔ ∀ d ∈ D, anc b d.1 i = false → loadK P d.2.1 μ' d.2.2.1 some = some d.2.2.2 := by
    constructor
    · intro h d hd ha; exact h d (List.mem_filter.mpr ⟨hd, by simp [ha]⟩)
    · intro h d hd; obtain ⟨h1, h2⟩ := List.mem_filter.mp hd; exact h d h1 (by simpa using h2)
  unfold OkD recD
  cases kdOf o.op with
  | pur => simp
  | lod => simp
  | alc => exact checkA_iff
  | eff => dsimp only; rw [stillA_iff, hf]
  | cal => dsimp only; rw [stillA_iff, hf]
theorem runD_iff {Γ : FuncId → FunA} {ops : Array Oper} {b : Array Nat} {N i : Nat} {K : Env → AMem → Option R} {r : R} {l : List Nat} {s : St} :
    runD P Γ ops b N K (i :: l) s.1 s.2.1 s.2.2 = some r ↔ ∃ s', Runs1 P Γ ops b N i s s' ∧ runD P Γ ops b N K l s'.1 s'.2.1 s'.2.2 = some r := by
  obtain ⟨e, μ, D⟩ := s
  simp only [runD]
  cases ho : ops[i]? with
  | none =>
    constructor
    · intro h; cases h
    · rintro ⟨s', ⟨o, h, _⟩, _⟩; rw [ho] at h; cases h
  | some o =>
    dsimp only
    rw [guardedK_eq]
    have inv : ∀ o', ops[i]? = some o' → o' = o := fun o' h => by rw [ho] at h; exact (Option.some.inj h).symm
    cases hg : gstat ops e o with
    | none =>
      constructor
      · intro h; cases h
      · rintro ⟨s', ⟨o', h, h2⟩, _⟩
        obtain rfl := inv o' h
        rcases h2 with ⟨h2, _⟩ | ⟨h2, _⟩ <;> (dsimp only at h2; rw [hg] at h2; cases h2)
    | some t =>
      cases t with
      | false =>
        dsimp only
        constructor
        · intro h; exact ⟨_, ⟨o, ho, .inl ⟨hg, rfl⟩⟩, h⟩
        · rintro ⟨s', ⟨o', h, h2⟩, h3⟩
          obtain rfl := inv o' h
          rcases h2 with ⟨h2, rfl⟩ | ⟨h2, _⟩
          · exact h3
          · dsimp only at h2; rw [hg] at h2; cases h2
      | true =>
        dsimp only
        rw [stepK_nat]
        constructor
        · intro h
          obtain ⟨⟨v, μ'⟩, h1, h2⟩ := Option.bind_eq_some_iff.mp h
          obtain ⟨h3, h4⟩ := (tail_iff (X := fun D => runD P Γ ops b N K l (e.put o.dst v) μ' D)).mp h2
          exact ⟨(e.put o.dst v, μ', recD i e o v D), ⟨o, ho, .inr ⟨hg, v, μ', h1, h3, rfl⟩⟩, h4⟩
        · rintro ⟨s', ⟨o', h, h2⟩, h3⟩
          obtain rfl := inv o' h
          rcases h2 with ⟨h2, _⟩ | ⟨_, v, μ', h4, h5, rfl⟩
          · dsimp only at h2; rw [hg] at h2; cases h2
          · dsimp only at h4 h5
            rw [h4]
            exact (tail_iff (X := fun D => runD P Γ ops b N K l (e.put o'.dst v) μ' D)).mpr ⟨h5, h3⟩
theorem OkD.sub {b : Array Nat} {N i : Nat} {o : Oper} {μ μ' : AMem} {D D' : List Rec} (h : OkD P b N i o μ μ' D) (hs : ∀ d ∈ D', d ∈ D) : OkD P b N i o μ μ' D' := by
  unfold OkD at *
  cases hk : kdOf o.op <;> rw [hk] at h <;> first | exact fun d hd => h d (hs d hd) | exact h
theorem recD_sub {i : Nat} {e : Env} {o : Oper} {v : AV} {D D' : List Rec} (hs : ∀ d ∈ D', d ∈ D) : ∀ d ∈ recD i e o v D', d ∈ recD i e o v D := by
  unfold recD recOf
  intro d hd
  split at hd
  · split at hd
    · rcases List.mem_cons.mp hd with rfl | hd
      · exact List.mem_cons_self ..
      · exact List.mem_cons_of_mem _ (hs d hd)
    · exact hs d hd
  · exact hs d hd
theorem Runs1.sub {Γ : FuncId → FunA} {ops : Array Oper} {b : Array Nat} {N i : Nat} {e e' : Env} {μ μ' : AMem} {D D' D0 : List Rec} (h : Runs1 P Γ ops b N i (e, μ, D) (e', μ', D')) (hs : ∀ d ∈ D0, d ∈ D) :
    ∃ D0', Runs1 P Γ ops b N i (e, μ, D0) (e', μ', D0') ∧ ∀ d ∈ D0', d ∈ D' := by
  obtain ⟨o, ho, h | ⟨hg, v, μ1, h1, h2, h3⟩⟩ := h
  · obtain ⟨hg, h⟩ := h; cases h
    exact ⟨D0, ⟨o, ho, .inl ⟨hg, rfl⟩⟩, hs⟩
  · cases h3
    exact ⟨recD i e o v D0, ⟨o, ho, .inr ⟨hg, v, _, h1, h2.sub hs, rfl⟩⟩, recD_sub hs⟩
theorem runD_sub {Γ : FuncId → FunA} {ops : Array Oper} {b : Array Nat} {N : Nat} {K : Env → AMem → Option R} {r : R} : ∀ (l : List Nat) (e : Env) (μ : AMem) (D D0 : List Rec), (∀ d ∈ D0, d ∈ D) →
    runD P Γ ops b N K l e μ D = some r → runD P Γ ops b N K l e μ D0 = some r
  | [], e, μ, D, D0, hs, h => h
  | i :: l, e, μ, D, D0, hs, h => by
    obtain ⟨⟨e', μ', D'⟩, h1, h2⟩ := (runD_iff (s := (e, μ, D))).mp h
    obtain ⟨D0', h3, h4⟩ := h1.sub hs
    exact (runD_iff (s := (e, μ, D0))).mpr ⟨(e', μ', D0'), h3, runD_sub l e' μ' D' D0' h4 h2⟩

/-! ### Two that change places -/
theorem evalA_put {ops : Array Oper} {e : Env} {o : Oper} {d : Option Nat} {v : AV} (h : ∀ x, d = some x → x ∉ looksA ops o) : ∀ x ∈ o.op.operands, evalA (e.put d v) x = evalA e x := by
  intro x hx
  cases x with
  | tmp t =>
    cases d with
    | none => rfl
    | some d =>
      have : t ≠ d := fun e => h d rfl (by
        subst e
        exact List.mem_append_left _ (List.mem_filterMap.mpr ⟨.tmp t, Array.mem_toList_iff.mpr hx, rfl⟩))
      simp only [evalA, Env.put, beq_no this]; rfl
  | _ => rfl
theorem gstat_put {ops : Array Oper} {e : Env} {o : Oper} {d : Option Nat} {v : AV} (h : ∀ x, d = some x → x ∉ looksA ops o) : gstat ops (e.put d v) o = gstat ops e o := by
  unfold gstat
  cases hg : o.guard with
  | none => rfl
  | some gw =>
    obtain ⟨j, want⟩ := gw
    dsimp only
    cases hd : (ops[j]?).bind (·.dst) with
    | none => rfl
    | some t =>
      dsimp only
      cases d with
      | none => rfl
      | some d =>
        have : t ≠ d := fun e => h d rfl (by
          subst e
          exact List.mem_append_right _ (by rw [hg]; dsimp only; rw [hd]; exact List.mem_cons_self ..))
        have : e.put (some d) v t = e t := by simp only [Env.put, beq_no this]; rfl
        rw [this]
theorem eput_comm {e : Env} {x y : Option Nat} {v u : AV} (h : ∀ d, x = some d → y ≠ some d) : (e.put x v).put y u = (e.put y u).put x v := by
  cases x with
  | none => rfl
  | some d =>
    cases y with
    | none => rfl
    | some c =>
      funext s
      simp only [Env.put]
      by_cases h1 : s = c
      · subst h1
        have : s ≠ d := fun e => h d rfl (by rw [e])
        simp [beq_no this]
      · simp [beq_no h1]
theorem recD_put {ops : Array Oper} {i : Nat} {e : Env} {o : Oper} {d : Option Nat} {u v : AV} {D : List Rec} (h : ∀ x, d = some x → x ∉ looksA ops o) : recD i (e.put d u) o v D = recD i e o v D := by
  unfold recD recOf
  split
  · split
    · rename_i t x hop
      have := evalA_put (e := e) (v := u) h x (by rw [hop]; simp [Op.operands])
      rw [this]
    · rfl
  · rfl
theorem pur_any {Γ : FuncId → FunA} {e : Env} {n : Nat} {μ μ' : AMem} {o : Oper} {v : AV} (hk : kdOf o.op = .pur) (h : stepK P Γ e n μ o pairK = some (v, μ')) :
    μ' = μ ∧ ∀ n2 μ2, stepK P Γ e n2 μ2 o pairK = some (v, μ2) := by
  simp only [stepK, hk] at h ⊢
  have hn : ∀ μ2, pureK P (evalA e) o.op o.type (fun v => pairK v μ2) = (pureK P (evalA e) o.op o.type some).bind fun v => pairK v μ2 := fun μ2 => by rw [pureK_nat]; rfl
  rw [hn] at h
  obtain ⟨y, h1, h2⟩ := Option.bind_eq_some_iff.mp h
  cases h2
  exact ⟨rfl, fun n2 μ2 => by rw [hn, h1]; rfl⟩
theorem lod_any {Γ : FuncId → FunA} {e : Env} {n : Nat} {μ μ' : AMem} {o : Oper} {v : AV} (hk : kdOf o.op = .lod) (h : stepK P Γ e n μ o pairK = some (v, μ')) :
    μ' = μ ∧ ∃ t x, o.op = .load t x ∧ loadK P t μ (evalA e x) some = some v ∧ ∀ n2 μ2, loadK P t μ2 (evalA e x) some = some v → stepK P Γ e n2 μ2 o pairK = some (v, μ2) := by
  simp only [stepK, hk] at h ⊢
  split at h
  · rename_i t x hop
    have hn : ∀ μ2, loadK P t μ2 (evalA e x) (fun v => viewK P o.type v fun v => pairK v μ2) = (loadK P t μ2 (evalA e x) some).bind fun v => (viewK P o.type v some).bind fun v => pairK v μ2 := fun μ2 => by
      rw [loadK_nat]; congr 1; funext v; simp only [Option.bind_some]; rw [viewK_nat]; rfl
    rw [hn] at h
    obtain ⟨y, h1, h2⟩ := Option.bind_eq_some_iff.mp h
    obtain ⟨z, h3, h4⟩ := Option.bind_eq_some_iff.mp h2
    have hz : some y = some z := viewK_some h3
    cases hz
    cases h4
    refine ⟨rfl, t, x, hop, h1, fun n2 μ2 h5 => ?_⟩
    rw [hn, h5, Option.bind_some, h3]; rfl
  · cases h
theorem alc_any {Γ : FuncId → FunA} {e : Env} {n : Nat} {μ μ' : AMem} {o : Oper} {v : AV} (hk : kdOf o.op = .alc) (h : stepK P Γ e n μ o pairK = some (v, μ')) :
    ∃ ob, μ' = μ.set n ob ∧ ∀ μ2, stepK P Γ e n μ2 o pairK = some (v, μ2.set n ob) := by
  simp only [stepK, hk] at h ⊢
  have hn : ∀ μ2 : AMem, allocK P (evalA e) n o.op (fun ob v => pairK v (μ2.set n ob)) = (allocK P (evalA e) n o.op fun ob v => some (ob, v)).bind fun p => pairK p.2 (μ2.set n p.1) := fun μ2 => by rw [allocK_nat]; rfl
  rw [hn] at h
  obtain ⟨⟨ob, y⟩, h1, h2⟩ := Option.bind_eq_some_iff.mp h
  cases h2
  exact ⟨ob, rfl, fun μ2 => by rw [hn, h1]; rfl⟩
theorem cell_set {μ : AMem} {nid id ver off : Nat} {ob : AObj} {x : SV} (h : μ.cell id ver off = some x) (hf : μ.obj nid = none) : (μ.set nid ob).cell id ver off = some x := by
  unfold AMem.cell at h ⊢
  obtain ⟨o, ho, h1⟩ := Option.bind_eq_some_iff.mp h
  have : id ≠ nid := fun e => by subst e; rw [hf] at ho; cases ho
  simp only [AMem.set, if_neg this, ho, Option.bind_some]
  exact h1
theorem loadN_set {μ : AMem} {nid id ver : Nat} {ob : AObj} (hf : μ.obj nid = none) : ∀ (n off : Nat) (l : List SV), μ.loadN id ver off n = some l → (μ.set nid ob).loadN id ver off n = some l
  | 0, off, l, h => h
  | n + 1, off, l, h => by
    simp only [AMem.loadN] at h ⊢
    obtain ⟨x, h1, h2⟩ := Option.bind_eq_some_iff.mp h
    obtain ⟨r, h3, rfl⟩ := Option.map_eq_some_iff.mp h2
    rw [cell_set h1 hf, Option.bind_some, loadN_set hf n _ _ h3]; rfl
theorem load_set {μ : AMem} {nid : Nat} {ob : AObj} {t : TypeId} {p v : AV} (hf : μ.obj nid = none) (h : loadK P t μ p some = some v) : loadK P t (μ.set nid ob) p some = some v := by
  unfold loadK at h ⊢
  split at h
  · unfold loadsAt at h ⊢
    split at h
    · obtain ⟨l, h1, h2⟩ := Option.bind_eq_some_iff.mp h
      rw [loadN_set hf _ _ _ h1]; exact h2
    · cases h
  · unfold loadAt at h ⊢
    split at h
    · obtain ⟨l, h1, h2⟩ := Option.bind_eq_some_iff.mp h
      rw [cell_set h1 hf]; exact h2
    · cases h
  · cases h
theorem set_comm {μ : AMem} {i j : Nat} (h : i ≠ j) (a c : AObj) : (μ.set i a).set j c = (μ.set j c).set i a := by
  unfold AMem.set
  congr 1
  funext k
  by_cases h1 : k = j
  · subst h1; simp [Ne.symm h]
  · simp [h1]
theorem swapA_spec {ops : Array Oper} {x y : Oper} (h : swapA ops x y = true) :
    (∀ d, x.dst = some d → d ∉ looksA ops y) ∧ (∀ d, x.dst = some d → y.dst ≠ some d) ∧ (∀ d, y.dst = some d → d ∉ looksA ops x) ∧
      (kdOf x.op = .pur ∨ kdOf y.op = .pur ∨ kdOf x.op = .lod ∨ (kdOf x.op = .alc ∧ kdOf y.op = .alc) ∨ (appA x.op = true ∧ kdOf x.op = .eff ∧ kdOf y.op = .alc)) := by
  unfold swapA at h
  rw [Bool.and_eq_true, Bool.and_eq_true] at h
  obtain ⟨⟨h1, h2⟩, h3⟩ := h
  refine ⟨fun d hd => ?_, fun d hd => ?_, fun d hd => ?_, ?_⟩
  · rw [hd] at h1; simp at h1; exact h1.1
  · rw [hd] at h1; simp at h1; exact h1.2
  · rw [hd] at h2; simpa using h2
  · cases hx : kdOf x.op <;> cases hy : kdOf y.op <;> rw [hx, hy] at h3 <;> first | (cases h3; done) | (simp; done) | (simp; exact h3)
theorem row_set {μ : AMem} {nid size n : Nat} {ob : AObj} {v : AV} {l : List SV} (hf : μ.obj nid = none) (h : μ.row size n v = some l) : (μ.set nid ob).row size n v = some l := by
  unfold AMem.row at h ⊢
  split at h
  · rename_i id ver off len
    obtain ⟨o, ho, h1⟩ := Option.bind_eq_some_iff.mp h
    have : id ≠ nid := fun e => by subst e; rw [hf] at ho; cases ho
    simp only [AMem.set, if_neg this, ho, Option.bind_some]
    exact h1
  · exact h
  · cases h
theorem appendS_set {e size bytes nj ni m : Nat} {μ μ' : AMem} {x v : AV} {new : List SV} {ob : AObj} (hf : μ.obj ni = none) (hne : ni ≠ nj) (h : appendS e size bytes nj μ x m new pairK = some (v, μ')) :
    appendS e size bytes nj (μ.set ni ob) x m new pairK = some (v, μ'.set ni ob) ∧ (μ'.obj ni = none) := by
  unfold appendS at h ⊢
  split at h
  · split at h
    · rename_i hb
      rw [if_pos hb]
      split at h
      · rw [if_pos ‹_›]; cases h; exact ⟨rfl, hf⟩
      · rw [if_neg ‹_›]; cases h
        exact ⟨by rw [set_comm hne]; rfl, by simp [AMem.set, hne, hf]⟩
    · cases h
  · rename_i id ver len
    obtain ⟨o, ho, h2⟩ := Option.bind_eq_some_iff.mp h
    have hid : id ≠ ni := fun e => by subst e; rw [hf] at ho; cases ho
    have ho' : (μ.set ni ob).obj id = some o := by simp [AMem.set, hid, ho]
    rw [ho', Option.bind_some]
    split at h2
    · rename_i hb
      rw [if_pos hb]
      split at h2
      · rw [if_pos ‹_›]; cases h2; exact ⟨rfl, hf⟩
      · rw [if_neg ‹_›]; cases h2
        exact ⟨by rw [set_comm (Ne.symm hid)]; rfl, by simp [AMem.set, Ne.symm hid, hf]⟩
    · cases h2
  · cases h
theorem appendK_set {t u nj ni : Nat} {μ μ' : AMem} {x y v : AV} {ob : AObj} (hf : μ.obj ni = none) (hne : ni ≠ nj) (h : appendK P t u nj μ x y pairK = some (v, μ')) :
    appendK P t u nj (μ.set ni ob) x y pairK = some (v, μ'.set ni ob) ∧ μ'.obj ni = none := by
  unfold appendK at h ⊢
  split at h
  · obtain ⟨i, hi, h1⟩ := Option.bind_eq_some_iff.mp h
    obtain ⟨z, hz, h2⟩ := Option.bind_eq_some_iff.mp h1
    simp only [hi, hz, Option.bind_some]
    split at h2
    · rename_i hb
      rw [if_pos hb]
      split at h2
      · unfold appendA at h2 ⊢
        obtain ⟨m, hm, h3⟩ := Option.bind_eq_some_iff.mp h2
        obtain ⟨new, hw, h4⟩ := Option.bind_eq_some_iff.mp h3
        rw [hm, Option.bind_some, row_set hf hw, Option.bind_some]
        exact appendS_set hf hne h4
      · cases h2
    · cases h2
  · cases h
theorem app_any {Γ : FuncId → FunA} {e : Env} {nj ni : Nat} {μ μ' : AMem} {o : Oper} {v : AV} {ob : AObj} (ha : appA o.op = true) (hf : μ.obj ni = none) (hne : ni ≠ nj) (h : stepK P Γ e nj μ o pairK = some (v, μ')) :
    stepK P Γ e nj (μ.set ni ob) o pairK = some (v, μ'.set ni ob) ∧ μ'.obj ni = none := by
  unfold appA at ha
  split at ha
  · rename_i as ts hop
    have hk : kdOf o.op = .eff := by rw [hop]; rfl
    simp only [stepK, hk] at h ⊢
    have hn : ∀ μ2, (effK P (evalA e) nj μ2 o.op fun v μ' => viewK P o.type v fun v => pairK v μ') = (effK P (evalA e) nj μ2 o.op pairK).bind fun p => (viewK P o.type p.1 some).bind fun v => pairK v p.2 := fun μ2 => by
      rw [effK_nat]; congr 1; funext p; rw [viewK_nat]; rfl
    rw [hn] at h ⊢
    obtain ⟨⟨y, μ1⟩, h1, h2⟩ := Option.bind_eq_some_iff.mp h
    obtain ⟨z, h3, h4⟩ := Option.bind_eq_some_iff.mp h2
    cases h4
    have : effK P (evalA e) nj (μ.set ni ob) o.op pairK = some (y, μ1.set ni ob) ∧ μ1.obj ni = none := by
      rw [hop] at h1 ⊢
      simp only [effK] at h1 ⊢
      split at h1
      · exact appendK_set hf hne h1
      · cases h1
    rw [this.1, Option.bind_some, h3]
    exact ⟨rfl, this.2⟩
  · cases ha
theorem app_lives {Γ : FuncId → FunA} {e : Env} {nj k : Nat} {μ μ' : AMem} {o : Oper} {v : AV} {ob : AObj} (ha : appA o.op = true) (h : stepK P Γ e nj μ o pairK = some (v, μ')) (hl : μ.obj k = some ob) : ∃ ob', μ'.obj k = some ob' := by
  have hset : ∀ (q : Nat) (b : AObj), ∃ ob', (μ.set q b).obj k = some ob' := fun q b => by
    by_cases hq : k = q
    · subst hq; exact ⟨b, by simp [AMem.set]⟩
    · exact ⟨ob, by simp [AMem.set, hq, hl]⟩
  unfold appA at ha
  split at ha
  · rename_i as ts hop
    have hk : kdOf o.op = .eff := by rw [hop]; rfl
    simp only [stepK, hk] at h
    rw [effK_nat] at h
    obtain ⟨⟨y, μ1⟩, h1, h2⟩ := Option.bind_eq_some_iff.mp h
    have h3 := viewK_some h2
    cases h3
    rw [hop] at h1
    simp only [effK] at h1
    split at h1
    · unfold appendK at h1
      split at h1
      · obtain ⟨i, hi, h1⟩ := Option.bind_eq_some_iff.mp h1
        obtain ⟨z, hz, h2⟩ := Option.bind_eq_some_iff.mp h1
        split at h2
        · split at h2
          · unfold appendA at h2
            obtain ⟨m, hm, h3⟩ := Option.bind_eq_some_iff.mp h2
            obtain ⟨new, hw, h4⟩ := Option.bind_eq_some_iff.mp h3
            unfold appendS at h4
            split at h4
            · split at h4
              · split at h4
                · cases h4; exact ⟨ob, hl⟩
                · cases h4; exact hset _ _
              · cases h4
            · obtain ⟨o, ho, h5⟩ := Option.bind_eq_some_iff.mp h4
              split at h5
              · split at h5
                · cases h5; exact ⟨ob, hl⟩
                · cases h5; exact hset _ _
              · cases h5
            · cases h4
          · cases h2
        · cases h2
      · cases h1
    · cases h1
  · cases ha
theorem swap2 {Γ : FuncId → FunA} {ops : Array Oper} {b : Array Nat} {N i j : Nat} {s s1 s2 : St} {oi oj : Oper} (hoi : ops[i]? = some oi) (hoj : ops[j]? = some oj) (hij : i ≠ j)
    (hanc : anc b j i = false) (hsw : swapA ops oj oi = true) (h1 : Runs1 P Γ ops b N j s s1) (h2 : Runs1 P Γ ops b N i s1 s2) :
    ∃ t1 D2, Runs1 P Γ ops b N i s t1 ∧ Runs1 P Γ ops b N j t1 (s2.1, s2.2.1, D2) ∧ ∀ d ∈ D2, d ∈ s2.2.2 := by
  obtain ⟨e, μ, D⟩ := s
  obtain ⟨l1, l2, l3, lk⟩ := swapA_spec hsw
  obtain ⟨o, ho, h1⟩ := h1
  rw [hoj] at ho; cases Option.some.inj ho
  obtain ⟨o, ho, h2⟩ := h2
  rw [hoi] at ho; cases Option.some.inj ho
  have cI : ∀ v, ∀ x ∈ oi.op.operands, evalA (e.put oj.dst v) x = evalA e x := fun v => evalA_put l1
  have cJ : ∀ v, ∀ x ∈ oj.op.operands, evalA (e.put oi.dst v) x = evalA e x := fun v => evalA_put l3
  have gI : ∀ v, gstat ops (e.put oj.dst v) oi = gstat ops e oi := fun v => gstat_put l1
  have gJ : ∀ v, gstat ops (e.put oi.dst v) oj = gstat ops e oj := fun v => gstat_put l3
  have sI : ∀ v n μ, stepK P Γ (e.put oj.dst v) n μ oi pairK = stepK P Γ e n μ oi pairK := fun v n μ => stepK_congr (cI v)
  have sJ : ∀ v n μ, stepK P Γ (e.put oi.dst v) n μ oj pairK = stepK P Γ e n μ oj pairK := fun v n μ => stepK_congr (cJ v)
  have rI : ∀ u v D, recD i (e.put oj.dst u) oi v D = recD i e oi v D := fun u v D => recD_put l1
  have rJ : ∀ u v D, recD j (e.put oi.dst u) oj v D = recD j e oj v D := fun u v D => recD_put l3
  have cm : ∀ u v, (e.put oj.dst u).put oi.dst v = (e.put oi.dst v).put oj.dst u := fun u v => eput_comm l2
  rcases h1 with ⟨hgj, rfl⟩ | ⟨hgj, vj, μj, hj, okj, rfl⟩ <;> rcases h2 with ⟨hgi, rfl⟩ | ⟨hgi, vi, μi, hi, oki, rfl⟩ <;> dsimp only at hgj hgi <;> rw [gI] at hgi
  · refine ⟨_, D, ⟨oi, hoi, .inl ⟨hgi, rfl⟩⟩, ⟨oj, hoj, .inl ⟨by dsimp only; rw [gJ]; exact hgj, ?_⟩⟩, fun _ h => h⟩
    dsimp only; rw [cm]
  · dsimp only at hi oki
    rw [sI] at hi
    refine ⟨_, recD i e oi vi D, ⟨oi, hoi, .inr ⟨hgi, vi, μi, hi, oki, rfl⟩⟩, ⟨oj, hoj, .inl ⟨by dsimp only; rw [gJ]; exact hgj, ?_⟩⟩, fun d h => ?_⟩
    · dsimp only; rw [cm]
    · dsimp only; rw [rI]; exact h
  · dsimp only at hj okj
    refine ⟨_, recD j e oj vj D, ⟨oi, hoi, .inl ⟨hgi, rfl⟩⟩, ⟨oj, hoj, .inr ⟨by dsimp only; rw [gJ]; exact hgj, vj, μj, by dsimp only; rw [sJ]; exact hj, okj, ?_⟩⟩, fun d h => ?_⟩
    · dsimp only; rw [cm, rJ]
    · exact h
  · dsimp only at hj okj hi oki
    rw [sI] at hi
    have fin : ∀ (D0 : List Rec), stepK P Γ e (N + i) μ oi pairK = some (vi, D0.foldl (fun m _ => m) μi) → True := fun _ _ => trivial
    rcases lk with hk | hk | hk | ⟨hk, hk'⟩ | ⟨happ, hk, hk'⟩
    · obtain ⟨rfl, hany⟩ := pur_any hk hj
      have hrec : recD j e oj vj D = D := by unfold recD; rw [hk]
      rw [hrec] at oki
      refine ⟨_, recD i e oi vi D, ⟨oi, hoi, .inr ⟨hgi, vi, μi, hi, oki, rfl⟩⟩, ⟨oj, hoj, .inr ⟨by dsimp only; rw [gJ]; exact hgj, vj, μi, by dsimp only; rw [sJ]; exact hany _ _, ?_, ?_⟩⟩, fun d h => ?_⟩
      · unfold OkD; rw [hk]; trivial
      · dsimp only; rw [cm, rJ]; unfold recD; rw [hk]
      · dsimp only; rw [rI, hrec]; exact h
    · obtain ⟨rfl, hany⟩ := pur_any hk hi
      have hrec : ∀ D, recD i e oi vi D = D := fun D => by unfold recD; rw [hk]
      refine ⟨_, recD j e oj vj D, ⟨oi, hoi, .inr ⟨hgi, vi, μ, hany _ _, by unfold OkD; rw [hk]; trivial, rfl⟩⟩, ⟨oj, hoj, .inr ⟨by dsimp only; rw [gJ]; exact hgj, vj, μi, by dsimp only; rw [sJ]; exact hj, ?_, ?_⟩⟩, fun d h => ?_⟩
      · dsimp only; rw [hrec]; exact okj
      · dsimp only; rw [cm, rJ, hrec]
      · dsimp only; rw [rI, hrec]; exact h
    · obtain ⟨rfl, t, x, hop, hld, hany⟩ := lod_any hk hj
      have hrec : recD j e oj vj D = (j, t, evalA e x, vj) :: D := by unfold recD recOf; rw [hk]; dsimp only; rw [hop]
      have hrecj : ∀ D, recD j e oj vj D = (j, t, evalA e x, vj) :: D := fun D => by unfold recD recOf; rw [hk]; dsimp only; rw [hop]
      rw [hrec] at oki
      have hload : loadK P t μi (evalA e x) some = some vj := by
        cases hki : kdOf oi.op with
        | pur => obtain ⟨rfl, _⟩ := pur_any hki hi; exact hld
        | lod => obtain ⟨rfl, _⟩ := lod_any hki hi; exact hld
        | alc =>
          obtain ⟨ob, rfl, _⟩ := alc_any hki hi
          unfold OkD at oki; rw [hki] at oki
          exact load_set oki hld
        | eff => unfold OkD at oki; rw [hki] at oki; exact oki _ (List.mem_cons_self ..) hanc
        | cal => unfold OkD at oki; rw [hki] at oki; exact oki _ (List.mem_cons_self ..) hanc
      refine ⟨_, recD j e oj vj (recD i e oi vi D), ⟨oi, hoi, .inr ⟨hgi, vi, μi, hi, oki.sub fun d h => List.mem_cons_of_mem _ h, rfl⟩⟩, ⟨oj, hoj, .inr ⟨by dsimp only; rw [gJ]; exact hgj, vj, μi, by dsimp only; rw [sJ]; exact hany _ _ hload, ?_, ?_⟩⟩, fun d h => ?_⟩
      · unfold OkD; rw [hk]; trivial
      · dsimp only; rw [cm, rJ]
      · dsimp only
        rw [rI, hrec]
        rw [hrecj] at h
        unfold recD recOf at h ⊢
        split at h
        · split at h
          · simp only [List.mem_cons] at h ⊢
            rcases h with h | h | h
            · exact .inr (.inl h)
            · exact .inl h
            · exact .inr (.inr h)
          · exact h
        · exact h
    · obtain ⟨obj, rfl, hanyj⟩ := alc_any hk hj
      obtain ⟨obi, rfl, hanyi⟩ := alc_any hk' hi
      have hrecj : ∀ D, recD j e oj vj D = D := fun D => by unfold recD; rw [hk]
      have hreci : ∀ D, recD i e oi vi D = D := fun D => by unfold recD; rw [hk']
      have hne : N + i ≠ N + j := fun e => hij (by omega)
      unfold OkD at okj oki
      rw [hk] at okj; rw [hk'] at oki
      have hfi : μ.obj (N + i) = none := by simpa [AMem.set, hij] using oki
      have hfj : (μ.set (N + i) obi).obj (N + j) = none := by simpa [AMem.set, Ne.symm hij] using okj
      refine ⟨_, D, ⟨oi, hoi, .inr ⟨hgi, vi, _, hanyi _, by unfold OkD; rw [hk']; exact hfi, rfl⟩⟩, ⟨oj, hoj, .inr ⟨by dsimp only; rw [gJ]; exact hgj, vj, _, by dsimp only; rw [sJ]; exact hanyj _, by unfold OkD; rw [hk]; exact hfj, ?_⟩⟩, fun d h => ?_⟩
      · dsimp only; rw [cm, rJ, hreci, hrecj, set_comm (Ne.symm hne)]
      · dsimp only; rw [rI, hreci, hrecj]; exact h
    · obtain ⟨obi, rfl, hanyi⟩ := alc_any hk' hi
      have hrecj : ∀ D, recD j e oj vj D = D := fun D => by unfold recD; rw [hk]
      have hreci : ∀ D, recD i e oi vi D = D := fun D => by unfold recD; rw [hk']
      have hne : N + i ≠ N + j := fun e => hij (by omega)
      unfold OkD at okj oki
      rw [hk] at okj; rw [hk'] at oki
      have hfi : μ.obj (N + i) = none := by
        cases hx : μ.obj (N + i) with
        | none => rfl
        | some o =>
          exfalso
          have hdead := app_lives happ hj hx
          obtain ⟨o', ho'⟩ := hdead
          rw [ho'] at oki; cases oki
      obtain ⟨hstep, _⟩ := app_any (ob := obi) happ hfi hne hj
      refine ⟨_, D, ⟨oi, hoi, .inr ⟨hgi, vi, _, hanyi _, by unfold OkD; rw [hk']; exact hfi, rfl⟩⟩, ⟨oj, hoj, .inr ⟨by dsimp only; rw [gJ]; exact hgj, vj, _, by dsimp only; rw [sJ]; exact hstep, ?_, ?_⟩⟩, fun d h => ?_⟩
      · unfold OkD; rw [hk]
        dsimp only
        rw [hreci]
        exact fun d hd ha => load_set oki (okj d hd ha)
      · dsimp only; rw [cm, rJ, hreci, hrecj]
      · dsimp only; rw [rI, hreci, hrecj]; exact h

/-! ### The order -/
def Pair (ops : Array Oper) (b : Array Nat) (i j : Nat) : Prop := i ≠ j ∧ anc b j i = false ∧ (anc b i j = true ∨ ∃ x y, ops[i]? = some x ∧ ops[j]? = some y ∧ swapA ops x y = true)
theorem pairA_spec {ops : Array Oper} {b : Array Nat} {i j : Nat} (h : pairA ops b i j = true) : Pair ops b i j := by
  unfold pairA at h
  rw [Bool.and_eq_true, Bool.and_eq_true, Bool.or_eq_true] at h
  obtain ⟨h1, h2, h3⟩ := h
  refine ⟨fun e => ?_, by simpa using h2, h3.imp id fun h3 => ?_⟩
  · subst e; simp at h1
  · split at h3
    · rename_i x y hx hy; exact ⟨x, y, hx, hy, h3⟩
    · cases h3
theorem pairsA_spec {ops : Array Oper} {b : Array Nat} : ∀ {l : List Nat}, pairsA ops b l = true → l.Pairwise (Pair ops b)
  | [], _ => List.Pairwise.nil
  | i :: l, h => by
    unfold pairsA at h
    rw [Bool.and_eq_true, List.all_eq_true] at h
    exact List.Pairwise.cons (fun j hj => pairA_spec (h.1 j hj)) (pairsA_spec h.2)
theorem ahead_bit {b : Array Nat} (j : Nat) : ∀ (l : List Edge) (s0 : Nat),
    (l.foldl (fun s e => if Region.binds .any e then s ||| 2 ^ e.on ||| b.getD e.on 0 else s) s0).testBit j = (s0.testBit j || l.any fun e => Region.binds .any e && (Nat.beq e.on j || anc b j e.on))
  | [], s0 => by simp
  | e :: l, s0 => by
    rw [List.foldl_cons, ahead_bit j l]
    cases hb : Region.binds .any e
    · simp [hb]
    · simp only [List.any_cons, hb, Bool.true_and, if_true, Nat.testBit_or, Nat.testBit_two_pow, anc, Bool.or_assoc]
      congr 1
      congr 1
      by_cases h : e.on = j
      · subst h; simp
      · rw [beq_no h]; simp [h]
theorem anc_iff {ops : Array Oper} {b : Array Nat} (ht : tableA ops b = true) {i : Nat} {o : Oper} (ho : ops[i]? = some o) (j : Nat) :
    anc b j i = true ↔ ∃ e ∈ o.after, Region.binds .any e = true ∧ (e.on = j ∨ anc b j e.on = true) := by
  have hi : i < ops.size := (Array.getElem?_eq_some_iff.1 ho).1
  have h := List.all_eq_true.mp ht i (List.mem_range.mpr hi)
  rw [ho] at h
  simp only [Bool.and_eq_true] at h
  have hb := Nat.eq_of_beq_eq_true h.1
  rw [anc, hb, aheadA, ahead_bit]
  simp only [Nat.zero_testBit, Bool.false_or, List.any_eq_true, Bool.and_eq_true, Bool.or_eq_true, Array.mem_toList_iff, Nat.beq_eq]
theorem edge_lt {ops : Array Oper} {b : Array Nat} (ht : tableA ops b = true) {i : Nat} {o : Oper} (ho : ops[i]? = some o) {e : Edge} (he : e ∈ o.after) (hb : Region.binds .any e = true) : e.on < i := by
  have hi : i < ops.size := (Array.getElem?_eq_some_iff.1 ho).1
  have h := List.all_eq_true.mp ht i (List.mem_range.mpr hi)
  rw [ho] at h
  simp only [Bool.and_eq_true, List.all_eq_true] at h
  have := h.2 e (Array.mem_toList_iff.mpr he)
  rw [hb] at this
  exact Nat.le_of_ble_eq_true (by simpa [Nat.blt] using this)
/-- One that may come is brought to the front. -/
theorem front {Γ : FuncId → FunA} {ops : Array Oper} {b : Array Nat} {N i : Nat} {oi : Oper} (hoi : ops[i]? = some oi) {K : Env → AMem → Option R} {r : R} {l2 : List Nat} :
    ∀ (l1 : List Nat) (s : St), (∀ j ∈ l1, i ≠ j ∧ anc b j i = false ∧ ∃ x, ops[j]? = some x ∧ swapA ops x oi = true) →
      runD P Γ ops b N K (l1 ++ i :: l2) s.1 s.2.1 s.2.2 = some r → runD P Γ ops b N K (i :: (l1 ++ l2)) s.1 s.2.1 s.2.2 = some r
  | [], s, _, h => h
  | j :: l1, s, hc, h => by
    obtain ⟨s1, h1, h2⟩ := runD_iff.mp h
    have h3 := front hoi l1 s1 (fun k hk => hc k (List.mem_cons_of_mem _ hk)) h2
    obtain ⟨s2, h4, h5⟩ := runD_iff.mp h3
    obtain ⟨hij, hanc, oj, hoj, hsw⟩ := hc j (List.mem_cons_self ..)
    obtain ⟨t1, D2, g1, g2, g3⟩ := swap2 hoi hoj hij hanc hsw h1 h4
    refine runD_iff.mpr ⟨t1, g1, ?_⟩
    exact (runD_iff (l := l1 ++ l2)).mpr ⟨_, g2, runD_sub _ _ _ _ _ g3 h5⟩
/-- What has been listed, and what is still to come. -/
structure Lists (ops : Array Oper) (b : Array Nat) (l : List Nat) (listed : Array Bool) : Prop where
  size : listed.size = ops.size
  pair : l.Pairwise (Pair ops b)
  lt : ∀ i ∈ l, i < ops.size
  iff : ∀ i, i < ops.size → (listed.getD i false = false ↔ i ∈ l)
  closed : ∀ i j, i < ops.size → i ∉ l → anc b j i = true → j ∉ l
theorem anyK_wp {Γ : FuncId → FunA} (hΓ : ∀ f, Sound P f (Γ f)) {ops : Array Oper} {b : Array Nat} {N nt : Nat} (ht : tableA ops b = true) (hd : dstsA nt ops = true) {K : Env → AMem → Option R} {r : R} {Q : Exit → Act → World → Prop} :
    ∀ (fuel : Nat) (l : List Nat) (listed : Array Bool) (ι : Nat → Loc) (μ : AMem) (w : World) (e : Env) (a : Act) (D : List Rec), l.length = fuel → Lists ops b l listed → N ≤ μ.next → In P ι μ w nt e a → Free ops N l μ →
      runD P Γ ops b N K l e μ D = some r →
      (∀ ι' μ' w' e' a', K e' μ' = some r → On P N ι μ w a (ops.toList.filterMap (·.dst)) ι' μ' w' a' → In P ι' μ' w' nt e' a' → Q .normal a' w') → wpAny P .any ops Q fuel listed a w
  | 0, l, listed, ι, μ, w, e, a, D, hl, hL, hN, hi, hfree, h, hQ => by
    obtain rfl := List.eq_nil_of_length_eq_zero hl
    refine ⟨?_, hQ ι μ w e a h ⟨Tr.refl hi.sim, fun _ _ h => h, fun _ _ => rfl⟩ hi⟩
    apply List.eq_nil_iff_forall_not_mem.mpr
    intro i hi
    obtain ⟨h1, o, ho, _⟩ := mem_ready.mp hi
    have hlt := (Array.getElem?_eq_some_iff.1 ho).1
    have := (hL.iff i hlt).mp (by
      rw [Array.getD_eq_getD_getElem?] at h1 ⊢
      have : i < listed.size := by rw [hL.size]; exact hlt
      rw [Array.getElem?_eq_getElem this] at h1 ⊢
      exact h1)
    cases this
  | fuel + 1, l, listed, ι, μ, w, e, a, D, hl, hL, hN, hi, hfree, h, hQ => by
    have hget : ∀ i, i < ops.size → listed.getD i true = listed.getD i false := by
      intro i hlt
      have : i < listed.size := by rw [hL.size]; exact hlt
      rw [Array.getD_eq_getD_getElem?, Array.getD_eq_getD_getElem?, Array.getElem?_eq_getElem this]; rfl
    refine ⟨fun hr => ?_, fun i hri => ?_⟩
    · exfalso
      cases l with
      | nil => cases hl
      | cons q l =>
        have hq : q < ops.size := hL.lt q (List.mem_cons_self ..)
        have hoq : ops[q]? = some ops[q] := Array.getElem?_eq_getElem hq
        have hm : q ∈ Region.ready .any ops listed := by
          refine mem_ready.mpr ⟨by rw [hget q hq]; exact (hL.iff q hq).mpr (List.mem_cons_self ..), _, hoq, fun ed he hb => ?_⟩
          have hlt := edge_lt ht hoq he hb
          have hanc : anc b ed.on q = true := (anc_iff ht hoq ed.on).mpr ⟨ed, he, hb, .inl rfl⟩
          cases hv : listed.getD ed.on false with
          | true => rfl
          | false =>
            have := (hL.iff ed.on (by omega)).mp hv
            rcases List.mem_cons.mp this with e1 | hm
            · omega
            · have := (List.pairwise_cons.mp hL.pair).1 _ hm
              rw [this.2.1] at hanc; cases hanc
        rw [hr] at hm; cases hm
    · obtain ⟨hun, oi, hoi, hall⟩ := mem_ready.mp hri
      have hlt : i < ops.size := (Array.getElem?_eq_some_iff.1 hoi).1
      have hil : i ∈ l := (hL.iff i hlt).mp (by rw [← hget i hlt]; exact hun)
      obtain ⟨l1, l2, rfl⟩ := List.append_of_mem hil
      have hpw := hL.pair
      rw [List.pairwise_append] at hpw
      obtain ⟨p1, p2, p3⟩ := hpw
      have hready : ∀ j, anc b j i = true → j ∉ l1 ++ i :: l2 := by
        intro j hj
        obtain ⟨ed, he, hb, hor⟩ := (anc_iff ht hoi j).mp hj
        have hlt' := edge_lt ht hoi he hb
        have hlisted := hall ed he hb
        have hon : ed.on ∉ l1 ++ i :: l2 := fun hm => by
          have := (hL.iff ed.on (by omega)).mpr hm
          rw [this] at hlisted; cases hlisted
        rcases hor with rfl | hor
        · exact hon
        · exact hL.closed ed.on j (by omega) hon hor
      have hcond : ∀ j ∈ l1, i ≠ j ∧ anc b j i = false ∧ ∃ x, ops[j]? = some x ∧ swapA ops x oi = true := by
        intro j hj
        obtain ⟨q1, q2, q3⟩ := p3 j hj i (List.mem_cons_self ..)
        have hna : anc b j i = false := by
          cases hv : anc b j i with
          | false => rfl
          | true => exact absurd (List.mem_append_left _ hj) (hready j hv)
        refine ⟨Ne.symm q1, hna, ?_⟩
        rcases q3 with q3 | ⟨x, y, hx, hy, hs⟩
        · rw [hna] at q3; cases q3
        · rw [hoi] at hy; obtain rfl := Option.some.inj hy
          exact ⟨x, hx, hs⟩
      have hrun := front (P := P) hoi l1 (e, μ, D) hcond h
      have hi1 : i ∉ l1 ++ l2 := by
        intro hm
        rcases List.mem_append.mp hm with hm | hm
        · exact (hcond i hm).1 rfl
        · exact ((List.pairwise_cons.mp p2).1 i hm).1 rfl
      have hmem : ∀ j, j ∈ l1 ++ i :: l2 ↔ j = i ∨ j ∈ l1 ++ l2 := by intro j; simp only [List.mem_append, List.mem_cons]; constructor <;> (rintro (h | h | h) <;> simp [h])
      simp only [runD] at hrun
      rw [hoi] at hrun
      dsimp only at hrun
      obtain ⟨e', v, μ', h2, h3⟩ := oneK_wp (K := fun e v μ' => match kdOf oi.op with
          | .eff | .cal => stillA P μ' (D.filter fun d => !anc b d.1 i) (runD P Γ ops b N K (l1 ++ l2) (e.put oi.dst v) μ' D)
          | .alc => checkA (μ.obj (N + i) = none) (runD P Γ ops b N K (l1 ++ l2) (e.put oi.dst v) μ' D)
          | .lod => runD P Γ ops b N K (l1 ++ l2) (e.put oi.dst v) μ' (recOf i e oi v D)
          | _ => runD P Γ ops b N K (l1 ++ l2) (e.put oi.dst v) μ' D) (K' := fun e => runD P Γ ops b N K (l1 ++ l2) (e.put oi.dst (.tuple [])) μ D) hΓ hi
        (fun hnew => hfree (newsA_of hoi hnew) i hil) hoi (dstsA_spec hd hoi) (dst_mem hoi) hrun
      have h2' : ∃ D', runD P Γ ops b N K (l1 ++ l2) (e'.put oi.dst v) μ' D' = some r := by
        rcases h2 with h2 | ⟨h2, rfl, rfl⟩
        · exact ⟨_, ((tail_iff (P := P) (X := fun D => runD P Γ ops b N K (l1 ++ l2) (e'.put oi.dst v) μ' D)).mp h2).2⟩
        · exact ⟨_, h2⟩
      obtain ⟨D', h2'⟩ := h2'
      refine h3 _ Q fun ι' w' a' htr h1 hi' hk => ?_
      have hdead : ∀ j, j < N → μ.obj j = none → μ'.obj j = none := fun j hj hdj => h1 j (by omega) (by omega) hdj
      refine anyK_wp hΓ ht hd fuel (l1 ++ l2) _ ι' μ' w' _ a' D' (by simp at hl ⊢; omega) ?_ (Nat.le_trans hN htr.next) hi' (fun hnew j hj => ?_) h2'
        (fun ι2 μ2 w2 e2 a2 hK hon hin => hQ ι2 μ2 w2 e2 a2 hK (On.trans ⟨htr, hdead, hk⟩ hon (Nat.le_refl _) (fun _ h => h) (fun _ h => h)) hin)
      · refine ⟨by simpa using hL.size, hL.pair.sublist (List.Sublist.append (List.Sublist.refl l1) (List.sublist_cons_self i l2)), fun j hj => hL.lt j ((hmem j).mpr (.inr hj)), fun j hj => ?_, fun j k hj hjl hjk => ?_⟩
        · by_cases hji : i = j
          · subst hji
            have : i < listed.size := by rw [hL.size]; exact hj
            have hset : (listed.setIfInBounds i true).getD i false = true := by simp [this]
            rw [hset]
            exact ⟨fun h => (by cases h), fun h => absurd h hi1⟩
          · rw [getD_set_ne false hji, hL.iff j hj, hmem j]
            exact ⟨fun h => h.resolve_left (Ne.symm hji), .inr⟩
        · intro hkl
          by_cases hji : j = i
          · subst hji
            exact hready k hjk ((hmem k).mpr (.inr hkl))
          · exact hL.closed j k hj (fun hm => ((hmem j).mp hm).elim hji hjl) hjk ((hmem k).mpr (.inr hkl))
      · obtain ⟨hnj, hfj⟩ := hfree hnew j ((hmem j).mpr (.inr hj))
        have hji : N + j ≠ N + i := fun e => hi1 (by
          have : j = i := by omega
          rw [← this]; exact hj)
        exact ⟨Nat.lt_of_lt_of_le hnj htr.next, h1 _ hnj hji hfj⟩
theorem drawsSound (hm : P.follows .mixedOrders = true) {Γ : FuncId → FunA} (hΓ : ∀ f, Sound P f (Γ f)) : DrawsSound P Γ := by
  intro R id ops nt l K r Q ι μ w e a hd ho hi h hQ
  unfold orderA at ho
  simp only [Bool.and_eq_true, List.all_eq_true, beq_iff_eq] at ho
  obtain ⟨ht, hlen, hlt, hall, hp⟩ := ho
  have hmem : ∀ i, i < ops.size → i ∈ l := fun i hi => by simpa using hall i (List.mem_range.mpr hi)
  have hlt' : ∀ i ∈ l, i < ops.size := fun i hi => Nat.le_of_ble_eq_true (by simpa [Nat.blt] using hlt i hi)
  refine wp_region_any hm ?_
  have hin : In P ι (resvA ops μ) { w with drawn := w.drawn + 1 } nt e a := by
    have := resvA_in ops hi
    exact ⟨this.sim.drewN rfl, this.env, this.size, this.defers⟩
  refine anyK_wp hΓ ht hd ops.size l _ ι (resvA ops μ) _ e a [] hlen ⟨by simp, pairsA_spec hp, hlt', fun i hi => ?_, fun i j hi hil => absurd (hmem i hi) hil⟩ (resvA_next ops μ) hin (resvA_free hi.sim ops _ hlt') h ?_
  · simp [hi, hmem i hi]
  · intro ι' μ' w' e' a' hK hon hin'
    refine hQ ι' μ' w' e' a' hK ⟨?_, hon.dead, hon.keeps⟩ hin'
    obtain ⟨a1, a2, a3, a4, a5, a6, a7, a8, a9⟩ := hon.tr
    exact ⟨a1, a2, a3, a4, a5, a6, a7, a8, a9⟩
end
end Go.Proofs.Ytchapaejdgnihaa.E
