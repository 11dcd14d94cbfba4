/- The abstract machine is sound, part 9: naturality and what operations look at, for regions whose order is open. -/
import Derived.Test.YtchapaejdgnihaaE5
namespace Go.Proofs.Ytchapaejdgnihaa.E
open Go
set_option linter.unusedVariables false
set_option linter.unusedSimpArgs false
section
variable {R : Type} {P : Program}
theorem asI_nat {k : IntKind} {v : AV} {T : Type} {f : Int → Option T} {K : T → Option R} : (asI k v f).bind K = asI k v fun n => (f n).bind K := by
  unfold asI; split
  · exact ite_nat
  · rfl
theorem asN_nat {v : AV} {T : Type} {f : Int → Option T} {K : T → Option R} : (asN v f).bind K = asN v fun n => (f n).bind K := by unfold asN; split <;> rfl
theorem asB_nat {v : AV} {T : Type} {f : Bool → Option T} {K : T → Option R} : (asB v f).bind K = asB v fun n => (f n).bind K := by unfold asB; split <;> rfl
theorem asS_nat {v : AV} {T : Type} {f : SV → Option T} {K : T → Option R} : (asS v f).bind K = asS v fun n => (f n).bind K := by unfold asS; split <;> rfl
theorem intK_nat {op : BinOp} {k : IntKind} {a b : Int} {T : Type} {f : SV → Option T} {K : T → Option R} : (intK op k a b f).bind K = intK op k a b fun n => (f n).bind K := by
  unfold intK; cases op <;> first | rfl | exact ite_nat
theorem shiftK_nat {op : BinOp} {k : IntKind} {a b : Int} {T : Type} {f : SV → Option T} {K : T → Option R} : (shiftK op k a b f).bind K = shiftK op k a b fun n => (f n).bind K := by
  unfold shiftK; cases op <;> first | rfl | exact ite_nat
theorem binK_nat {op : BinOp} {t : TypeId} {x y : AV} {T : Type} {f : AV → Option T} {K : T → Option R} : (binK P op t x y f).bind K = binK P op t x y fun n => (f n).bind K := by
  unfold binK
  cases P.underlying t with
  | none => rfl
  | some d =>
    cases d with
    | int k => dsimp only; cases isShift op <;> simp only [cond_true, cond_false, asI_nat, asN_nat, intK_nat, shiftK_nat]
    | bool => dsimp only; cases op <;> first | rfl | simp only [asB_nat]
    | pointer e =>
      dsimp only
      cases y with
      | s v => cases v with
        | nilPtr => cases op <;> first | rfl | (dsimp only; cases isNil x <;> rfl)
        | _ => cases op <;> rfl
      | _ => cases op <;> rfl
    | _ => rfl
theorem unK_nat {op : UnOp} {v : AV} {T : Type} {f : AV → Option T} {K : T → Option R} : (unK op v f).bind K = unK op v fun n => (f n).bind K := by
  unfold unK
  cases op with
  | not => simp only [asB_nat]
  | neg => dsimp only; split <;> rfl
  | xor => dsimp only; split <;> rfl
  | _ => rfl
theorem convK_nat {s d : TypeId} {v : AV} {T : Type} {f : AV → Option T} {K : T → Option R} : (convK P s d v f).bind K = convK P s d v fun n => (f n).bind K := by
  unfold convK; split
  · simp only [asN_nat]
  · rfl
theorem nonNil_nat {v : AV} {T : Type} {f : Option T} {K : T → Option R} : (nonNil v f).bind K = nonNil v (f.bind K) := by unfold nonNil; split <;> rfl
theorem ptrAdd_nat {n : Nat} {v : AV} {T : Type} {f : AV → Option T} {K : T → Option R} : (ptrAdd n v f).bind K = ptrAdd n v fun n => (f n).bind K := by unfold ptrAdd; split <;> rfl
theorem fieldK_nat {st : TypeId} {i : Nat} {v : AV} {T : Type} {f : AV → Option T} {K : T → Option R} : (fieldK P st i v f).bind K = fieldK P st i v fun n => (f n).bind K := by
  unfold fieldK; split
  · split
    · split
      · exact ptrAdd_nat
      · rfl
    · rfl
  · rfl
theorem aggAt_nat {n : Nat} {v : AV} {T : Type} {f : AV → Option T} {K : T → Option R} : (aggAt n v f).bind K = aggAt n v fun n => (f n).bind K := by
  unfold aggAt; split
  · split <;> rfl
  · rfl
theorem aggCut_nat {m n : Nat} {v : AV} {T : Type} {f : AV → Option T} {K : T → Option R} : (aggCut m n v f).bind K = aggCut m n v fun n => (f n).bind K := by unfold aggCut; split <;> rfl
theorem partK_nat {st : TypeId} {i : Nat} {v : AV} {T : Type} {f : AV → Option T} {K : T → Option R} : (partK P st i v f).bind K = partK P st i v fun n => (f n).bind K := by
  unfold partK; split
  · split
    · split
      · exact aggCut_nat
      · exact aggAt_nat
      · rfl
    · rfl
  · rfl
theorem indS_nat {n : Nat} {v : AV} {i : Int} {T : Type} {f : AV → Option T} {K : T → Option R} : (indS n v i f).bind K = indS n v i fun n => (f n).bind K := by
  unfold indS; split
  · exact ite_nat
  · rfl
theorem indP_nat {m n : Nat} {v : AV} {i : Int} {T : Type} {f : AV → Option T} {K : T → Option R} : (indP m n v i f).bind K = indP m n v i fun n => (f n).bind K := by
  unfold indP; split
  · exact ite_nat
  · rfl
theorem indexK_nat {t : TypeId} {v i : AV} {T : Type} {f : AV → Option T} {K : T → Option R} : (indexK P t v i f).bind K = indexK P t v i fun n => (f n).bind K := by
  unfold indexK; split
  · split
    · simp only [asN_nat, indS_nat]
    · rfl
  · split
    · simp only [asN_nat, indP_nat]
    · rfl
  · rfl
theorem cutS_nat {n : Nat} {v : AV} {l h : Int} {T : Type} {f : AV → Option T} {K : T → Option R} : (cutS n v l h f).bind K = cutS n v l h fun n => (f n).bind K := by
  unfold cutS; split
  · exact ite_nat
  · exact ite_nat
  · rfl
theorem obind_nat {A T : Type} {a : Option A} {f : A → Option T} {K : T → Option R} : (a.bind f).bind K = a.bind fun x => (f x).bind K := by cases a <;> rfl
theorem sliceK_nat {t : TypeId} {lo hi : Option AV} {v : AV} {T : Type} {f : AV → Option T} {K : T → Option R} : (sliceK P t lo hi v f).bind K = sliceK P t lo hi v fun n => (f n).bind K := by
  unfold sliceK; split
  · split
    · cases lo <;> cases hi <;> simp only [asN_nat, obind_nat, cutS_nat]
    · rfl
  · rfl
theorem lenK_nat {t : TypeId} {v : AV} {T : Type} {f : AV → Option T} {K : T → Option R} : (lenK P t v f).bind K = lenK P t v fun n => (f n).bind K := by
  unfold lenK; split
  · exact obind_nat
  · rfl
theorem extrK_nat {i : Nat} {v : AV} {T : Type} {f : AV → Option T} {K : T → Option R} : (extrK i v f).bind K = extrK i v fun n => (f n).bind K := by
  unfold extrK; split
  · split <;> rfl
  · rfl
theorem pickK_nat {c a b : AV} {T : Type} {f : AV → Option T} {K : T → Option R} : (pickK c a b f).bind K = pickK c a b fun n => (f n).bind K := by
  unfold pickK; rw [asB_nat]; congr 1; funext t; cases t <;> rfl
theorem minK_nat {a b : AV} {T : Type} {f : AV → Option T} {K : T → Option R} : (minK a b f).bind K = minK a b fun n => (f n).bind K := by
  unfold minK; split
  · exact ite_nat
  · rfl
theorem maxK_nat {a b : AV} {T : Type} {f : AV → Option T} {K : T → Option R} : (maxK a b f).bind K = maxK a b fun n => (f n).bind K := by
  unfold maxK; split
  · exact ite_nat
  · rfl
theorem foldMin_nat {T : Type} {f : AV → Option T} {K : T → Option R} : ∀ (l : List AV) (a : AV), (foldMin f a l).bind K = foldMin (fun n => (f n).bind K) a l
  | [], a => rfl
  | b :: l, a => by unfold foldMin; rw [minK_nat]; congr 1; funext c; exact foldMin_nat l c
theorem foldMax_nat {T : Type} {f : AV → Option T} {K : T → Option R} : ∀ (l : List AV) (a : AV), (foldMax f a l).bind K = foldMax (fun n => (f n).bind K) a l
  | [], a => rfl
  | b :: l, a => by unfold foldMax; rw [maxK_nat]; congr 1; funext c; exact foldMax_nat l c
theorem viewK_nat {t : TypeId} {v : AV} {T : Type} {f : AV → Option T} {K : T → Option R} : (viewK P t v f).bind K = viewK P t v fun n => (f n).bind K := by
  unfold viewK; split <;> first | exact asI_nat | exact asB_nat | exact asS_nat | rfl
theorem pureK_nat {ev : Operand → AV} {op : Op} {ty : TypeId} {T : Type} {f : AV → Option T} {K : T → Option R} : (pureK P ev op ty f).bind K = pureK P ev op ty fun n => (f n).bind K := by
  cases op with
  | move x => rfl
  | assign x => rfl
  | pick c a b => exact pickK_nat
  | nilCheck x => exact nonNil_nat
  | binOp op t x y b => exact binK_nat
  | unOp op t x => exact unK_nat
  | convert s d x => exact convK_nat
  | fieldAddr st x i => exact fieldK_nat
  | field st x i => simp only [pureK, partK_nat, viewK_nat]
  | indexAddr t x i => exact indexK_nat
  | slice t x lo hi mx => cases mx with
    | none => exact sliceK_nat
    | some m => rfl
  | extract x i => simp only [pureK, extrK_nat, viewK_nat]
  | build t ps => exact obind_nat
  | makeFunc fn first caps => cases fn with
    | func g => simp only [pureK]; cases first.isEmpty <;> first | rfl | exact obind_nat
    | _ => rfl
  | call c =>
    obtain ⟨ce, as, ts⟩ := c
    cases ce with
    | builtin b =>
      cases b with
      | len =>
        simp only [pureK]
        rcases as.toList with _ | ⟨x, _ | ⟨y, l⟩⟩ <;> try rfl
        rcases ts.toList with _ | ⟨t, _ | ⟨u, l⟩⟩ <;> try rfl
        exact lenK_nat
      | min =>
        simp only [pureK]
        rcases as.toList with _ | ⟨x, l⟩
        · rfl
        · exact foldMin_nat _ _
      | max =>
        simp only [pureK]
        rcases as.toList with _ | ⟨x, l⟩
        · rfl
        · exact foldMax_nat _ _
      | _ => rfl
    | _ => rfl
  | _ => rfl
theorem loadK_nat {t : TypeId} {μ : AMem} {v : AV} {T : Type} {f : AV → Option T} {K : T → Option R} : (loadK P t μ v f).bind K = loadK P t μ v fun n => (f n).bind K := by
  unfold loadK; split
  · unfold loadsAt; split
    · exact obind_nat
    · rfl
  · unfold loadAt; split
    · exact obind_nat
    · rfl
  · rfl
theorem boxV_nat {t : TypeId} {nid : Nat} {v : AV} {T : Type} {f : AObj → AV → Option T} {K : T → Option R} : (boxV t nid v f).bind K = boxV t nid v fun a b => (f a b).bind K := by
  unfold boxV; split <;> rfl
theorem makeV_nat {e n bytes : Nat} {z : List SV} {nid : Nat} {l c : Int} {T : Type} {f : AObj → AV → Option T} {K : T → Option R} : (makeV e n bytes z nid l c f).bind K = makeV e n bytes z nid l c fun a b => (f a b).bind K := by
  unfold makeV; exact ite_nat
theorem allocK_nat {ev : Operand → AV} {nid : Nat} {op : Op} {T : Type} {f : AObj → AV → Option T} {K : T → Option R} : (allocK P ev nid op f).bind K = allocK P ev nid op fun a b => (f a b).bind K := by
  unfold allocK; split
  · exact boxV_nat
  · exact obind_nat
  · split
    · simp only [obind_nat, ite_nat]; rfl
    · rfl
  · split
    · simp only [obind_nat, ite_nat, asN_nat, makeV_nat]; rfl
    · rfl
  · rfl
theorem callV_nat {Γ : FuncId → FunA} {v : AV} {as : List AV} {μ : AMem} {T : Type} {f : AV → AMem → Option T} {K : T → Option R} : (callV Γ v as μ f).bind K = callV Γ v as μ fun a b => (f a b).bind K := by
  unfold callV; split
  · exact obind_nat
  · rfl
theorem callK_nat {Γ : FuncId → FunA} {ev : Operand → AV} {μ : AMem} {op : Op} {ty : TypeId} {T : Type} {f : AV → AMem → Option T} {K : T → Option R} : (callK P Γ ev μ op ty f).bind K = callK P Γ ev μ op ty fun a b => (f a b).bind K := by
  unfold callK; split
  · simp only [callV_nat, viewK_nat]
  · rfl
theorem stepK_nat {Γ : FuncId → FunA} {e : Env} {nid : Nat} {μ : AMem} {o : Oper} {K : AV → AMem → Option R} :
    stepK P Γ e nid μ o K = (stepK P Γ e nid μ o pairK).bind fun p => K p.1 p.2 := by
  unfold stepK; split
  · rw [pureK_nat]; rfl
  · split
    · rw [loadK_nat]; congr 1; funext v; rw [viewK_nat]; rfl
    · rfl
  · rw [allocK_nat]; rfl
  · rw [effK_nat, effK_nat (K := fun v μ' => viewK P o.type v fun v => pairK v μ')]
    rw [obind_nat]; congr 1; funext p; rw [viewK_nat]; rfl
  · rw [callK_nat]; rfl

/-! ### What is looked at -/
theorem pureK_congr {ev ev' : Operand → AV} {op : Op} (h : ∀ x ∈ op.operands, ev x = ev' x) {ty : TypeId} {K : AV → Option R} : pureK P ev op ty K = pureK P ev' op ty K := by
  have args : ∀ {ce : Callee} {as : Array Operand} {ts : Array TypeId}, (∀ x ∈ (Op.call { callee := ce, args := as, argTypes := ts }).operands, ev x = ev' x) → ∀ x ∈ as.toList, ev x = ev' x :=
    fun h x hx => h x (by simp only [Op.operands, Call.operands]; exact Array.mem_append.2 (.inr (Array.mem_toList_iff.1 hx)))
  cases op with
  | call c =>
    obtain ⟨ce, as, ts⟩ := c
    have ha := args h
    cases ce with
    | builtin b =>
      cases b with
      | len =>
        simp only [pureK]
        rcases hl : as.toList with _ | ⟨x, _ | ⟨y, l⟩⟩ <;> try rfl
        rcases ts.toList with _ | ⟨t, _ | ⟨u, l⟩⟩ <;> try rfl
        simp only []
        rw [ha x (by rw [hl]; exact List.mem_cons_self ..)]
      | min =>
        simp only [pureK]
        rcases hl : as.toList with _ | ⟨x, l⟩
        · rfl
        · simp only []
          rw [ha x (by rw [hl]; exact List.mem_cons_self ..), List.map_congr_left fun y hy => ha y (by rw [hl]; exact List.mem_cons_of_mem _ hy)]
      | max =>
        simp only [pureK]
        rcases hl : as.toList with _ | ⟨x, l⟩
        · rfl
        · simp only []
          rw [ha x (by rw [hl]; exact List.mem_cons_self ..), List.map_congr_left fun y hy => ha y (by rw [hl]; exact List.mem_cons_of_mem _ hy)]
      | _ => rfl
    | _ => rfl
  | build t ps =>
    simp only [pureK]
    rw [List.map_congr_left (l := ps.toList) (g := fun p => (p.1, ev' p.2)) fun p hp => by rw [h p.2 (by simp only [Op.operands]; simp; exact ⟨p.1, by simpa using hp⟩)]]
  | makeFunc fn first caps =>
    cases fn with
    | func g =>
      simp only [pureK]
      rw [List.map_congr_left (l := caps.toList) fun x hx => h x (by simp only [Op.operands]; exact Array.mem_append.2 (.inr (Array.mem_toList_iff.1 hx)))]
    | _ => rfl
  | slice t x lo hi mx =>
    cases mx with
    | some m => rfl
    | none =>
      simp only [pureK]
      simp only [Op.operands] at h
      have e1 : lo.map ev = lo.map ev' := by cases lo with | none => rfl | some y => exact congrArg some (h y (by simp))
      have e2 : hi.map ev = hi.map ev' := by cases hi with | none => rfl | some y => exact congrArg some (h y (by simp))
      rw [e1, e2, h x (by simp)]
  | pick c a b => simp only [Op.operands] at h; simp only [pureK]; rw [h c (by simp), h a (by simp), h b (by simp)]
  | binOp bo t a b g => simp only [Op.operands] at h; simp only [pureK]; rw [h a (by simp), h b (by simp)]
  | indexAddr t a b => simp only [Op.operands] at h; simp only [pureK]; rw [h a (by simp), h b (by simp)]
  | move x => simp only [Op.operands] at h; simp only [pureK]; rw [h x (by simp)]
  | assign x => simp only [Op.operands] at h; simp only [pureK]; rw [h x (by simp)]
  | nilCheck x => simp only [Op.operands] at h; simp only [pureK]; rw [h x (by simp)]
  | unOp o t x => simp only [Op.operands] at h; simp only [pureK]; rw [h x (by simp)]
  | convert s d x => simp only [Op.operands] at h; simp only [pureK]; rw [h x (by simp)]
  | fieldAddr st x i => simp only [Op.operands] at h; simp only [pureK]; rw [h x (by simp)]
  | field st x i => simp only [Op.operands] at h; simp only [pureK]; rw [h x (by simp)]
  | extract x i => simp only [Op.operands] at h; simp only [pureK]; rw [h x (by simp)]
  | _ => rfl
theorem allocK_congr {ev ev' : Operand → AV} {op : Op} (h : ∀ x ∈ op.operands, ev x = ev' x) {nid : Nat} {K : AObj → AV → Option R} : allocK P ev nid op K = allocK P ev' nid op K := by
  cases op with
  | box t x => simp only [Op.operands] at h; simp only [allocK]; rw [h x (by simp)]
  | buildSlice t n ps =>
    simp only [allocK]
    rw [List.map_congr_left (l := ps.toList) (g := fun p => (p.1, ev' p.2)) fun p hp => by rw [h p.2 (by simp only [Op.operands]; simp; exact ⟨p.1, by simpa using hp⟩)]]
  | makeSlice t l c => simp only [Op.operands] at h; simp only [allocK]; rw [h l (by simp), h c (by simp)]
  | _ => rfl
theorem effK_congr {ev ev' : Operand → AV} {op : Op} (h : ∀ x ∈ op.operands, ev x = ev' x) {nid : Nat} {μ : AMem} {K : AV → AMem → Option R} : effK P ev nid μ op K = effK P ev' nid μ op K := by
  cases op with
  | store t a b => simp only [Op.operands] at h; simp only [effK]; rw [h a (by simp), h b (by simp)]
  | call c =>
    obtain ⟨ce, as, ts⟩ := c
    have ha : ∀ x ∈ as.toList, ev x = ev' x := fun x hx => h x (by simp only [Op.operands, Call.operands]; exact Array.mem_append.2 (.inr (Array.mem_toList_iff.1 hx)))
    cases ce with
    | builtin b =>
      cases b with
      | append =>
        simp only [effK]
        rcases hl : as.toList with _ | ⟨x, _ | ⟨y, _ | ⟨z, l⟩⟩⟩ <;> try rfl
        rcases ts.toList with _ | ⟨t, _ | ⟨u, _ | ⟨z, l⟩⟩⟩ <;> try rfl
        simp only []
        rw [ha x (by rw [hl]; simp), ha y (by rw [hl]; simp)]
      | copy =>
        simp only [effK]
        rcases hl : as.toList with _ | ⟨x, _ | ⟨y, _ | ⟨z, l⟩⟩⟩ <;> try rfl
        rcases ts.toList with _ | ⟨t, _ | ⟨u, _ | ⟨z, l⟩⟩⟩ <;> try rfl
        simp only []
        rw [ha x (by rw [hl]; simp), ha y (by rw [hl]; simp)]
      | cap =>
        simp only [effK]
        rcases hl : as.toList with _ | ⟨x, _ | ⟨y, l⟩⟩ <;> try rfl
        rcases ts.toList with _ | ⟨t, _ | ⟨u, l⟩⟩ <;> try rfl
        simp only []
        rw [ha x (by rw [hl]; simp)]
      | _ => rfl
    | _ => rfl
  | _ => rfl
theorem callK_congr {Γ : FuncId → FunA} {ev ev' : Operand → AV} {op : Op} (h : ∀ x ∈ op.operands, ev x = ev' x) {μ : AMem} {ty : TypeId} {K : AV → AMem → Option R} : callK P Γ ev μ op ty K = callK P Γ ev' μ op ty K := by
  cases op with
  | call c =>
    obtain ⟨ce, as, ts⟩ := c
    cases ce with
    | value f =>
      simp only [callK]
      simp only [Op.operands, Call.operands] at h
      rw [h f (by simp), List.map_congr_left (l := as.toList) fun x hx => h x (Array.mem_append.2 (.inr (Array.mem_toList_iff.1 hx)))]
    | _ => rfl
  | _ => rfl
theorem stepK_congr {Γ : FuncId → FunA} {e e' : Env} {nid : Nat} {μ : AMem} {o : Oper} (h : ∀ x ∈ o.op.operands, evalA e x = evalA e' x) {K : AV → AMem → Option R} :
    stepK P Γ e nid μ o K = stepK P Γ e' nid μ o K := by
  unfold stepK; split
  · exact pureK_congr h
  · split
    · rename_i t x hop
      rw [hop] at h
      simp only [Op.operands] at h
      rw [h x (by simp)]
    · rfl
  · exact allocK_congr h
  · exact effK_congr h
  · exact callK_congr h
end
end Go.Proofs.Ytchapaejdgnihaa.E
