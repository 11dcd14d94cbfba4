/- The abstract machine is sound, part 5: what writes tells one thing, and what stays dead. -/
import Derived.Test.YtchapaejdgnihaaE4
namespace Go.Proofs.Ytchapaejdgnihaa.E
open Go
set_option linter.unusedVariables false
set_option linter.unusedSimpArgs false

/-- No object is born but the one. -/
def Dead1 (nid : Nat) (μ μ' : AMem) : Prop := ∀ j, j ≠ nid → μ.obj j = none → μ'.obj j = none
/-- No object is born below the next number. -/
def Dead (μ μ' : AMem) : Prop := ∀ j, j < μ.next → μ.obj j = none → μ'.obj j = none
theorem Dead.refl (μ : AMem) : Dead μ μ := fun _ _ h => h
theorem Dead.trans {μ μ1 μ2 : AMem} (h : Dead μ μ1) (k : Dead μ1 μ2) (hn : μ.next ≤ μ1.next) : Dead μ μ2 := fun j hj hd => k j (Nat.lt_of_lt_of_le hj hn) (h j hj hd)
theorem Dead1.set {nid : Nat} {μ : AMem} {o : AObj} : Dead1 nid μ (μ.set nid o) := fun j hj hd => by simp [AMem.set, hj, hd]
theorem Dead1.old {nid id : Nat} {μ : AMem} {o o' : AObj} (h : μ.obj id = some o) : Dead1 nid μ (μ.set id o') := fun j hj hd => by
  have : j ≠ id := fun e => by subst e; rw [h] at hd; cases hd
  simp [AMem.set, this, hd]

section
variable {R : Type} {P : Program}
theorem store_dead {μ μ' : AMem} {id ver off : Nat} {l : List SV} (h : μ.store id ver off l = some μ') (nid : Nat) : Dead1 nid μ μ' := by
  unfold AMem.store at h
  obtain ⟨o, ho, h⟩ := Option.bind_eq_some_iff.mp h
  split at h
  · obtain rfl := Option.some.inj h; exact Dead1.old ho
  · cases h
def pairK : AV → AMem → Option (AV × AMem) := fun v μ => some (v, μ)
theorem storeK_nat {t : TypeId} {μ : AMem} {p x : AV} {K : AMem → Option R} : storeK P t μ p x K = (storeK P t μ p x some).bind K := by
  unfold storeK storeAt
  cases sizeA P t with
  | none => rfl
  | some n =>
    dsimp only
    cases p with
    | s v =>
      cases v with
      | ptr id ver off =>
        dsimp only
        cases x.cells with
        | none => rfl
        | some l =>
          by_cases hl : l.length = n
          · simp only [hl, if_true]; cases μ.store id ver off l <;> rfl
          · simp only [hl, if_false]; rfl
      | _ => rfl
    | _ => rfl
theorem storeK_dead {t : TypeId} {μ μ' : AMem} {p x : AV} (nid : Nat) (h : storeK P t μ p x some = some μ') : Dead1 nid μ μ' := by
  unfold storeK at h
  split at h
  · unfold storeAt at h
    split at h
    · split at h
      · split at h
        · obtain ⟨μ1, h1, h2⟩ := Option.bind_eq_some_iff.mp h
          obtain rfl := Option.some.inj h2
          exact store_dead h1 nid
        · cases h
      · cases h
    · cases h
  · cases h
theorem ite_nat {α β : Type} {c : Prop} [Decidable c] {a b : Option α} {f : α → Option β} : (if c then a else b).bind f = if c then a.bind f else b.bind f := by split <;> rfl
theorem appendS_nat {e size bytes nid : Nat} {μ : AMem} {x : AV} {m : Nat} {new : List SV} {K : AV → AMem → Option R} :
    appendS e size bytes nid μ x m new K = (appendS e size bytes nid μ x m new pairK).bind fun p => K p.1 p.2 := by
  unfold appendS
  cases x with
  | s v =>
    cases v with
    | nilSlice => simp only [ite_nat]; rfl
    | slice id ver off len =>
      cases off with
      | zero =>
        show (μ.obj id).bind _ = ((μ.obj id).bind _).bind _
        cases μ.obj id with
        | none => rfl
        | some o => simp only [Option.bind_some, ite_nat]; rfl
      | succ _ => rfl
    | _ => rfl
  | _ => rfl
theorem appendS_dead {e size bytes nid : Nat} {μ μ' : AMem} {x v : AV} {m : Nat} {new : List SV}
    (h : appendS e size bytes nid μ x m new pairK = some (v, μ')) : Dead1 nid μ μ' := by
  unfold appendS at h
  split at h
  · split at h
    · split at h
      · cases h; exact fun _ _ h => h
      · cases h; exact Dead1.set
    · cases h
  · obtain ⟨o, ho, h2⟩ := Option.bind_eq_some_iff.mp h
    split at h2
    · split at h2
      · cases h2; exact fun _ _ h => h
      · cases h2; exact Dead1.old ho
    · cases h2
  · cases h
theorem appendA_nat {e size bytes nid : Nat} {μ : AMem} {x y : AV} {K : AV → AMem → Option R} :
    appendA e size bytes nid μ x y K = (appendA e size bytes nid μ x y pairK).bind fun p => K p.1 p.2 := by
  unfold appendA
  cases lenS y with
  | none => rfl
  | some m =>
    simp only [Option.bind_some]
    cases μ.row size m y with
    | none => rfl
    | some new => simp only [Option.bind_some]; exact appendS_nat
theorem appendK_nat {t u nid : Nat} {μ : AMem} {x y : AV} {K : AV → AMem → Option R} :
    appendK P t u nid μ x y K = (appendK P t u nid μ x y pairK).bind fun p => K p.1 p.2 := by
  unfold appendK
  cases P.underlying t with
  | none => rfl
  | some d =>
    cases d with
    | slice e =>
      dsimp only
      cases P.info? e with
      | none => rfl
      | some i =>
        simp only [Option.bind_some]
        cases zeroA P e with
        | none => rfl
        | some z =>
          simp only [Option.bind_some, ite_nat]
          cases P.underlying u with
          | none => rfl
          | some d' =>
            cases d' with
            | slice e' => simp only []; rw [appendA_nat]; rfl
            | _ => rfl
    | _ => rfl
theorem appendK_dead {t u nid : Nat} {μ μ' : AMem} {x y v : AV} (h : appendK P t u nid μ x y pairK = some (v, μ')) : Dead1 nid μ μ' := by
  unfold appendK at h
  split at h
  · obtain ⟨i, hi, h1⟩ := Option.bind_eq_some_iff.mp h
    obtain ⟨z, hz, h2⟩ := Option.bind_eq_some_iff.mp h1
    split at h2
    · split at h2
      · unfold appendA at h2
        obtain ⟨m, hm, h3⟩ := Option.bind_eq_some_iff.mp h2
        obtain ⟨new, hw, h4⟩ := Option.bind_eq_some_iff.mp h3
        exact appendS_dead h4
      · cases h2
    · cases h2
  · cases h
theorem copyA_nat {size : Nat} {μ : AMem} {x y : AV} {K : AV → AMem → Option R} :
    copyA size μ x y K = (copyA size μ x y pairK).bind fun p => K p.1 p.2 := by
  unfold copyA
  cases lenS x with
  | none => rfl
  | some n =>
    simp only [Option.bind_some]
    cases lenS y with
    | none => rfl
    | some m =>
      simp only [Option.bind_some, ite_nat]
      by_cases h0 : min m n = 0
      · simp only [h0, if_true]; rfl
      · simp only [h0, if_false]
        cases μ.row size (min m n) y with
        | none => rfl
        | some new =>
          simp only [Option.bind_some]
          cases x with
          | s v =>
            cases v with
            | slice id ver off len => simp only []; cases μ.store id ver off new <;> rfl
            | _ => rfl
          | _ => rfl
theorem copyA_dead {size : Nat} {μ μ' : AMem} {x y v : AV} (nid : Nat) (h : copyA size μ x y pairK = some (v, μ')) : Dead1 nid μ μ' := by
  unfold copyA at h
  obtain ⟨n, hn, h1⟩ := Option.bind_eq_some_iff.mp h
  obtain ⟨m, hm, h2⟩ := Option.bind_eq_some_iff.mp h1
  split at h2
  · cases h2; exact fun _ _ h => h
  · obtain ⟨new, hw, h3⟩ := Option.bind_eq_some_iff.mp h2
    split at h3
    · obtain ⟨μ1, h4, h5⟩ := Option.bind_eq_some_iff.mp h3
      cases h5
      exact store_dead h4 nid
    · cases h3
theorem capA_nat {μ : AMem} {x : AV} {K : AV → AMem → Option R} :
    capA μ x (fun v => K v μ) = (capA μ x (fun v => pairK v μ)).bind fun p => K p.1 p.2 := by
  unfold capA
  cases x with
  | s v =>
    cases v with
    | slice id ver off len =>
      cases off with
      | zero =>
        show (μ.obj id).bind _ = ((μ.obj id).bind _).bind _
        cases μ.obj id with
        | none => rfl
        | some o =>
          simp only [Option.bind_some, ite_nat]
          cases o.cap <;> rfl
      | succ _ => rfl
    | _ => rfl
  | _ => rfl
theorem capA_dead {μ μ' : AMem} {x v : AV} (nid : Nat) (h : capA μ x (fun v => pairK v μ) = some (v, μ')) : Dead1 nid μ μ' := by
  unfold capA at h
  split at h
  · cases h; exact fun _ _ h => h
  · obtain ⟨o, ho, h1⟩ := Option.bind_eq_some_iff.mp h
    split at h1
    · obtain ⟨c, hc, h2⟩ := Option.bind_eq_some_iff.mp h1
      cases h2; exact fun _ _ h => h
    · cases h1
  · cases h
theorem effK_nat {ev : Operand → AV} {nid : Nat} {μ : AMem} {op : Op} {K : AV → AMem → Option R} :
    effK P ev nid μ op K = (effK P ev nid μ op pairK).bind fun p => K p.1 p.2 := by
  cases op with
  | store t p x =>
    simp only [effK]
    rw [storeK_nat, storeK_nat (K := fun μ' => pairK (.tuple []) μ')]
    cases storeK P t μ (ev p) (ev x) some <;> rfl
  | call c =>
    obtain ⟨callee, args, argTypes⟩ := c
    cases callee with
    | builtin b =>
      cases b with
      | append =>
        simp only [effK]
        rcases args.toList with _ | ⟨x, _ | ⟨y, _ | ⟨z, l⟩⟩⟩ <;> try rfl
        rcases argTypes.toList with _ | ⟨t, _ | ⟨u, _ | ⟨z, l⟩⟩⟩ <;> try rfl
        exact appendK_nat
      | copy =>
        simp only [effK]
        rcases args.toList with _ | ⟨x, _ | ⟨y, _ | ⟨z, l⟩⟩⟩ <;> try rfl
        rcases argTypes.toList with _ | ⟨t, _ | ⟨u, _ | ⟨z, l⟩⟩⟩ <;> try rfl
        simp only []
        cases P.underlying t with
        | none => rfl
        | some d =>
          cases d with
          | slice e =>
            simp only []
            cases sizeA P e with
            | none => rfl
            | some n => cases n with
              | zero => rfl
              | succ n => exact copyA_nat
          | _ => rfl
      | cap =>
        simp only [effK]
        rcases args.toList with _ | ⟨x, _ | ⟨y, l⟩⟩ <;> try rfl
        rcases argTypes.toList with _ | ⟨t, _ | ⟨u, l⟩⟩ <;> try rfl
        simp only []
        cases P.underlying t with
        | none => rfl
        | some d =>
          cases d with
          | slice e => exact capA_nat
          | _ => rfl
      | _ => rfl
    | _ => rfl
  | _ => rfl
theorem effK_dead {ev : Operand → AV} {nid : Nat} {μ μ' : AMem} {op : Op} {v : AV} (h : effK P ev nid μ op pairK = some (v, μ')) : Dead1 nid μ μ' := by
  unfold effK at h
  split at h
  · rw [storeK_nat] at h
    obtain ⟨μ1, h1, h2⟩ := Option.bind_eq_some_iff.mp h
    cases h2
    exact storeK_dead nid h1
  · split at h
    · exact appendK_dead h
    · cases h
  · split at h
    · split at h
      · split at h
        · exact copyA_dead nid h
        · cases h
      · cases h
    · cases h
  · split at h
    · split at h
      · exact capA_dead nid h
      · cases h
    · cases h
  · cases h

end
end Go.Proofs.Ytchapaejdgnihaa.E
