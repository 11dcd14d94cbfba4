/- The abstract machine is sound, part 3: literals, new objects, loads and stores, append, copy. -/
import Derived.Test.YtchapaejdgnihaaE2
namespace Go.Proofs.Ytchapaejdgnihaa.E
open Go
set_option linter.unusedVariables false

section
variable {R : Type} {ι : Nat → Loc} {μ : AMem} {P : Program}

theorem cells_rel {y : AV} {l : List SV} {v : Value} (h : y.cells = some l) (hv : AVR ι μ y v) : All2 (SVR ι μ) l v.cells.toList := by
  unfold AV.cells at h
  split at h
  · obtain rfl := Option.some.inj h
    rename_i x
    have h1 : SVR ι μ x v := hv
    rw [oneCell_agg h1.one]
    exact All2.cons h1 (All2.nil _)
  · obtain rfl := Option.some.inj h
    obtain ⟨cs, rfl, hc⟩ := hv
    exact hc
  · cases h
theorem cells_one {y : AV} {l : List SV} {v : Value} (h : y.cells = some l) (hv : AVR ι μ y v) : ∀ u ∈ v.cells.toList, u.oneCell' = true := by
  intro u hu
  obtain ⟨i, hi⟩ := List.mem_iff_getElem?.mp hu
  have hc := cells_rel h hv
  have hlt : i < l.length := by
    rw [← hc.1]
    exact (List.getElem?_eq_some_iff.mp hi).1
  obtain ⟨u', hu', hr⟩ := hc.2 i l[i] (List.getElem?_eq_getElem hlt)
  rw [hi] at hu'
  obtain rfl := Option.some.inj hu'
  exact hr.one

theorem overA_get (cs : List SV) (off : Nat) (new : List SV) (h : off + new.length ≤ cs.length) (j : Nat) :
    (overA cs off new)[j]? = if off ≤ j ∧ j < off + new.length then new[j - off]? else cs[j]? := by
  unfold overA
  by_cases h1 : j < off
  · rw [List.append_assoc, List.getElem?_append_left (by simp; omega), List.getElem?_take, if_pos h1, if_neg (by omega)]
  · by_cases h2 : j < off + new.length
    · rw [List.append_assoc, List.getElem?_append_right (by simp; omega), List.getElem?_append_left (by simp; omega), if_pos (by omega)]
      congr 1; simp; omega
    · rw [List.getElem?_append_right (by simp; omega), List.getElem?_drop, if_neg (by omega)]
      congr 1; simp; omega
theorem overA_length (cs : List SV) (off : Nat) (new : List SV) (h : off + new.length ≤ cs.length) : (overA cs off new).length = cs.length := by
  unfold overA; simp; omega
theorem overA_rel {α : Type} {S : SV → α → Prop} {cs new : List SV} {off : Nat} {cs' new' : List α} (hc : All2 S cs cs') (hn : All2 S new new') (h : off + new.length ≤ cs.length) :
    All2 S (overA cs off new) (cs'.take off ++ new' ++ cs'.drop (off + new'.length)) := by
  unfold overA
  rw [hn.1]
  exact ((hc.take _).append hn).append (hc.drop _)
theorem over_get {α : Type} (cs : List α) (off : Nat) (new : List α) (h : off + new.length ≤ cs.length) (j : Nat) :
    (cs.take off ++ new ++ cs.drop (off + new.length))[j]? = if off ≤ j ∧ j < off + new.length then new[j - off]? else cs[j]? := by
  by_cases h1 : j < off
  · rw [List.append_assoc, List.getElem?_append_left (by simp; omega), List.getElem?_take, if_pos h1, if_neg (by omega)]
  · by_cases h2 : j < off + new.length
    · rw [List.append_assoc, List.getElem?_append_right (by simp; omega), List.getElem?_append_left (by simp; omega), if_pos (by omega)]
      congr 1; simp; omega
    · rw [List.getElem?_append_right (by simp; omega), List.getElem?_drop, if_neg (by omega)]
      congr 1; simp; omega
theorem foldl_get (off : Nat) : ∀ (l : List Value) (k : Nat) (arr : Array Value), off + k + l.length ≤ arr.size → ∀ j,
    ((l.zipIdx k).foldl (fun cs (p : Value × Nat) => cs.setIfInBounds (off + p.2) p.1) arr)[j]? = if off + k ≤ j ∧ j < off + k + l.length then l[j - (off + k)]? else arr[j]?
  | [], k, arr, _, j => by simp; omega
  | v :: l, k, arr, h, j => by
    simp only [List.length_cons] at h ⊢
    rw [List.zipIdx_cons, List.foldl_cons, foldl_get off l (k + 1) _ (by simp; omega) j]
    rw [Array.getElem?_setIfInBounds]
    by_cases h1 : off + k = j
    · rw [if_neg (by omega), if_pos h1, if_pos (by omega), if_pos (by omega), show j - (off + k) = 0 by omega]
      rfl
    · by_cases h2 : off + (k + 1) ≤ j ∧ j < off + (k + 1) + l.length
      · rw [if_pos h2, if_pos (by omega), show j - (off + k) = (j - (off + (k + 1))) + 1 by omega, List.getElem?_cons_succ]
      · rw [if_neg h2, if_neg h1, if_neg (by omega)]
theorem foldl_set (off : Nat) (l : List Value) (arr : Array Value) (h : off + l.length ≤ arr.size) :
    ((l.zipIdx 0).foldl (fun cs (p : Value × Nat) => cs.setIfInBounds (off + p.2) p.1) arr).toList = arr.toList.take off ++ l ++ arr.toList.drop (off + l.length) := by
  apply List.ext_getElem?
  intro j
  have h1 := foldl_get off l 0 arr (by omega) j
  rw [Array.getElem?_toList, h1, over_get _ _ _ (by simpa using h)]
  simp
theorem fillA_rel {place : Nat → Option (Nat × Nat)} : ∀ {parts : List (Nat × AV)} {cs cs' : List SV} {arr : Array Value} {parts' : List (Nat × Value)},
    fillA place cs parts = some cs' → All2 (SVR ι μ) cs arr.toList → All2 (fun p q => p.1 = q.1 ∧ AVR ι μ p.2 q.2) parts parts' →
    ∃ arr', Instr.fill place arr parts' = some arr' ∧ All2 (SVR ι μ) cs' arr'.toList
  | [], cs, cs', arr, parts', h, hc, hp => by
    obtain rfl := hp.nil_inv
    obtain rfl := Option.some.inj h
    exact ⟨arr, rfl, hc⟩
  | (i, v) :: r, cs, cs', arr, parts', h, hc, hp => by
    obtain ⟨⟨i', u⟩, m', rfl, ⟨hi, hv⟩, hp'⟩ := hp.cons_inv
    simp only at hi hv
    subst hi
    simp only [fillA] at h
    obtain ⟨⟨off, n⟩, hpl, h⟩ := Option.bind_eq_some_iff.mp h
    obtain ⟨l, hl, h⟩ := Option.bind_eq_some_iff.mp h
    split at h
    · rename_i hh
      have hul := cells_rel hl hv
      have hsz : u.cells.size = l.length := by rw [← Array.length_toList]; exact hul.1
      have hcs : arr.size = cs.length := by rw [← Array.length_toList]; exact hc.1
      simp only [Instr.fill, hpl]
      rw [if_neg (by simp only [ne_eq, Bool.or_eq_true, decide_eq_true_eq]; omega)]
      have e := foldl_set off u.cells.toList arr (by simp; omega)
      refine fillA_rel h ?_ hp'
      have e2 : (u.cells.zipIdx.foldl (fun cs (x : Value × Nat) => match x with | (c, j) => cs.setIfInBounds (off + j) c) arr).toList = arr.toList.take off ++ u.cells.toList ++ arr.toList.drop (off + u.cells.toList.length) := by
        rw [← Array.foldl_toList, Array.toList_zipIdx]
        simpa using e
      rw [e2]
      exact overA_rel hc hul (by omega)
    · cases h

theorem svsOf_rel : ∀ {l : List Value} {cs : List SV}, svsOf l = some cs → All2 (SVR ι μ) cs l
  | [], cs, h => by obtain rfl := Option.some.inj h; exact All2.nil _
  | v :: r, cs, h => by
    simp only [svsOf] at h
    obtain ⟨x, hx, h⟩ := Option.bind_eq_some_iff.mp h
    obtain ⟨cs', hcs, rfl⟩ := Option.map_eq_some_iff.mp h
    refine All2.cons ?_ (svsOf_rel hcs)
    unfold svOf at hx
    split at hx
    · rename_i y hy
      obtain rfl := Option.some.inj hx
      have := constA_rel (ι := ι) (μ := μ) v
      rw [hy] at this
      exact this
    · cases hx
theorem zeroA_rel {t : TypeId} {cs : List SV} (h : zeroA P t = some cs) : ∃ z, (∀ w, (zeroValue t).run P w = .ok z w) ∧ All2 (SVR ι μ) cs z.cells.toList ∧ (∀ i, P.info? t = some i → i.zero = some z) := by
  unfold zeroA at h
  obtain ⟨z, hz, h⟩ := Option.bind_eq_some_iff.mp h
  obtain ⟨i, hi, hz⟩ := Option.bind_eq_some_iff.mp hz
  exact ⟨z, fun w => by simp [zeroValue, run_inf hi, hz], svsOf_rel h, fun i' hi' => by rw [hi] at hi'; obtain rfl := Option.some.inj hi'; exact hz⟩
theorem parts_rel {ev : Operand → AV} {ρ : Operand → Value} (h : ∀ x, AVR ι μ (ev x) (ρ x)) : ∀ (ps : List (Nat × Operand)), All2 (fun (p : Nat × AV) (q : Nat × Value) => p.1 = q.1 ∧ AVR ι μ p.2 q.2) (ps.map fun p => (p.1, ev p.2)) (ps.map fun p => (p.1, ρ p.2))
  | [] => All2.nil _
  | p :: ps => All2.cons ⟨rfl, h p.2⟩ (parts_rel h ps)
theorem mapM_siz {fs : List Field} : ∀ (w : World), (∀ f ∈ fs, ∃ n, sizeA P f.type = some n) →
    (fs.mapM fun f => (do pure (f.offset, ← sizeOf f.type) : Sem (Nat × Nat))).run P w = .ok (fs.map fun f => (f.offset, (sizeA P f.type).getD 0)) w := by
  induction fs with
  | nil => intro w _; rfl
  | cons f fs ih =>
    intro w h
    obtain ⟨n, hn⟩ := h f (by simp)
    rw [List.mapM_cons]
    simp only [Sem.run_bind, run_siz hn, Result.andThen_ok, Sem.run_pure, ih w (fun g hg => h g (by simp [hg])), List.map_cons, hn, Option.getD_some]
theorem buildV_tells {t : TypeId} {ps : Array (Nat × Operand)} {ev : Operand → AV} {ρ : Operand → Value} {y : AV} (h : buildV P t (ps.toList.map fun p => (p.1, ev p.2)) = some y) (hr : ∀ x, AVR ι μ (ev x) (ρ x)) :
    ∃ v, AVR ι μ y v ∧ ∀ w, (Instr.build t (ps.map fun p => (p.1, ρ p.2))).run P w = .ok v w := by
  unfold buildV at h
  split at h
  · rename_i fs hu
    split at h
    · rename_i hall
      have hfs : ∀ f ∈ fs.toList, ∃ n, sizeA P f.type = some n := by
        intro f hf
        have := (Array.all_eq_true_iff_forall_mem.mp hall) f (by rwa [Array.mem_toList_iff] at hf)
        exact Option.isSome_iff_exists.mp this
      obtain ⟨z, hz, h⟩ := Option.bind_eq_some_iff.mp h
      obtain ⟨cs, hcs, rfl⟩ := Option.map_eq_some_iff.mp h
      obtain ⟨zv, hzv, hzr, _⟩ := zeroA_rel (ι := ι) (μ := μ) hz
      have hplace : ∀ i, fieldsAt P fs i = (fs.map fun f => (f.offset, (sizeA P f.type).getD 0))[i]? := by
        intro i
        unfold fieldsAt
        rw [Array.getElem?_map]
        cases hf : fs[i]? with
        | none => rfl
        | some f =>
          obtain ⟨n, hn⟩ := hfs f (by rw [Array.mem_toList_iff]; exact Array.mem_of_getElem? hf)
          simp [hn]
      rw [show fieldsAt P fs = fun i => (fs.map fun f => (f.offset, (sizeA P f.type).getD 0))[i]? from funext hplace] at hcs
      obtain ⟨arr, harr, hrel⟩ := fillA_rel hcs hzr (parts_rel hr ps.toList)
      refine ⟨.agg arr, ⟨arr, rfl, hrel⟩, fun w => ?_⟩
      have hm : (fs.mapM fun f => (do pure (f.offset, ← sizeOf f.type) : Sem (Nat × Nat))).run P w = .ok (fs.map fun f => (f.offset, (sizeA P f.type).getD 0)) w := by
        rw [Array.mapM_eq_mapM_toList, Sem.run_map, mapM_siz w hfs]
        simp only [Result.andThen_ok]
        congr 1
        apply Array.ext'
        simp
      simp only [Instr.build, Sem.run_bind, hzv, Result.andThen_ok, run_und hu, hm, Array.toList_map, harr, Sem.run_pure]
    · cases h
  · rename_i len e hu
    obtain ⟨z, hz, h⟩ := Option.bind_eq_some_iff.mp h
    obtain ⟨n, hn, h⟩ := Option.bind_eq_some_iff.mp h
    obtain ⟨cs, hcs, rfl⟩ := Option.map_eq_some_iff.mp h
    obtain ⟨zv, hzv, hzr, _⟩ := zeroA_rel (ι := ι) (μ := μ) hz
    obtain ⟨arr, harr, hrel⟩ := fillA_rel hcs hzr (parts_rel hr ps.toList)
    refine ⟨.agg arr, ⟨arr, rfl, hrel⟩, fun w => ?_⟩
    simp only [Instr.build, Sem.run_bind, hzv, Result.andThen_ok, run_und hu, run_siz hn, Array.toList_map, harr, Sem.run_pure]
  · cases h
theorem capsA_rel : ∀ {l : List AV} {cs : List (Nat × Nat × Nat)} {m : List Value}, capsA l = some cs → All2 (AVR ι μ) l m → All2 (fun c u => PtrR ι μ c.1 c.2.1 c.2.2 u) cs m
  | [], cs, m, h, hm => by obtain rfl := Option.some.inj h; obtain rfl := hm.nil_inv; exact All2.nil _
  | x :: l, cs, m, h, hm => by
    obtain ⟨u, m', rfl, hu, hm'⟩ := hm.cons_inv
    unfold capsA at h
    split at h
    · rename_i hx; cases hx
    · rename_i id ver off r hx
      obtain ⟨rfl, rfl⟩ := List.cons.inj hx
      obtain ⟨cs', hcs, rfl⟩ := Option.map_eq_some_iff.mp h
      exact All2.cons hu (capsA_rel hcs hm')
    · cases h

/-- Every operation that does not look at memory. -/
theorem map_rel {ev : Operand → AV} {ρ : Operand → Value} (h : ∀ x, AVR ι μ (ev x) (ρ x)) : ∀ (l : List Operand), All2 (AVR ι μ) (l.map ev) (l.map ρ)
  | [] => All2.nil _
  | x :: l => All2.cons (h x) (map_rel h l)
theorem omap_some {ev : Operand → AV} {ρ : Operand → Value} (h : ∀ x, AVR ι μ (ev x) (ρ x)) (o : Option Operand) : (∀ y, o.map ev = some y → ∃ v, o.map ρ = some v ∧ AVR ι μ y v) ∧ (o.map ev = none → o.map ρ = none) := by
  cases o with
  | none => exact ⟨fun y hy => by simp at hy, fun _ => rfl⟩
  | some x => exact ⟨fun y hy => by simp at hy; subst hy; exact ⟨_, rfl, h x⟩, fun hh => by simp at hh⟩
theorem list1 {l : Array Operand} {x : Operand} (h : l.toList = [x]) : l = #[x] := by apply Array.ext'; exact h
theorem list2 {l : Array Operand} {x y : Operand} (h : l.toList = [x, y]) : l = #[x, y] := by apply Array.ext'; exact h
theorem tys1 {l : Array TypeId} {x : TypeId} (h : l.toList = [x]) : l = #[x] := by apply Array.ext'; exact h
theorem tys2 {l : Array TypeId} {x y : TypeId} (h : l.toList = [x, y]) : l = #[x, y] := by apply Array.ext'; exact h
theorem pureK_tells {ev : Operand → AV} {ρ : Operand → Value} {o : Oper} {K : AV → Option R} {r : R} (h : pureK P ev o.op o.type K = some r) (hr : ∀ x, AVR ι μ (ev x) (ρ x)) :
    ∃ y v, K y = some r ∧ AVR ι μ y v ∧ ∀ w, (execOp ρ o).run P w = .ok (.value v) w := by
  have fin : ∀ {s : Sem Value}, Tells P ι μ K r s → execOp ρ o = (do pure (.value (← s)) : Sem Next) → ∃ y v, K y = some r ∧ AVR ι μ y v ∧ ∀ w, (execOp ρ o).run P w = .ok (.value v) w := by
    intro s hs he
    obtain ⟨y, v, h1, h2, h3⟩ := hs
    exact ⟨y, v, h1, h2, fun w => by rw [he, Sem.run_bind, h3]; rfl⟩
  unfold pureK at h
  split at h <;> rename_i hop
  · exact ⟨_, _, h, hr _, fun w => by unfold execOp; rw [hop]; rfl⟩
  · exact ⟨_, _, h, hr _, fun w => by unfold execOp; rw [hop]; rfl⟩
  · rename_i c a b
    unfold pickK at h
    obtain ⟨t, ht, h1⟩ := asB_some h
    have hc := hr c
    rw [ht] at hc
    have hcb : ρ c = .bool t := bool_rel hc
    cases t with
    | true => exact ⟨_, _, h1, hr a, fun w => by unfold execOp; rw [hop]; simp [hcb, asBool]⟩
    | false => exact ⟨_, _, h1, hr b, fun w => by unfold execOp; rw [hop]; simp [hcb, asBool]⟩
  · rename_i x
    have hx := hr x
    unfold nonNil at h
    split at h
    · rename_i id ver off he
      rw [he] at hx
      obtain ⟨ob, ho, hv, a, ha, hh⟩ := hx
      refine ⟨_, ρ x, h, by rw [he]; exact ⟨ob, ho, hv, a, ha, hh⟩, fun w => by unfold execOp; rw [hop]; simp [ha]⟩
    · rename_i f caps he
      rw [he] at hx
      obtain ⟨cvs, ha, hs, hh⟩ := hx
      refine ⟨_, ρ x, h, by rw [he]; exact ⟨cvs, ha, hs, hh⟩, fun w => by unfold execOp; rw [hop]; simp [ha]⟩
    · cases h
  · rename_i bop t x y yt
    exact fin (binK_tells h (hr x) (hr y) x y) (by unfold execOp; rw [hop])
  · rename_i uop t x
    exact fin (unK_tells h (hr x)) (by unfold execOp; rw [hop])
  · rename_i s d x
    exact fin (convK_tells h (hr x)) (by unfold execOp; rw [hop])
  · rename_i st x f
    exact fin (fieldK_tells h (hr x)) (by unfold execOp; rw [hop])
  · rename_i st x f
    obtain ⟨y, v, h1, h2, h3⟩ := partK_tells (ι := ι) (μ := μ) h (hr x)
    exact fin ⟨y, v, viewK_some h1, h2, h3⟩ (by unfold execOp; rw [hop])
  · rename_i t x i
    exact fin (indexK_tells h (hr x) (hr i)) (by unfold execOp; rw [hop])
  · rename_i t x lo hi
    exact fin (sliceK_tells h (hr x) (omap_some hr lo).1 (omap_some hr lo).2 (omap_some hr hi).1 (omap_some hr hi).2) (by unfold execOp; rw [hop]; rfl)
  · rename_i x i
    obtain ⟨y, v, h1, h2, h3⟩ := extrK_tells (ι := ι) (μ := μ) (P := P) h (hr x)
    exact fin ⟨y, v, viewK_some h1, h2, h3⟩ (by unfold execOp; rw [hop])
  · rename_i t ps
    obtain ⟨y, hy, h1⟩ := Option.bind_eq_some_iff.mp h
    obtain ⟨v, h2, h3⟩ := buildV_tells hy hr
    exact fin ⟨y, v, h1, h2, h3⟩ (by unfold execOp; rw [hop])
  · rename_i f first caps
    cases hf : first.isEmpty with
    | false => rw [hf] at h; cases h
    | true =>
      rw [hf] at h
      simp only [cond_true] at h
      have hfe : first = #[] := by simpa using hf
      subst hfe
      obtain ⟨cs, hcs, h1⟩ := Option.bind_eq_some_iff.mp h
      have hc := capsA_rel hcs (map_rel hr caps.toList)
      refine fin (s := Instr.makeFunc (.func f) (#[].map ρ) (caps.map ρ)) ⟨_, .func (.func f) #[] (caps.map ρ), h1, ⟨caps.map ρ, rfl, ?_, ?_⟩, fun w => by simp [Instr.makeFunc]⟩ (by unfold execOp; rw [hop])
      · have := hc.1; simpa using this
      · intro i c hi
        obtain ⟨u, hu, hp⟩ := hc.2 i c hi
        exact ⟨u, by rw [← Array.getElem?_toList, Array.toList_map]; exact hu, hp⟩
  · rename_i as ts
    split at h
    · rename_i x t ha ht
      obtain rfl := list1 ha
      obtain rfl := tys1 ht
      refine fin (lenK_tells (ty := o.type) h (hr x)) (by unfold execOp; rw [hop]; simp [resolve, invoke, builtin])
    · cases h
  · rename_i as ts
    split at h
    · rename_i x l ha
      refine fin (s := (l.map ρ).foldlM Builtin.min2 (ρ x)) (foldMin_tells h (hr x) (map_rel hr l)) ?_
      unfold execOp; rw [hop]
      simp [resolve, invoke, builtin, Builtin.min_, Array.toList_map, ha]
    · cases h
  · rename_i as ts
    split at h
    · rename_i x l ha
      refine fin (s := (l.map ρ).foldlM Builtin.max2 (ρ x)) (foldMax_tells h (hr x) (map_rel hr l)) ?_
      unfold execOp; rw [hop]
      simp [resolve, invoke, builtin, Builtin.max_, Array.toList_map, ha]
    · cases h
  · cases h
end
end Go.Proofs.Ytchapaejdgnihaa.E
