/- The abstract machine is sound, part 12: a function that writes into all of a row's room, whatever that is; of the row nothing is known then. -/
import Derived.Test.YtchapaejdgnihaaE8
namespace Go.Proofs.Ytchapaejdgnihaa.E
open Go
set_option linter.unusedVariables false
set_option linter.unusedSimpArgs false
section
variable {P : Program}
theorem Sound.room {f : FuncId} {e : TypeId} {z : SV} {D : FunA} (hD : Sound P f D) (hfn : ∃ fn, P.funcs[f]? = some fn ∧ (fn.name == "runtime.NumGoroutine") = false ∧ fn.body.isNone = false) {i : TypeInfo} {zv : Value} (hi : P.info? e = some i) (hz : i.zero = some zv)
    (hzv : z = .undef ∨ ∃ k n, zv.cells[0]? = some (.int k n) ∧ z = .int k n) : Sound P f (roomF e z D) := by
  intro as μ r μ' h
  unfold roomF at h
  split at h
  · exact hD _ _ _ _ h
  · rename_i id ver len
    obtain ⟨o, ho, h1⟩ := Option.bind_eq_some_iff.mp h
    obtain ⟨⟨hown, hver, hsz, hel, hzz, hall⟩, h2⟩ := checkA_some h1
    cases h2
    refine ⟨hfn, fun ι w vs hs hvs => ?_⟩
    · obtain ⟨g1, ⟨arr, e0, fr, hb, hcs, hown0⟩, g3, g4⟩ := hs.live id o ho
      obtain ⟨q1, q2, q3, q4, q5⟩ := hown0 hown
      obtain ⟨s1, s2⟩ := g4 hown _ _ _ hb
      rw [hsz, Nat.mul_one] at q4
      have hlen : len ≤ (ι id).cap := by
        obtain ⟨v, l, hvl, hv, _⟩ := hvs.cons_inv
        obtain ⟨o1, ho1, _, a, cap, _, hc, hh⟩ := hv
        rw [ho] at ho1
        obtain rfl := Option.some.inj ho1
        have := (hh hver).1 rfl
        omega
      have hcl : o.cells.length ≤ (ι id).cap := by
        rcases Nat.eq_zero_or_pos o.cells.length with h0 | h0
        · omega
        · obtain ⟨v, hv1, _⟩ := hcs (o.cells.length - 1) _ (List.getElem?_eq_getElem (by omega))
          rw [q1, Nat.zero_add] at hv1
          have := (Array.getElem?_eq_some_iff.mp hv1).1
          omega
      have hobj : ∀ j, j ≠ id → (μ.set id (roomO o (ι id).cap z)).obj j = μ.obj j := fun j hj => by simp [AMem.set, hj]
      have hid : (μ.set id (roomO o (ι id).cap z)).obj id = some (roomO o (ι id).cap z) := by simp [AMem.set]
      have hext : Ext ι μ ι (μ.set id (roomO o (ι id).cap z)) := by
        intro j x hx
        by_cases e' : j = id
        · subst e'; rw [ho] at hx; obtain rfl := Option.some.inj hx
          exact ⟨_, hid, Nat.le_refl _, fun _ => ⟨rfl, rfl⟩⟩
        · exact ⟨x, by rw [hobj j e']; exact hx, Nat.le_refl _, fun _ => ⟨rfl, rfl⟩⟩
      have hs' : Sim P ι (μ.set id (roomO o (ι id).cap z)) w := by
        refine ⟨fun j x hx => ?_, fun a b oa ob ha hb' hwa hab => ?_⟩
        · by_cases e' : j = id
          · subst e'
            rw [hid] at hx
            obtain rfl := Option.some.inj hx
            refine ⟨g1, ⟨arr, e0, fr, hb, fun k y hy => ?_, fun _ => ⟨q1, q2, q3, by simp [roomO, hsz, q4], q5⟩⟩, fun c hc => (by simpa [roomO] using hc), fun _ arr' e1 fr1 hb1 => ?_⟩
            · simp only [roomO] at hy
              rw [List.getElem?_append] at hy
              split at hy
              · obtain ⟨v, hv, hr⟩ := hcs k y hy
                exact ⟨v, hv, hr.mono hext⟩
              · rename_i hk
                rw [List.getElem?_replicate] at hy
                split at hy
                · rename_i hk2
                  obtain rfl := Option.some.inj hy
                  have hka : k < arr.size := by omega
                  rw [q1, Nat.zero_add]
                  rcases hzv with rfl | ⟨kd, n, hz1, rfl⟩
                  · exact ⟨arr[k], Array.getElem?_eq_getElem hka, s1 k _ (Array.getElem?_eq_getElem hka)⟩
                  · rcases hzz with hzz | hzz
                    · cases hzz
                    · obtain ⟨i', z', j1, j2, j3⟩ := s2 (by rw [hver, hzz]) hsz k (by omega) hka
                      rw [hel, hi] at j1
                      obtain rfl := Option.some.inj j1
                      rw [hz] at j2
                      obtain rfl := Option.some.inj j2
                      exact ⟨.int kd n, by rw [j3]; exact hz1, rfl⟩
                · cases hy
            · rw [hb] at hb1
              cases hb1
              refine ⟨s1, fun _ _ k hk1 hk2 => ?_⟩
              simp only [roomO, List.length_append, List.length_replicate] at hk1
              omega
          · rw [hobj j e'] at hx
            obtain ⟨k1, ⟨arr', e1, fr1, hb1, hcs1, hown1⟩, k3, k4⟩ := hs.live j x hx
            exact ⟨k1, ⟨arr', e1, fr1, hb1, fun k y hy => by obtain ⟨v, hv, hr⟩ := hcs1 k y hy; exact ⟨v, hv, hr.mono hext⟩, hown1⟩, k3, k4⟩
        · have key : ∀ k ok, (μ.set id (roomO o (ι id).cap z)).obj k = some ok → ∃ ok0, μ.obj k = some ok0 ∧ (ok.own = true → ok0.own = true) := by
            intro k ok hk
            by_cases e' : k = id
            · subst e'; exact ⟨o, ho, fun _ => hown⟩
            · rw [hobj k e'] at hk; exact ⟨ok, hk, fun x => x⟩
          obtain ⟨oa0, ha0, hwa0⟩ := key a oa ha
          obtain ⟨ob0, hb0, _⟩ := key b ob hb'
          exact hs.sep a b oa0 ob0 ha0 hb0 (hwa0 hwa) hab
      obtain ⟨m, o', hd, hoth, hoid, p1, p2, p3, p4⟩ := hall (ι id).cap hlen hcl (by unfold maxLen at q5; omega)
      have hvs' := hvs.imp fun _ _ hr => AVR.mono hext hr
      refine ((hD _ _ _ _ hd).2 ι w vs hs' hvs').mono fun en w' hp => ?_
      obtain ⟨ι', v, rfl, ht, hdead, hv⟩ := hp
      have hnid : (μ.set id (newVer o [])).obj id = some (newVer o []) := by simp [AMem.set]
      have hnobj : ∀ j, j ≠ id → (μ.set id (newVer o [])).obj j = μ.obj j := fun j hj => by simp [AMem.set, hj]
      have hx2 : Ext ι' m ι' (μ.set id (newVer o [])) := by
        intro j x hx
        by_cases e' : j = id
        · subst e'; rw [hoid] at hx; obtain rfl := Option.some.inj hx
          exact ⟨_, hnid, by simp [newVer]; omega, fun h => by simp [newVer] at h; omega⟩
        · exact ⟨x, by rw [hnobj j e', ← hoth j e']; exact hx, Nat.le_refl _, fun _ => ⟨rfl, rfl⟩⟩
      have back : ∀ j x, (μ.set id (newVer o [])).obj j = some x → ∃ y, m.obj j = some y ∧ (x.own = true → y.own = true) := by
        intro j x hx
        by_cases e' : j = id
        · subst e'; exact ⟨o', hoid, fun _ => p1⟩
        · rw [hnobj j e', ← hoth j e'] at hx; exact ⟨x, hx, fun h => h⟩
      refine ⟨ι', v, rfl, ⟨⟨fun j x hx => ?_, fun a b oa ob ha hb' hwa hab => ?_⟩, ?_, Nat.le_refl _, ht.os, ht.tape, ht.output, ht.size, fun b hbl hb' => ?_, fun j x hx hw => ?_⟩, fun j hj hno => ?_, hv.mono hx2⟩
      · by_cases e' : j = id
        · subst e'
          rw [hnid] at hx
          obtain rfl := Option.some.inj hx
          obtain ⟨k1, ⟨arr', e1, fr1, hb1, hcs1, hown1⟩, k3, k4⟩ := ht.sim.live j o' hoid
          obtain ⟨r1, r2, r3, r4, r5⟩ := hown1 p1
          refine ⟨g1, ⟨arr', e1, fr1, hb1, fun k y hy => by simp [newVer] at hy, fun _ => ⟨r1, r2, by rw [r3, p3]; exact hel.symm, by rw [r4, p2]; simp [newVer, hsz], r5⟩⟩, fun c hc => (by simp [newVer] at hc), fun _ arr2 e2 fr2 hb2 => ?_⟩
          rw [hb1] at hb2
          cases hb2
          exact ⟨(k4 p1 _ _ _ hb1).1, fun h0 => by simp [newVer] at h0⟩
        · have hxm : m.obj j = some x := by rw [hoth j e', ← hnobj j e']; exact hx
          obtain ⟨k1, ⟨arr', e1, fr1, hb1, hcs1, hown1⟩, k3, k4⟩ := ht.sim.live j x hxm
          refine ⟨?_, ⟨arr', e1, fr1, hb1, fun k y hy => by obtain ⟨v, hv, hr⟩ := hcs1 k y hy; exact ⟨v, hv, hr.mono hx2⟩, hown1⟩, k3, k4⟩
          rw [hnobj j e'] at hx
          exact (hs.live j x hx).1
      · obtain ⟨oa0, ha0, hwa0⟩ := back a oa ha
        obtain ⟨ob0, hb0, _⟩ := back b ob hb'
        exact ht.sim.sep a b oa0 ob0 ha0 hb0 (hwa0 hwa) hab
      · intro j x hx
        by_cases e' : j = id
        · subst e'; rw [ho] at hx; obtain rfl := Option.some.inj hx
          exact ⟨_, hnid, by simp [newVer], fun h => by simp [newVer] at h⟩
        · obtain ⟨y, hy, hl, he⟩ := ht.ext j x (by rw [hobj j e']; exact hx)
          exact ⟨y, by rw [hnobj j e', ← hoth j e']; exact hy, hl, he⟩
      · refine ht.block b hbl fun j x hx hw => ?_
        by_cases e' : j = id
        · subst e'; exact hb' j o ho hown
        · rw [hobj j e'] at hx; exact hb' j x hx hw
      · obtain ⟨y, hy, hyw⟩ := back j x hx
        rcases ht.own j y hy (hyw hw) with ⟨o1, ho1, hw1, he1⟩ | h
        · left
          by_cases e' : j = id
          · subst e'; exact ⟨o, ho, hown, he1⟩
          · rw [hobj j e'] at ho1; exact ⟨o1, ho1, hw1, he1⟩
        · exact .inr h
      · have : j ≠ id := fun e' => by rw [e', ho] at hno; cases hno
        rw [hnobj j this]; exact hno
  · cases h
def roomB (P : Program) (e : TypeId) (z : SV) : Bool := match P.info? e with
  | some i => match i.zero with
    | some zv => match z, (zv.cells[0]? : Option Value) with
      | .undef, _ => true
      | .int k n, some (.int k' n') => decide (k' = k) && decide (n' = n)
      | _, _ => false
    | none => false
  | none => false
theorem Sound.roomOf {f : FuncId} {e : TypeId} {z : SV} {D : FunA} (hD : Sound P f D) (hfn : ∃ fn, P.funcs[f]? = some fn ∧ (fn.name == "runtime.NumGoroutine") = false ∧ fn.body.isNone = false) (h : roomB P e z = true) : Sound P f (roomF e z D) := by
  unfold roomB at h
  split at h
  · rename_i i hi
    split at h
    · rename_i zv hz
      split at h
      · exact hD.room hfn hi hz (.inl rfl)
      · rename_i k n k' n' hc
        rw [Bool.and_eq_true] at h
        obtain rfl := of_decide_eq_true h.1
        obtain rfl := of_decide_eq_true h.2
        exact hD.room hfn hi hz (.inr ⟨_, _, hc, rfl⟩)
      · cases h
    · cases h
  · cases h
end
end Go.Proofs.Ytchapaejdgnihaa.E
