/- The abstract machine is sound, part 4: loads, new objects, stores, append, copy, cap. -/
import Derived.Test.YtchapaejdgnihaaE3
import Derived.Laws.BitsLemmas
namespace Go.Proofs.Ytchapaejdgnihaa.E
open Go
set_option linter.unusedVariables false
set_option linter.unusedSimpArgs false

section
variable {R : Type} {ι : Nat → Loc} {μ : AMem} {P : Program} {w : World}

theorem i64_in' (n : Int) (h : -9223372036854775808 ≤ n ∧ n ≤ 9223372036854775807) : IntKind.i64.wrap n = n := by rw [IntKind.wrap_i64]; omega
theorem add_none (b o n : Nat) : (⟨b, o, none⟩ : Addr).add n = ⟨b, o + n, none⟩ := by unfold Addr.add; split <;> simp_all
theorem loadN_rel (h : Sim P ι μ w) {id ver : Nat} : ∀ {n off : Nat} {l : List SV}, μ.loadN id ver off n = some l →
    ∃ cs : List Value, cs.length = n ∧ All2 (SVR ι μ) l cs ∧ ∀ j v, cs[j]? = some v → w.cell? ⟨(ι id).b, (ι id).o + off + j, none⟩ = some v
  | 0, off, l, hl => by obtain rfl := Option.some.inj hl; exact ⟨[], rfl, All2.nil _, fun j v hj => by simp at hj⟩
  | n + 1, off, l, hl => by
    simp only [AMem.loadN] at hl
    obtain ⟨x, hx, hl⟩ := Option.bind_eq_some_iff.mp hl
    obtain ⟨r, hr, rfl⟩ := Option.map_eq_some_iff.mp hl
    obtain ⟨o, v, ho, hv, hc, hrel⟩ := h.cell hx
    obtain ⟨cs, hlen, hall, hcs⟩ := loadN_rel h hr
    refine ⟨v :: cs, by simp [hlen], All2.cons hrel hall, fun j u hj => ?_⟩
    cases j with
    | zero => simp at hj; subst hj; simpa using hc
    | succ j =>
      have := hcs j u (by simpa using hj)
      rw [← this]
      congr 2
      omega
theorem cell_ver {id ver off : Nat} {x : SV} (h : μ.cell id ver off = some x) : ∃ o, μ.obj id = some o ∧ o.ver = ver := by
  unfold AMem.cell at h
  obtain ⟨o, ho, hc⟩ := Option.bind_eq_some_iff.mp h
  split at hc
  · exact ⟨o, ho, by assumption⟩
  · cases hc
theorem ptr_here {id ver off : Nat} {v : Value} {o : AObj} (h : PtrR ι μ id ver off v) (ho : μ.obj id = some o) (hv : o.ver = ver) : v = .pointer (some ⟨(ι id).b, (ι id).o + off, none⟩) := by
  obtain ⟨o', ho', _, a, rfl, he⟩ := h
  rw [ho] at ho'
  obtain rfl := Option.some.inj ho'
  rw [he hv]
theorem loadN_ver {id ver off n : Nat} {l : List SV} (h : μ.loadN id ver off (n + 1) = some l) : ∃ o, μ.obj id = some o ∧ o.ver = ver := by
  simp only [AMem.loadN] at h
  obtain ⟨x, hx, _⟩ := Option.bind_eq_some_iff.mp h
  exact cell_ver hx
theorem loadK_tells (hs : Sim P ι μ w) {t : TypeId} {x : AV} {K : AV → Option R} {r : R} (h : loadK P t μ x K = some r) {a : Value} (ha : AVR ι μ x a) :
    ∃ y v, K y = some r ∧ AVR ι μ y v ∧ (Instr.loadAt t a).run P w = .ok v w := by
  unfold loadK at h
  split at h
  · rename_i n hg hn
    unfold loadsAt at h
    split at h
    · rename_i id ver off
      obtain ⟨l, hl, h1⟩ := Option.bind_eq_some_iff.mp h
      obtain ⟨cs, hlen, hall, hcs⟩ := loadN_rel hs hl
      cases n with
      | zero =>
        obtain rfl := List.eq_nil_of_length_eq_zero hlen
        obtain ⟨o, ho, hv, ad, rfl, he⟩ := ha
        exact ⟨_, .agg #[], h1, ⟨#[], rfl, hall⟩, by simp [Instr.loadAt, Instr.sureAddr, loadVar, run_agg hg, run_siz hn, loadCells, loadCellsFrom]⟩
      | succ n =>
        obtain ⟨o, ho, hv⟩ := loadN_ver hl
        obtain rfl := ptr_here ha ho hv
        refine ⟨_, .agg cs.toArray, h1, ⟨cs.toArray, rfl, hall⟩, ?_⟩
        have hlc := run_loadCells_list (P := P) w ⟨(ι id).b, (ι id).o + off, none⟩ cs (fun j v hj => by rw [add_none]; exact hcs j v hj)
        rw [hlen] at hlc
        simp [Instr.loadAt, Instr.sureAddr, loadVar, run_agg hg, run_siz hn, hlc]
    · cases h
  · rename_i n hg hn
    unfold loadAt at h
    split at h
    · rename_i id ver off
      obtain ⟨y, hy, h1⟩ := Option.bind_eq_some_iff.mp h
      obtain ⟨o, v, ho, hv, hc, hrel⟩ := hs.cell hy
      obtain rfl := ptr_here ha ho hv
      exact ⟨_, v, h1, hrel, by simp [Instr.loadAt, Instr.sureAddr, loadVar, run_agg hg, hc]⟩
    · cases h
  · cases h

theorem new_ptr (nid : Nat) (ob : AObj) (hv : ob.ver = 0) (b cap : Nat) : PtrR (fun j => if j = nid then ⟨b, 0, cap⟩ else ι j) (μ.set nid ob) nid 0 0 (.pointer (some ⟨b, 0, none⟩)) :=
  ⟨ob, by simp [AMem.set], by omega, _, rfl, fun _ => by simp⟩
theorem new_slice (nid : Nat) (ob : AObj) (hv : ob.ver = 0) (b cap len : Nat) (h : len ≤ cap) : SliceR (fun j => if j = nid then ⟨b, 0, cap⟩ else ι j) (μ.set nid ob) nid 0 0 len (.slice (some ⟨b, 0, none⟩) len cap) :=
  ⟨ob, by simp [AMem.set], by omega, _, _, rfl, h, fun _ => ⟨fun _ => by simp, .inl (by simp)⟩⟩
theorem zerosA_length (z : List SV) : ∀ n, (zerosA z n).length = n * z.length
  | 0 => by simp [zerosA]
  | n + 1 => by simp [zerosA, zerosA_length z n, Nat.add_mul]; omega
theorem zerosA_get (z : List SV) (hz : 0 < z.length) : ∀ n j, j < n * z.length → (zerosA z n)[j]? = z[j % z.length]?
  | 0, j, h => by simp at h
  | n + 1, j, h => by
    simp only [zerosA]
    by_cases h1 : j < z.length
    · rw [List.getElem?_append_left h1, Nat.mod_eq_of_lt h1]
    · rw [List.getElem?_append_right (by omega), zerosA_get z hz n (j - z.length) (by rw [Nat.add_mul] at h; omega)]
      congr 1
      rw [Nat.mod_eq_sub_mod (by omega : z.length ≤ j)]
theorem zeros_rel {z : List SV} {zs : Array Value} (h : All2 (SVR ι μ) z zs.toList) (hz : 0 < z.length) (n : Nat) :
    All2 (SVR ι μ) (zerosA z n) ((Array.range (n * z.length)).map (zs[· % zs.size]!)).toList := by
  have hs : zs.size = z.length := by rw [← Array.length_toList]; exact h.1
  refine ⟨by simp [zerosA_length], fun j x hj => ?_⟩
  have hlt : j < n * z.length := by rw [← zerosA_length]; exact (List.getElem?_eq_some_iff.mp hj).1
  rw [zerosA_get z hz n j hlt] at hj
  obtain ⟨u, hu, hr⟩ := h.2 _ x hj
  rw [Array.getElem?_toList] at hu
  refine ⟨u, ?_, hr⟩
  simp only [Array.toList_map, Array.toList_range, List.getElem?_map, List.getElem?_range hlt, Option.map_some]
  rw [hs]
  rw [getElem!_def, hu]
theorem zeroCells_rel {z : List SV} {zs : Array Value} (h : All2 (SVR ι μ) z zs.toList) (hz : 0 < z.length) (n : Nat) :
    All2 (SVR ι μ) (zerosA z n) (Builtin.zeroCells zs n).toList := by
  have hs : zs.size = z.length := by rw [← Array.length_toList]; exact h.1
  have := zeros_rel h hz n
  unfold Builtin.zeroCells
  rw [hs]
  rw [hs] at this
  exact this
theorem allocK_tells (hs : Sim P ι μ w) {nid : Nat} (hn : nid < μ.next) (hf : μ.obj nid = none) {ev : Operand → AV} {ρ : Operand → Value} {o : Oper} {K : AObj → AV → Option R} {r : R}
    (h : allocK P ev nid o.op K = some r) (hr : ∀ x, AVR ι μ (ev x) (ρ x)) :
    ∃ ob y v ι' w', K ob y = some r ∧ (execOp ρ o).run P w = .ok (.value v) w' ∧ Tr P ι μ w ι' (μ.set nid ob) w' ∧ AVR ι' (μ.set nid ob) y v := by
  unfold allocK at h
  split at h <;> rename_i hop
  · rename_i t x
    unfold boxV at h
    split at h
    · rename_i l hl
      have hc := cells_rel hl (hr x)
      have hsz : (ρ x).cells.size = l.length := by rw [← Array.length_toList]; exact hc.1
      refine ⟨_, _, .pointer (some ⟨w.heap.size, 0, none⟩), _, w.alloc (.cells (ρ x).cells t), h, ?_,
        Tr.alloc hs hn hf (rowObj l l.length t (some 1)) rfl (ρ x).cells 1 (by simp [rowObj, hsz]) (by unfold maxLen; omega) ?_ (fun c hc => by simpa [rowObj] using hc) (Sp.full hc) rfl rfl rfl rfl, new_ptr nid _ rfl _ _⟩
      · unfold execOp; rw [hop]
        simp [Instr.box, newVar, newRow]
      · intro j y hy
        obtain ⟨v, hv, hvr⟩ := hc.2 j y hy
        exact ⟨v, by rwa [Array.getElem?_toList] at hv, hvr⟩
    · cases h
  · rename_i t
    obtain ⟨l, hl, h1⟩ := Option.bind_eq_some_iff.mp h
    obtain ⟨z, hz, hc, _⟩ := zeroA_rel (ι := ι) (μ := μ) hl
    have hsz : z.cells.size = l.length := by rw [← Array.length_toList]; exact hc.1
    refine ⟨_, _, .pointer (some ⟨w.heap.size, 0, none⟩), _, w.alloc (.cells z.cells t), h1, ?_,
      Tr.alloc hs hn hf (rowObj l l.length t (some 1)) rfl z.cells 1 (by simp [rowObj, hsz]) (by unfold maxLen; omega) ?_ (fun c hc => by simpa [rowObj] using hc) (Sp.full hc) rfl rfl rfl rfl, new_ptr nid _ rfl _ _⟩
    · unfold execOp; rw [hop]
      simp [Instr.alloc, newVar, newRow, hz]
    · intro j y hy
      obtain ⟨v, hv, hvr⟩ := hc.2 j y hy
      exact ⟨v, by rwa [Array.getElem?_toList] at hv, hvr⟩
  · rename_i t len ps
    split at h
    · rename_i e hu
      obtain ⟨n, hn1, h1⟩ := Option.bind_eq_some_iff.mp h
      obtain ⟨z, hz1, h2⟩ := Option.bind_eq_some_iff.mp h1
      split at h2
      · rename_i hb
        obtain ⟨cs, hcs, h3⟩ := Option.bind_eq_some_iff.mp h2
        obtain ⟨zv, hzv, hzr, _⟩ := zeroA_rel (ι := ι) (μ := μ) hz1
        have hz0 : 0 < z.length := by omega
        obtain ⟨arr, harr, hrel⟩ := fillA_rel hcs (zeros_rel hzr hz0 len) (parts_rel hr ps.toList)
        have hlen : cs.length = len * n := by
          have : ∀ {place : Nat → Option (Nat × Nat)} {parts : List (Nat × AV)} {a b : List SV}, fillA place a parts = some b → b.length = a.length := by
            intro place parts
            induction parts with
            | nil => intro a b h; obtain rfl := Option.some.inj h; rfl
            | cons p r ih =>
              intro a b h
              obtain ⟨i, v⟩ := p
              simp only [fillA] at h
              obtain ⟨⟨off, n⟩, _, h⟩ := Option.bind_eq_some_iff.mp h
              obtain ⟨l, _, h⟩ := Option.bind_eq_some_iff.mp h
              split at h
              · rw [ih h, overA_length _ _ _ (by omega)]
              · cases h
          rw [this hcs, zerosA_length, hb.1]
        have hsz : arr.size = len * n := by rw [← Array.length_toList, hrel.1, hlen]
        refine ⟨_, _, .slice (some ⟨w.heap.size, 0, none⟩) len len, _, w.alloc (.cells arr e), h3, ?_,
          Tr.alloc hs hn hf (rowObj cs n e (some len)) rfl arr len (by simp [rowObj, hsz]) ?_ ?_ (fun c hc => by simpa [rowObj] using hc) (Sp.full hrel) rfl rfl rfl rfl, new_slice nid _ rfl _ _ _ (Nat.le_refl _)⟩
        · have hne : ¬ (16777216 < len * n) := by omega
          have hzsz : zv.cells.size = z.length := by rw [← Array.length_toList]; exact hzr.1
          unfold execOp; rw [hop]
          have hfill : Instr.fill (fun i => some (i * n, n)) (Array.map (fun x => zv.cells[x % zv.cells.size]!) (Array.range (len * n))) (List.map (fun p => (p.fst, ρ p.snd)) ps.toList) = some arr := by
            rw [hb.1] at harr; exact harr
          simp only [Instr.buildSlice, Sem.run_bind, run_und hu, Result.andThen_ok, run_siz hn1]
          rw [if_neg (by omega)]
          simp only [Sem.run_bind, Sem.run_pure, Result.andThen_ok]
          by_cases h0 : len * n = 0
          · simp only [h0, if_true, Sem.run_bind, Sem.run_pure, Result.andThen_ok]
            have harr0 : arr = #[] := by
              apply Array.ext'
              have := hrel.1; rw [hlen, h0] at this
              simpa using this
            rw [h0] at hfill
            have e1 : (Array.map (fun x => zv.cells[x % zv.cells.size]!) (Array.range 0)) = #[] := by apply Array.ext'; simp
            have e2 : (Array.map (fun x => (#[] : Array Value)[x % (#[] : Array Value).size]!) (Array.range 0)) = #[] := by apply Array.ext'; simp
            rw [e1] at hfill
            simp only [Array.toList_map]
            rw [e2, hfill]
            simp [newRow]
          · rw [if_neg h0]
            simp only [Sem.run_bind, hzv, Result.andThen_ok, Sem.run_pure, Array.toList_map]
            rw [hfill]
            simp [newRow]
        · have : len * 1 ≤ len * n := Nat.mul_le_mul_left _ hb.2.1
          unfold maxLen; omega
        · intro j y hy
          obtain ⟨v, hv, hvr⟩ := hrel.2 j y hy
          exact ⟨v, by rwa [Array.getElem?_toList] at hv, hvr⟩
      · cases h2
    · cases h
  · rename_i t lo co
    split at h
    · rename_i e hu
      obtain ⟨i, hi, h1⟩ := Option.bind_eq_some_iff.mp h
      obtain ⟨z, hz1, h2⟩ := Option.bind_eq_some_iff.mp h1
      split at h2
      · rename_i hb
        obtain ⟨k, l, hl, h3⟩ := asN_some h2
        obtain ⟨k', c, hc, h4⟩ := asN_some h3
        have hlv : ρ lo = .int k l := by have := hr lo; rw [hl] at this; exact this
        have hcv : ρ co = .int k' c := by have := hr co; rw [hc] at this; exact this
        unfold makeV at h4
        split at h4
        · rename_i hh
          obtain ⟨h0, hlc, hc63, hbytes⟩ := hh
          obtain ⟨zv, hzv, hzr, _⟩ := zeroA_rel (ι := ι) (μ := μ) hz1
          have hz0 : 0 < z.length := by omega
          have hsize : sizeA P e = some i.size := by simp [sizeA, hi]
          have hw : ∀ n : Int, 0 ≤ n → n ≤ 9223372036854775807 → IntKind.i64.wrap n = n := by
            intro n a b
            exact i64_in' n ⟨by omega, b⟩
          refine ⟨_, _, .slice (some ⟨w.heap.size, 0, none⟩) l.toNat c.toNat, _, w.alloc (.cells ((Array.range (c.toNat * i.size)).map (zv.cells[· % zv.cells.size]!)) e), h4, ?_,
            Tr.alloc hs hn hf (rowObj (zerosA z c.toNat) i.size e (some c.toNat)) rfl _ c.toNat (by simp [rowObj]) (by unfold maxLen; omega) ?_ (fun c hc => by simpa [rowObj] using hc) (Sp.full (by have := zeros_rel hzr hz0 c.toNat; rw [hb.1] at this; exact this)) rfl rfl rfl rfl, new_slice nid _ rfl _ _ _ (by omega)⟩
          · unfold execOp; rw [hop]
            simp only [Instr.makeSlice, Sem.run_bind, run_und hu, Result.andThen_ok, hlv, hcv, asInt, asIntOf, Sem.run_pure, run_inf hi, hw l h0 (by omega), hw c (by omega) hc63]
            have hbn : ¬ (281474976710656 < (i.bytes : Int) * c) := by omega
            rw [if_neg (by simp; omega)]
            simp only [Sem.run_bind, run_askRoom, Result.andThen_ok, run_siz hsize, Sem.run_pure]
            by_cases hz : c.toNat * i.size = 0
            · simp only [hz, if_true, Sem.run_bind, Sem.run_pure, Result.andThen_ok]
              have e1 : (Array.map (fun x => zv.cells[x % zv.cells.size]!) (Array.range 0)) = #[] := by apply Array.ext'; simp
              have e2 : (Array.map (fun x => (#[] : Array Value)[x % (#[] : Array Value).size]!) (Array.range 0)) = #[] := by apply Array.ext'; simp
              rw [e1, e2]
              simp [newRow]
            · rw [if_neg hz]
              simp only [Sem.run_bind, hzv, Result.andThen_ok, Sem.run_pure]
              simp [newRow]
          · have := zeros_rel hzr hz0 c.toNat
            rw [hb.1] at this
            intro j y hy
            obtain ⟨v, hv, hvr⟩ := this.2 j y hy
            exact ⟨v, by rwa [Array.getElem?_toList] at hv, hvr⟩
        · cases h4
      · cases h2
    · cases h
  · cases h

theorem store_rel (hs : Sim P ι μ w) {id ver off : Nat} {l : List SV} {μ' : AMem} (h : μ.store id ver off l = some μ') {vs : List Value} (hv : All2 (SVR ι μ) l vs) (h1 : ∀ v ∈ vs, v.oneCell' = true) :
    ∃ o arr, μ.obj id = some o ∧ o.ver = ver ∧ (storeCells ⟨(ι id).b, (ι id).o + off, none⟩ vs).run P w = .ok () (w.setRow (ι id).b arr) ∧ Tr P ι μ w ι μ' (w.setRow (ι id).b arr) := by
  unfold AMem.store at h
  obtain ⟨o, ho, h⟩ := Option.bind_eq_some_iff.mp h
  split at h
  · rename_i hh
    obtain ⟨hown, hver, hlen⟩ := hh
    obtain rfl := Option.some.inj h
    obtain ⟨g1, ⟨arr0, e0, fr0, hb, hcs, hown0⟩, g3, g4⟩ := hs.live id o ho
    obtain ⟨q1, q2, q3, q4, q5⟩ := hown0 hown
    obtain ⟨s1, s2⟩ := g4 hown _ _ _ hb
    subst q2 q3
    have hfit : off + l.length ≤ arr0.size := by
      by_cases hc0 : o.cells.length = 0
      · rcases Nat.eq_zero_or_pos (off + l.length) with h0 | h0 <;> omega
      · obtain ⟨v, hv1, _⟩ := hcs (o.cells.length - 1) _ (List.getElem?_eq_getElem (by omega))
        rw [q1, Nat.zero_add] at hv1
        have := (Array.getElem?_eq_some_iff.mp hv1).1
        omega
    have hl : vs.length = l.length := hv.1
    have hst := run_storeCells_at P (ι id).b off o.elem vs 0 arr0 w hb (by omega) h1
    rw [Nat.add_zero] at hst
    refine ⟨o, _, ho, hver, by rw [q1, Nat.zero_add]; exact hst, ?_⟩
    refine Tr.change hs ho hown (o' := { o with cells := overA o.cells off l }) hown rfl rfl (Nat.le_refl _) (.inl rfl) (arr0.toList.take off ++ vs ++ arr0.toList.drop (off + vs.length)).toArray (by simp; omega) ?_ ⟨fun j v hj => ?_, fun h0 h1 j hj hj2 => ?_⟩
    rotate_left
    · rw [List.getElem?_toArray, over_get _ _ _ (by simp; omega)] at hj
      split at hj
      · exact h1 v (List.mem_of_getElem? hj)
      · rw [Array.getElem?_toList] at hj; exact s1 j v hj
    · simp only [overA_length _ _ _ hlen] at hj
      simp only [List.size_toArray, List.length_append, List.length_take, List.length_drop, Array.length_toList] at hj2
      obtain ⟨i, z, z1, z2, z3⟩ := s2 h0 h1 j hj (by omega)
      refine ⟨i, z, z1, z2, ?_⟩
      rw [List.getElem?_toArray, over_get _ _ _ (by simp; omega), if_neg (by omega), Array.getElem?_toList]
      exact z3
    intro j x hj
    simp only at hj
    rw [overA_get _ _ _ hlen] at hj
    rw [List.getElem?_toArray, over_get _ _ _ (by simp; omega), hl]
    split at hj
    · rename_i hr
      rw [if_pos hr]
      exact hv.2 _ x hj
    · rename_i hr
      rw [if_neg hr]
      obtain ⟨v, hv1, hv2⟩ := hcs j x hj
      rw [q1, Nat.zero_add] at hv1
      exact ⟨v, by rw [Array.getElem?_toList]; exact hv1, hv2⟩
  · cases h
theorem storeK_tells (hs : Sim P ι μ w) {t : TypeId} {p x : AV} {K : AMem → Option R} {r : R} (h : storeK P t μ p x K = some r) {a b : Value} (ha : AVR ι μ p a) (hb : AVR ι μ x b) :
    ∃ μ' w', K μ' = some r ∧ (Instr.storeAt t a b).run P w = .ok () w' ∧ Tr P ι μ w ι μ' w' := by
  unfold storeK at h
  split at h
  · rename_i n hn
    unfold storeAt at h
    split at h
    · rename_i id ver off
      split at h
      · rename_i l hl
        split at h
        · rename_i hlen
          obtain ⟨μ', hm, h1⟩ := Option.bind_eq_some_iff.mp h
          obtain ⟨o, arr, ho, hv, hst, htr⟩ := store_rel (P := P) hs hm (cells_rel hl hb) (cells_one hl hb)
          obtain rfl := ptr_here ha ho hv
          have hsz : b.cells.size = n := by rw [← Array.length_toList, (cells_rel hl hb).1, hlen]
          exact ⟨μ', _, h1, by simp [Instr.storeAt, Instr.sureAddr, storeVar, run_siz hn, hsz, hst], htr⟩
        · cases h
      · cases h
    · cases h
  · cases h
/-- The cells of a slice, in the world. -/
theorem row_rel (hs : Sim P ι μ w) {size n : Nat} {y : AV} {l : List SV} (h : μ.row size n y = some l) {b : Value} (hb : AVR ι μ y b) :
    (b = .slice none 0 0 ∧ l = []) ∨ ∃ a len c cs, b = .slice (some a) len c ∧ n ≤ len ∧ cs.length = n * size ∧ l.length = n * size ∧ All2 (SVR ι μ) l cs ∧ (∀ u ∈ cs, u.oneCell' = true) ∧ (∀ j u, cs[j]? = some u → w.cell? (a.add j) = some u) := by
  unfold AMem.row at h
  split at h
  · rename_i id ver off len
    obtain ⟨o, ho, h⟩ := Option.bind_eq_some_iff.mp h
    split at h
    · rename_i hh
      obtain ⟨hver, hnl, hlen⟩ := hh
      obtain rfl := Option.some.inj h
      obtain ⟨o', ho', hv, ad, c, rfl, hlc, he⟩ := hb
      rw [ho] at ho'
      obtain rfl := Option.some.inj ho'
      obtain ⟨_, hadr⟩ := he hver
      obtain ⟨g1, ⟨arr0, e0, fr0, hbk, hcs, hown0⟩, g3, _⟩ := hs.live id o ho
      right
      have hget : ∀ j, j < n * size → ∃ x v, o.cells[off + j]? = some x ∧ arr0[(ι id).o + (off + j)]? = some v ∧ SVR ι μ x v := by
        intro j hj
        obtain ⟨v, hv1, hv2⟩ := hcs (off + j) _ (List.getElem?_eq_getElem (by omega))
        exact ⟨_, v, List.getElem?_eq_getElem (by omega), hv1, hv2⟩
      refine ⟨ad, len, c, (List.range (n * size)).map fun j => arr0.getD ((ι id).o + (off + j)) undef, rfl, hnl, by simp, by simp; omega, ⟨by simp; omega, ?_⟩, ?_, ?_⟩
      · intro j x hj
        rw [List.getElem?_take] at hj
        split at hj
        · rename_i hjl
          rw [List.getElem?_drop] at hj
          obtain ⟨x', v, hx', hv1, hv2⟩ := hget j hjl
          rw [hj] at hx'
          obtain rfl := Option.some.inj hx'
          refine ⟨v, ?_, hv2⟩
          rw [List.getElem?_map, List.getElem?_range hjl]
          simp [Array.getD_eq_getD_getElem?, hv1]
        · cases hj
      · intro u hu
        obtain ⟨j, hj, rfl⟩ := List.mem_map.mp hu
        obtain ⟨x', v, hx', hv1, hv2⟩ := hget j (by simpa using hj)
        simp only [Array.getD_eq_getD_getElem?, hv1, Option.getD_some]
        exact hv2.one
      · intro j u hj
        by_cases hjl : j < n * size
        · rw [List.getElem?_map, List.getElem?_range hjl] at hj
          obtain ⟨x', v, hx', hv1, hv2⟩ := hget j hjl
          simp only [Option.map_some, Array.getD_eq_getD_getElem?, hv1, Option.getD_some, Option.some.injEq] at hj
          subst hj
          rcases hadr with hadr | hadr
          · rw [hadr, add_none]
            simp only [World.cell?, hbk]
            rw [Nat.add_assoc, hv1]
            rfl
          · have : n = 0 := by omega
            subst this; simp at hjl
        · rw [List.getElem?_eq_none (by simp; omega)] at hj; cases hj
    · cases h
  · obtain rfl := Option.some.inj h
    left
    exact ⟨hb, rfl⟩
  · cases h

theorem zero_len {e : TypeId} {i : TypeInfo} {z : List SV} (hi : P.info? e = some i) (hz : zeroA P e = some z) (hl : z.length = i.size) : ∃ zv, i.zero = some zv ∧ zv.cells.size = i.size := by
  obtain ⟨zv, _, hr, hzi⟩ := zeroA_rel (ι := fun _ => ⟨0, 0, 0⟩) (μ := ⟨0, fun _ => none⟩) hz
  exact ⟨zv, hzi i hi, by rw [← Array.length_toList, hr.1, hl]⟩
theorem lenS_nat {y : AV} {m : Nat} (h : lenS y = some m) {b : Value} (hb : AVR ι μ y b) : (b = .slice none 0 0 ∧ m = 0) ∨ ∃ a c, b = .slice (some a) m c := by
  unfold lenS at h
  split at h
  · obtain rfl := Option.some.inj h
    obtain ⟨o, _, _, a, c, rfl, _⟩ := hb
    exact .inr ⟨a, c, rfl⟩
  · obtain rfl := Option.some.inj h
    exact .inl ⟨hb, rfl⟩
  · cases h
theorem newCap_zero (w : World) (need old : Nat) (e : TypeId) (z : Array Value) (n : Nat) : (Builtin.zeroCells z n).size = n * z.size := by simp [Builtin.zeroCells]
theorem zero_all {e : TypeId} {i : TypeInfo} {z : List SV} {zv : Value} (hz : zeroA P e = some z) (hi : P.info? e = some i) (hzv : i.zero = some zv) : All2 (SVR ι μ) z zv.cells.toList := by
  obtain ⟨zv', _, hr, hzi⟩ := zeroA_rel (ι := ι) (μ := μ) hz
  have := hzi i hi
  rw [hzv] at this
  obtain rfl := Option.some.inj this
  exact hr
theorem all_one {l : List SV} {m : List Value} (h : All2 (SVR ι μ) l m) : ∀ u ∈ m, u.oneCell' = true := by
  intro u hu
  obtain ⟨i, hi⟩ := List.mem_iff_getElem?.mp hu
  have hlt : i < l.length := by rw [← h.1]; exact (List.getElem?_eq_some_iff.mp hi).1
  obtain ⟨u', hu', hr⟩ := h.2 i l[i] (List.getElem?_eq_getElem hlt)
  rw [hi] at hu'
  obtain rfl := Option.some.inj hu'
  exact hr.one
/-- What append leaves, the source's cells known. -/
theorem appendS_tells (hs : Sim P ι μ w) {nid : Nat} (hn : nid < μ.next) (hf : μ.obj nid = none) {t e ty : TypeId} {i : TypeInfo} {z : List SV} (hu : P.underlying t = some (.slice e)) (hi : P.info? e = some i)
    (hz : zeroA P e = some z) (hzl : z.length = i.size) (hsz : 0 < i.size) {x : AV} {m : Nat} {new : List SV} {K : AV → AMem → Option R} {r : R} (h : appendS e i.size i.bytes nid μ x m new K = some r)
    {a : Value} (ha : AVR ι μ x a) {ad : Addr} {c : Nat} {news : List Value} (hnl : news.length = m * i.size) (hrel : All2 (SVR ι μ) new news) (h1 : ∀ u ∈ news, u.oneCell' = true) (hc : ∀ j u, news[j]? = some u → w.cell? (ad.add j) = some u) :
    ∃ y μ' v ι' w', K y μ' = some r ∧ (Builtin.append_ #[t, t] ty #[a, .slice (some ad) m c]).run P w = .ok v w' ∧ Tr P ι μ w ι' μ' w' ∧ AVR ι' μ' y v := by
  obtain ⟨zv, hzv, hzvs⟩ := zero_len hi hz hzl
  unfold appendS at h
  split at h
  · have ha' : a = .slice none 0 0 := ha
    subst ha'
    split at h
    · rename_i hb
      split at h
      · rename_i hm0
        subst hm0
        refine ⟨_, _, .slice none 0 0, ι, w, h, ?_, Tr.refl hs, rfl⟩
        have : news = [] := List.eq_nil_of_length_eq_zero (by simpa using hnl)
        subst this
        simp [Builtin.append_, run_und hu, sizeOf, typeInfo, hi, Builtin.lenOf, Builtin.firstCells, loadCells, loadCellsFrom]
      · rename_i hm0
        have hr := run_append_nil (P := P) w t ty e i zv hu hi hzv ad m c news hnl hc (by omega) (by omega) (by omega)
        have hge := grownCap_ge w m 0 e
        have hcm := grownCap_le_maxLen w m 0 e (by unfold maxLen; omega)
        refine ⟨_, _, _, _, _, h, hr, Tr.alloc hs hn hf (rowObj new i.size e none) rfl _ (grownCap w m 0 e) ?_ hcm ?_ (fun c hc => by simp [rowObj] at hc) ?_ (w0 := w.drew) rfl rfl rfl rfl, new_slice nid _ rfl _ _ _ hge⟩
        · simp only [rowObj, Array.size_append, List.size_toArray, size_zeroCells, hzvs, hnl, ← Nat.add_mul]
          congr 1; omega
        · intro j y hy
          obtain ⟨v, hv, hvr⟩ := hrel.2 j y hy
          refine ⟨v, ?_, hvr⟩
          have hlt : j < news.length := (List.getElem?_eq_some_iff.mp hv).1
          rw [Array.getElem?_append_left (by simpa using hlt)]
          simpa using hv
        · have hzs := zeroCells_rel (zero_all (ι := ι) (μ := μ) hz hi hzv) (by rw [hzl]; exact hsz) (grownCap w m 0 e - m)
          refine ⟨fun j v hj => ?_, fun _ h1' j hj hj2 => ⟨i, zv, hi, hzv, ?_⟩⟩
          · rw [Array.getElem?_append] at hj
            split at hj
            · exact h1 v (List.mem_of_getElem? (by simpa using hj))
            · rw [← Array.getElem?_toList] at hj
              exact all_one hzs v (List.mem_of_getElem? hj)
          · have hsz1 : i.size = 1 := h1'
            have hnl1 : news.length = m := by rw [hnl, hsz1, Nat.mul_one]
            have hcl : new.length = news.length := hrel.1.symm
            simp only [rowObj, hcl] at hj
            simp only [Array.size_append, List.size_toArray, size_zeroCells, hzvs, hsz1, Nat.mul_one] at hj2
            rw [Array.getElem?_append_right (by simpa using hj)]
            simp only [List.size_toArray, Builtin.zeroCells, hzvs, hsz1, Nat.mul_one]
            rw [Array.getElem?_map, Array.getElem?_range, if_pos (by omega)]
            simp only [Option.map_some, Nat.mod_one]
            rw [getElem!_pos zv.cells 0 (by omega), Array.getElem?_eq_getElem (by omega)]
    · cases h
  · rename_i id ver len
    obtain ⟨o, ho, h2⟩ := Option.bind_eq_some_iff.mp h
    split at h2
    · rename_i hb
      obtain ⟨hown, hver, hosz, hoe, hlen, hby, h63⟩ := hb
      obtain ⟨o', ho', hv', a0, cap, rfl, hlc, hh⟩ := ha
      rw [ho] at ho'
      obtain rfl := Option.some.inj ho'
      obtain ⟨hcap, hadr⟩ := hh hver
      have hcap := hcap rfl
      obtain ⟨g1, ⟨arr0, e0, fr0, hbk, hcs, hown0⟩, g3, g4⟩ := hs.live id o ho
      obtain ⟨q1, q2, q3, q4, q5⟩ := hown0 hown
      obtain ⟨s1, _⟩ := g4 hown _ _ _ hbk
      have s1' : ∀ u ∈ arr0.toList, u.oneCell' = true := fun u hu => by
        obtain ⟨j, hj⟩ := List.mem_iff_getElem?.mp hu
        exact s1 j u (by rw [← Array.getElem?_toList]; exact hj)
      subst q2 q3
      rw [hosz, ← hcap] at q4
      rw [← hcap] at q5
      split at h2
      · rename_i hm0
        subst hm0
        have : news = [] := List.eq_nil_of_length_eq_zero (by simpa using hnl)
        subst this
        refine ⟨_, _, .slice (some a0) len cap, ι, w, h2, ?_, Tr.refl hs, ⟨o, ho, hv', a0, cap, rfl, hlc, hh⟩⟩
        have hst : storeCells (a0.add (len * i.size)) [] = (pure () : Sem Unit) := rfl
        simp [Builtin.append_, run_und hu, sizeOf, typeInfo, hi, Builtin.lenOf, Builtin.firstCells, loadCells, loadCellsFrom, hlc, hst]
      · rename_i hm0
        -- what the row holds
        have hold : All2 (SVR ι μ) (o.cells.take (len * i.size)) (arr0.toList.take (len * i.size)) := by
          refine ⟨?_, ?_⟩
          · have : len * i.size ≤ cap * i.size := Nat.mul_le_mul_right _ hlc
            simp; omega
          · intro j y hy
            rw [List.getElem?_take] at hy ⊢
            split at hy
            · rename_i hj
              rw [if_pos hj]
              obtain ⟨v, hv1, hv2⟩ := hcs j y hy
              rw [q1, Nat.zero_add] at hv1
              exact ⟨v, by rw [Array.getElem?_toList]; exact hv1, hv2⟩
            · cases hy
        have hcap0 : len * i.size ≤ arr0.size := by rw [q4]; exact Nat.mul_le_mul_right _ hlc
        by_cases hroom : len + m ≤ cap
        · have ha0 : a0 = ⟨(ι id).b, 0, none⟩ := by
            rcases hadr with hadr | hadr
            · rw [hadr, q1]
            · omega
          subst ha0
          have hfit : len * i.size + news.length ≤ arr0.size := by rw [hnl, q4, ← Nat.add_mul]; exact Nat.mul_le_mul_right _ hroom
          have hr := run_append_room (P := P) w t ty e i hu hi (ι id).b len cap arr0 (by rw [← hoe]; exact hbk) ad m c news hnl hc h1 hroom hfit
          have htr := Tr.change hs ho hown (o' := newVer o (o.cells.take (len * i.size) ++ new)) hown rfl rfl (Nat.le_succ _) (.inr rfl)
            (arr0.toList.take (len * i.size) ++ news ++ arr0.toList.drop (len * i.size + news.length)).toArray (by simp [hosz]; rw [← hcap]; omega) (by
              intro j y hy
              obtain ⟨v, hv, hvr⟩ := (hold.append hrel).2 j y hy
              refine ⟨v, ?_, hvr⟩
              have hlt := (List.getElem?_eq_some_iff.mp hv).1
              rw [List.getElem?_toArray, List.getElem?_append_left hlt]
              exact hv) (Sp.later (by simp [newVer]) (by
                intro u hu
                simp only [List.mem_append] at hu
                rcases hu with (hu | hu) | hu
                · exact s1' u (List.mem_of_mem_take hu)
                · exact h1 u hu
                · exact s1' u (List.mem_of_mem_drop hu)))
          refine ⟨_, _, _, _, _, h2, hr, htr, ?_⟩
          refine ⟨newVer o (o.cells.take (len * i.size) ++ new), by simp [AMem.set], by simp [newVer, hver], _, _, rfl, hroom, fun _ => ⟨fun _ => hcap, .inl (by simp [q1])⟩⟩
        · have holds : ∀ j u, (arr0.toList.take (len * i.size))[j]? = some u → w.cell? (a0.add j) = some u := by
            intro j u hj
            rw [List.getElem?_take] at hj
            split at hj
            · rename_i hjl
              rcases hadr with hadr | hadr
              · rw [hadr, add_none, q1]
                simp only [World.cell?, hbk]
                rw [Array.getElem?_toList] at hj
                simpa using hj
              · have : len = 0 := by omega
                subst this; simp at hjl
            · cases hj
          have hr := run_append_grow (P := P) w t ty e i zv hu hi hzv a0 len cap (arr0.toList.take (len * i.size)) (by simp; omega) holds ad m c news hnl hc (by omega) (by omega) (growslice_fits (by omega) hby)
          have hge := grownCap_ge w (len + m) cap e
          have hcm := grownCap_le_maxLen w (len + m) cap e (by unfold maxLen; omega)
          have htr := Tr.moved hs ho (o' := newVer o (o.cells.take (len * i.size) ++ new)) rfl (Nat.lt_succ_self _) rfl
            ((arr0.toList.take (len * i.size)).toArray ++ news.toArray ++ Builtin.zeroCells zv.cells (grownCap w (len + m) cap e - (len + m))) (grownCap w (len + m) cap e)
            (by
              simp only [Array.size_append, List.size_toArray, size_zeroCells, hzvs, hnl, hosz, List.length_take, Array.length_toList, Nat.min_eq_left hcap0, ← Nat.add_mul]
              congr 1; omega) hcm (by
              intro j y hy
              obtain ⟨v, hv, hvr⟩ := (hold.append hrel).2 j y hy
              refine ⟨v, ?_, hvr⟩
              have hlt := (List.getElem?_eq_some_iff.mp hv).1
              rw [Array.getElem?_append_left (by simpa using hlt)]
              rw [show ((arr0.toList.take (len * i.size)).toArray ++ news.toArray) = (arr0.toList.take (len * i.size) ++ news).toArray from by apply Array.ext'; simp]
              rw [List.getElem?_toArray]
              exact hv) (Sp.later (by simp [newVer]) (by
                intro u hu
                simp only [Array.toList_append, List.mem_append] at hu
                rcases hu with (hu | hu) | hu
                · exact s1' u (List.mem_of_mem_take hu)
                · exact h1 u hu
                · exact all_one (zeroCells_rel (zero_all (ι := ι) (μ := μ) hz hi hzv) (by rw [hzl]; exact hsz) _) u hu)) (w0 := w.drew) rfl rfl rfl rfl
          refine ⟨_, _, _, (fun j => if j = id then ⟨w.heap.size, 0, grownCap w (len + m) cap e⟩ else ι j), _, h2, hr, ?_, ?_⟩
          · have : (newVer o (o.cells.take (len * i.size) ++ new)).elem = e := hoe
            rw [this] at htr
            exact htr
          · exact ⟨newVer o (o.cells.take (len * i.size) ++ new), by simp [AMem.set], by simp [newVer, hver], _, _, rfl, hge, fun _ => ⟨fun _ => by simp, .inl (by simp)⟩⟩
    · cases h2
  · cases h

/-- The same where nothing is appended that is nil. -/
theorem appendS_nil (hs : Sim P ι μ w) {nid : Nat} {t e ty : TypeId} {i : TypeInfo} (hu : P.underlying t = some (.slice e)) (hi : P.info? e = some i)
    {x : AV} {new : List SV} {K : AV → AMem → Option R} {r : R} (h : appendS e i.size i.bytes nid μ x 0 new K = some r)
    {a : Value} (ha : AVR ι μ x a) : ∃ y v, K y μ = some r ∧ (Builtin.append_ #[t, t] ty #[a, .slice none 0 0]).run P w = .ok v w ∧ AVR ι μ y v := by
  unfold appendS at h
  split at h
  · have ha' : a = .slice none 0 0 := ha
    subst ha'
    split at h
    · rw [if_pos rfl] at h
      exact ⟨_, .slice none 0 0, h, by simp [Builtin.append_, run_und hu, sizeOf, typeInfo, hi, Builtin.lenOf, Builtin.firstCells], rfl⟩
    · cases h
  · rename_i id ver len
    obtain ⟨o, ho, h2⟩ := Option.bind_eq_some_iff.mp h
    split at h2
    · rw [if_pos rfl] at h2
      obtain ⟨o', ho', hv', a0, cap, rfl, hlc, hh⟩ := ha
      refine ⟨_, .slice (some a0) len cap, h2, ?_, ⟨o', ho', hv', a0, cap, rfl, hlc, hh⟩⟩
      have hst : storeCells (a0.add (len * i.size)) [] = (pure () : Sem Unit) := rfl
      simp [Builtin.append_, run_und hu, sizeOf, typeInfo, hi, Builtin.lenOf, Builtin.firstCells, hlc, hst]
    · cases h2
  · cases h
theorem args2 {α : Type} (x y : α) : (#[x, y] : Array α).toList = [x, y] := rfl
theorem append_types {t u e e' ty : TypeId} {x y : Value} (hu : P.underlying t = some (.slice e)) (hu' : P.underlying u = some (.slice e')) (w : World) :
    (Builtin.append_ #[t, u] ty #[x, y]).run P w = (Builtin.append_ #[t, t] ty #[x, y]).run P w := by
  unfold Builtin.append_
  simp only [List.getElem?_toArray, List.getElem?_cons_zero, List.getElem?_cons_succ, Sem.run_bind, run_und hu, Result.andThen_ok]
  cases x <;> simp [run_und hu, run_und hu']
theorem appendA_tells (hs : Sim P ι μ w) {nid : Nat} (hn : nid < μ.next) (hf : μ.obj nid = none) {t u e e' ty : TypeId} {i : TypeInfo} {z : List SV} (hu : P.underlying t = some (.slice e)) (hu' : P.underlying u = some (.slice e')) (hi : P.info? e = some i)
    (hz : zeroA P e = some z) (hzl : z.length = i.size) (hsz : 0 < i.size) {x y : AV} {K : AV → AMem → Option R} {r : R} (h : appendA e i.size i.bytes nid μ x y K = some r)
    {a b : Value} (ha : AVR ι μ x a) (hb : AVR ι μ y b) :
    ∃ y μ' v ι' w', K y μ' = some r ∧ (Builtin.append_ #[t, u] ty #[a, b]).run P w = .ok v w' ∧ Tr P ι μ w ι' μ' w' ∧ AVR ι' μ' y v := by
  unfold appendA at h
  obtain ⟨m, hm, h1⟩ := Option.bind_eq_some_iff.mp h
  obtain ⟨new, hnew, h2⟩ := Option.bind_eq_some_iff.mp h1
  rw [append_types hu hu']
  rcases lenS_nat hm hb with ⟨rfl, rfl⟩ | ⟨ad, c, rfl⟩
  · obtain ⟨y', v, g1, g2, g3⟩ := appendS_nil (P := P) (ty := ty) hs hu hi h2 ha
    exact ⟨y', μ, v, ι, w, g1, g2, Tr.refl hs, g3⟩
  · rcases row_rel hs hnew hb with ⟨hbad, _⟩ | ⟨a', len, c', cs, he, hml, hcl, _, hrel, hone, hcell⟩
    · cases hbad
    · cases he
      exact appendS_tells hs hn hf hu hi hz hzl hsz h2 ha hcl hrel hone hcell

theorem copyA_tells (hs : Sim P ι μ w) {t t' e ty : TypeId} {n : Nat} (hu : P.underlying t = some (.slice e)) (hn : sizeA P e = some n) (hn0 : 0 < n) {x y : AV} {K : AV → AMem → Option R} {r : R} (h : copyA n μ x y K = some r)
    {a b : Value} (ha : AVR ι μ x a) (hb : AVR ι μ y b) :
    ∃ y μ' v w', K y μ' = some r ∧ (Builtin.copy_ #[t, t'] ty #[a, b]).run P w = .ok v w' ∧ Tr P ι μ w ι μ' w' ∧ AVR ι μ' y v := by
  unfold copyA at h
  obtain ⟨dl, hdl, h1⟩ := Option.bind_eq_some_iff.mp h
  obtain ⟨sl, hsl, h2⟩ := Option.bind_eq_some_iff.mp h1
  split at h2
  · rename_i h0
    refine ⟨_, μ, .int .i64 0, w, h2, ?_, Tr.refl hs, rfl⟩
    have hm : Nat.min sl dl = 0 := h0
    rcases lenS_nat hdl ha with ⟨rfl, rfl⟩ | ⟨ad, c, rfl⟩ <;> rcases lenS_nat hsl hb with ⟨rfl, rfl⟩ | ⟨ad', c', rfl⟩ <;>
      simp [Builtin.copy_, run_und hu, run_siz hn, Builtin.lenOf, Builtin.firstCells, goInt, loadCells, loadCellsFrom, storeCells, hm]
  · rename_i h0
    obtain ⟨new, hnew, h3⟩ := Option.bind_eq_some_iff.mp h2
    split at h3
    · rename_i id ver off ln
      obtain ⟨μ', hm, h4⟩ := Option.bind_eq_some_iff.mp h3
      rcases row_rel hs hnew hb with ⟨rfl, _⟩ | ⟨a', len, c', cs, rfl, hml, hcl, hnl, hrel, hone, hcell⟩
      · rcases lenS_nat hsl hb with ⟨_, rfl⟩ | ⟨_, _, hbad⟩
        · simp at h0
        · cases hbad
      · obtain ⟨o, arr, ho, hv, hst, htr⟩ := store_rel (P := P) hs hm hrel hone
        obtain ⟨o', ho', hv', ad, cap, rfl, hlc, hh⟩ := ha
        rw [ho] at ho'
        obtain rfl := Option.some.inj ho'
        obtain ⟨_, hadr⟩ := hh hv
        obtain rfl : ln = dl := by simpa [lenS] using hdl
        rcases lenS_nat hsl hb with ⟨hbad, _⟩ | ⟨q1, q2, hq⟩
        · cases hbad
        cases hq
        have hadr : ad = ⟨(ι id).b, (ι id).o + off, none⟩ := by
          rcases hadr with hadr | hadr
          · exact hadr
          · have : min sl ln ≤ ln := Nat.min_le_right _ _
            omega
        subst hadr
        refine ⟨_, μ', .int .i64 (min sl ln : Nat), _, h4, ?_, htr, rfl⟩
        have hlc' := run_loadCells_list (P := P) w a' cs hcell
        rw [hcl] at hlc'
        have hmin : Nat.min sl ln = min sl ln := rfl
        simp only [Builtin.copy_, List.getElem?_toArray, List.getElem?_cons_zero, List.getElem?_cons_succ, Sem.run_bind, run_und hu, Result.andThen_ok, Builtin.lenOf, Sem.run_pure, run_siz hn, Builtin.firstCells, hmin, hlc', hst, goInt]
    · cases h3
theorem capA_tells {t ty e : TypeId} (hs : Sim P ι μ w) (hu : P.underlying t = some (.slice e)) {x : AV} {K : AV → Option R} {r : R} (h : capA μ x K = some r) {a : Value} (ha : AVR ι μ x a) :
    ∃ y v, K y = some r ∧ AVR ι μ y v ∧ ∀ w, (Builtin.cap_ #[t] ty #[a]).run P w = .ok v w := by
  unfold capA at h
  split at h
  · have ha' : a = .slice none 0 0 := ha
    subst ha'
    exact ⟨_, .int .i64 0, h, rfl, fun w => by simp [Builtin.cap_, run_und hu, goInt]⟩
  · rename_i id ver ln
    obtain ⟨o, ho, h1⟩ := Option.bind_eq_some_iff.mp h
    split at h1
    · rename_i hv
      obtain ⟨c, hc, h2⟩ := Option.bind_eq_some_iff.mp h1
      obtain ⟨o', ho', hv', ad, cap, rfl, hlc, hh⟩ := ha
      rw [ho] at ho'
      obtain rfl := Option.some.inj ho'
      have := (hs.live id o ho).2.cap c hc
      have hcap := (hh hv).1 rfl
      refine ⟨_, .int .i64 c, h2, rfl, fun w => ?_⟩
      simp [Builtin.cap_, run_und hu, goInt, hcap, this]
    · cases h1
  · cases h
/-- What an operation that writes comes to. -/
def Does (P : Program) (ι : Nat → Loc) (μ : AMem) (w : World) (K : AV → AMem → Option R) (r : R) (s : Sem Next) : Prop :=
  ∃ y μ' ι' w', K y μ' = some r ∧ ((∃ v, s.run P w = .ok (.value v) w' ∧ AVR ι' μ' y v) ∨ (s.run P w = .ok .skip w' ∧ y = .tuple [])) ∧ Tr P ι μ w ι' μ' w'
theorem effK_does (hs : Sim P ι μ w) {nid : Nat} {ev : Operand → AV} {ρ : Operand → Value} {o : Oper} (hnf : newA o.op = true → nid < μ.next ∧ μ.obj nid = none) {K : AV → AMem → Option R} {r : R}
    (h : effK P ev nid μ o.op K = some r) (hr : ∀ x, AVR ι μ (ev x) (ρ x)) : Does P ι μ w K r (execOp ρ o) := by
  unfold effK at h
  split at h <;> rename_i hop
  · rename_i t p x
    obtain ⟨μ', w', h1, h2, h3⟩ := storeK_tells (P := P) hs h (hr p) (hr x)
    exact ⟨_, μ', ι, w', h1, .inr ⟨by unfold execOp; rw [hop]; simp [h2], rfl⟩, h3⟩
  · rename_i as ts
    split at h
    · rename_i x y t u ha ht
      obtain rfl := list2 ha
      obtain rfl := tys2 ht
      obtain ⟨hn, hf⟩ := hnf (by rw [hop]; rfl)
      unfold appendK at h
      split at h
      · rename_i e hu
        obtain ⟨i, hi, h1⟩ := Option.bind_eq_some_iff.mp h
        obtain ⟨z, hz, h2⟩ := Option.bind_eq_some_iff.mp h1
        split at h2
        · rename_i hb
          split at h2
          · rename_i e' hu'
            obtain ⟨y', μ', v, ι', w', g1, g2, g3, g4⟩ := appendA_tells (P := P) (ty := o.type) hs hn hf hu hu' hi hz hb.1 hb.2 h2 (hr x) (hr y)
            refine ⟨y', μ', ι', w', g1, .inl ⟨v, ?_, g4⟩, g3⟩
            unfold execOp; rw [hop]
            simp [resolve, invoke, builtin, g2]
          · cases h2
        · cases h2
      · cases h
    · cases h
  · rename_i as ts
    split at h
    · rename_i x y t t' ha ht
      obtain rfl := list2 ha
      obtain rfl := tys2 ht
      split at h
      · rename_i e hu
        split at h
        · rename_i n hn1
          obtain ⟨y', μ', v, w', g1, g2, g3, g4⟩ := copyA_tells (P := P) (ty := o.type) (t' := t') hs hu hn1 (Nat.succ_pos _) h (hr x) (hr y)
          refine ⟨y', μ', ι, w', g1, .inl ⟨v, ?_, g4⟩, g3⟩
          unfold execOp; rw [hop]
          simp [resolve, invoke, builtin, g2]
        · cases h
      · cases h
    · cases h
  · rename_i as ts
    split at h
    · rename_i x t ha ht
      obtain rfl := list1 ha
      obtain rfl := tys1 ht
      split at h
      · rename_i e hu
        obtain ⟨y', v, g1, g2, g3⟩ := capA_tells (P := P) (ty := o.type) hs hu h (hr x)
        refine ⟨y', μ, ι, w, g1, .inl ⟨v, ?_, g2⟩, Tr.refl hs⟩
        unfold execOp; rw [hop]
        simp [resolve, invoke, builtin, g3]
      · cases h
    · cases h
  · cases h
end
end Go.Proofs.Ytchapaejdgnihaa.E
