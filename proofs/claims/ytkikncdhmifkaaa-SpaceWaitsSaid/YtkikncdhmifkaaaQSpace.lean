/- Spaces: maps and tables by what they tell, each with the objects that it has. -/
import Derived.Test.YtkikncdhmifkaaaQMapUse
import Derived.Test.YtkikncdhmifkaaaQTab
namespace Go.Proofs.Ytkikncdhmifkaaa
open Go Go.Proofs.Ytkikncdhmifkaaa.E
set_option linter.unusedVariables false
set_option linter.unusedSimpArgs false
theorem Mp.off {N : Nat} {μ : AMem} {x : SV} {n : Nat} {rs : List SV} {wss : List (List Int)} (h : Mp N μ x n rs wss) :
    ∃ sid so lid lo ver L, x = .ptr sid 0 0 ∧ N ≤ sid ∧ μ.obj sid = some so ∧ so.cells[1]? = some (.slice lid ver 0 L) ∧ N ≤ lid ∧ μ.obj lid = some lo ∧ ¬ feet rs sid := by
  obtain ⟨sid, so, lid, lo, ver, hx, hN, hso, hsv, hsc, hN2, hlo, hlv, hlc, hl, hr, hap⟩ := h
  refine ⟨sid, so, lid, lo, ver, rs.length, hx, hN, hso, by rw [hsc]; rfl, hN2, hlo, fun ⟨r, hm, hi⟩ => ?_⟩
  obtain ⟨k, hk, rfl⟩ := List.mem_iff_getElem.mp hm
  exact (hr k _ _ (List.getElem?_eq_getElem hk) (List.getElem?_eq_getElem (by omega))).2.2.1 hi
def mfoot (μ : AMem) (x : SV) (rs : List SV) (F : Nat → Prop) : Prop := (∀ j, feet rs j → F j) ∧ ∀ j, x = .ptr j 0 0 → F j ∧ ∀ so id v l, μ.obj j = some so → so.cells[1]? = some (.slice id v 0 l) → F id
theorem Mp.keepF {N : Nat} {μ μ' : AMem} {S F : Nat → Prop} {x : SV} {n : Nat} {rs : List SV} {wss : List (List Int)} (h : Mp N μ x n rs wss) (hf : mfoot μ x rs F) (hK : Keep S μ μ') (hS : ∀ j, S j → ¬ F j) : Mp N μ' x n rs wss := by
  obtain ⟨sid, so, lid, lo, ver, rfl, hN, hso, hsv, hsc, hN2, hlo, hlv, hlc, hl, hr, hap⟩ := h
  obtain ⟨f1, f2⟩ := hf
  obtain ⟨f3, f4⟩ := f2 sid rfl
  have f5 := f4 so lid ver _ hso (by rw [hsc]; rfl)
  refine ⟨sid, so, lid, lo, ver, rfl, hN, hK.old _ _ hso fun h => hS _ h f3, hsv, hsc, hN2, hK.old _ _ hlo fun h => hS _ h f5, hlv, hlc, hl, fun j r' ws' hj hws => ?_, hap⟩
  obtain ⟨⟨e, h1⟩, h2⟩ := hr j r' ws' hj hws
  exact ⟨⟨e, ownKeep h1 hK fun i hi hh => hS i hi (f1 i ⟨r', List.mem_of_getElem? hj, hh⟩)⟩, h2⟩
theorem mfoot.keep {N : Nat} {μ μ' : AMem} {S F : Nat → Prop} {x : SV} {n : Nat} {rs : List SV} {wss : List (List Int)} (hf : mfoot μ x rs F) (h : Mp N μ x n rs wss) (hK : Keep S μ μ') (hS : ∀ j, x = .ptr j 0 0 → ¬ S j) : mfoot μ' x rs F := by
  obtain ⟨sid, so, lid, lo, ver, L, rfl, _, hso, hc, _⟩ := h.off
  refine ⟨hf.1, fun j hj => ?_⟩
  obtain rfl : sid = j := by cases hj; rfl
  obtain ⟨f3, f4⟩ := hf.2 sid rfl
  refine ⟨f3, fun so' id v l h1 h2 => ?_⟩
  rw [hK.old _ _ hso (hS sid rfl)] at h1
  cases h1
  exact f4 so id v l hso h2
/-- A map of n sectors of which V are used; its objects are of F. -/
structure Mz (F : Nat → Prop) (N : Nat) (μ : AMem) (x : SV) (n : Nat) (V : Nat → Bool) : Prop where
  ex : ∃ rs ws, Mw N μ x n rs ws ∧ mfoot μ x rs F ∧ ∀ j, j < n → U ws j = V j
  lives : ∀ j, F j → N ≤ j ∧ ∃ o, μ.obj j = some o
theorem Mz.keep {F S : Nat → Prop} {N : Nat} {μ μ' : AMem} {x : SV} {n : Nat} {V : Nat → Bool} (h : Mz F N μ x n V) (hK : Keep S μ μ') (hS : ∀ j, S j → ¬ F j) : Mz F N μ' x n V := by
  obtain ⟨⟨rs, ws, ⟨wss, hm, hl, h0⟩, hf, hU⟩, hlv⟩ := h
  refine ⟨⟨rs, ws, ⟨wss, hm.keepF hf hK hS, hl, h0⟩, hf.keep hm hK fun j hj h => hS j h (hf.2 j hj).1, hU⟩, fun j hj => ?_⟩
  obtain ⟨h1, o, ho⟩ := hlv j hj
  exact ⟨h1, o, hK.old _ _ ho fun h => hS j h hj⟩
theorem Mz.cong {F : Nat → Prop} {N : Nat} {μ : AMem} {x : SV} {n : Nat} {V W : Nat → Bool} (h : Mz F N μ x n V) (hVW : ∀ j, j < n → V j = W j) : Mz F N μ x n W := by
  obtain ⟨⟨rs, ws, hm, hf, hU⟩, hlv⟩ := h
  exact ⟨⟨rs, ws, hm, hf, fun j hj => (hU j hj).trans (hVW j hj)⟩, hlv⟩
def setV (V : Nat → Bool) (i : Nat) (b : Bool) : Nat → Bool := fun j => if j = i then b else V j
theorem Mz.wrote {F : Nat → Prop} {N : Nat} {μ μ' : AMem} {x : SV} {n : Nat} {rs : List SV} {ws ws' : List Int} (hlv : ∀ j, F j → N ≤ j ∧ ∃ o, μ.obj j = some o) (hm : Mw N μ x n rs ws) (hf : mfoot μ x rs F) (hK : Keep (feet rs) μ μ') (hm' : Mw N μ' x n rs ws') : Mz F N μ' x n (U ws') := by
  obtain ⟨wss, hmp, _, _⟩ := hm.ex
  obtain ⟨wss', hmp', _, _⟩ := hm'.ex
  obtain ⟨sid, so, lid, lo, ver, L, rfl, hN1, hso, hc, hN2, hlo, hof⟩ := hmp.off
  refine ⟨⟨rs, ws', hm', hf.keep hmp hK fun j hj h => ?_, fun _ _ => rfl⟩, fun j hj => ?_⟩
  · cases hj; exact hof h
  · obtain ⟨h1, o, ho⟩ := hlv j hj
    by_cases hfj : feet rs j
    · exact hmp'.ids hfj
    · exact ⟨h1, o, hK.old _ _ ho hfj⟩
theorem usedV {n : Nat} {ws : List Int} {V : Nat → Bool} (h : ∀ j, j < n → U ws j = V j) (i : Int) : usedZ n ws i = (!(decide (0 ≤ i) && decide (i < n)) || V i.toNat) := by
  unfold usedZ
  by_cases h1 : 0 ≤ i
  · by_cases h2 : i < n
    · rw [h i.toNat (by omega)]
    · rw [decide_eq_false h2, Bool.and_false]; rfl
  · rw [decide_eq_false h1, Bool.false_and]; rfl
theorem Mz.used {F : Nat → Prop} {N : Nat} {μ : AMem} {x : SV} {n : Nat} {V : Nat → Bool} (h : Mz F N μ x n V) (i : Int) : bitmap_Map_Used [.s x, .s (.int .i64 i)] μ = some (.s (.bool (!(decide (0 ≤ i) && decide (i < n)) || V i.toNat)), μ) := by
  obtain ⟨⟨rs, ws, hm, hf, hU⟩, hlv⟩ := h
  rw [used_is hm, usedV hU]
theorem cntF_cong {V W : Nat → Bool} : ∀ n : Nat, (∀ j, j < n → V j = W j) → cntF V n = cntF W n
  | 0, _ => rfl
  | n + 1, h => by rw [cntF, cntF, cntF_cong n fun j hj => h j (by omega), h n (by omega)]
theorem Mz.count {F : Nat → Prop} {N : Nat} {μ : AMem} {x : SV} {n : Nat} {V : Nat → Bool} (h : Mz F N μ x n V) (hn : n ≤ 5000) : bitmap_Map_Count [.s x] μ = some (.s (.int .i64 (cntF V n)), μ) := by
  obtain ⟨⟨rs, ws, hm, hf, hU⟩, hlv⟩ := h
  rw [mapCount_is hm hn, cntF_cong n hU]
/-- Set of one that there is. -/
theorem Mz.set {F : Nat → Prop} {N : Nat} {μ : AMem} (hw : WF μ) {x : SV} {n : Nat} {V : Nat → Bool} (h : Mz F N μ x n V) (hn : n ≤ 5000) {i : Nat} (hi : i < n) (b : Bool) :
    ∃ μ', bitmap_Map_Set [.s x, .s (.int .i64 i), .s (.bool b)] μ = some (.s (.bool (!(V i == b))), μ') ∧ Keep F μ μ' ∧ Mz F N μ' x n (setV V i b) ∧ μ'.next = μ'.next := by
  obtain ⟨⟨rs, ws, hm, hf, hU⟩, hlv⟩ := h
  obtain ⟨h1, h2⟩ := mapSet_is hw hm hn (i : Int) b
  rw [usedZ_in hi, hU i hi] at h1 h2
  by_cases hb : V i = b
  · refine ⟨μ, ?_, Keep.refl hw, ⟨⟨rs, ws, hm, hf, fun j hj => ?_⟩, hlv⟩, rfl⟩
    · rw [h1 (.inr hb), hb]; simp
    · rw [hU j hj]; unfold setV
      by_cases hj : j = i
      · rw [if_pos hj, hj, hb]
      · rw [if_neg hj]
  · obtain ⟨m, e, k, g⟩ := h2 (by omega) hb
    rw [nat_toNat] at g
    have hne : (V i == b) = false := by cases hV : V i <;> cases b <;> simp_all
    refine ⟨m, by rw [e, hne]; rfl, k.weak0 hf.1, (Mz.wrote hlv hm hf k g).cong fun j hj => ?_, rfl⟩
    rw [U_setW hm hi]; unfold setV
    by_cases hj2 : j = i
    · rw [if_pos hj2, if_pos hj2]
    · rw [if_neg hj2, if_neg hj2, hU j hj]
theorem Mz.take {F : Nat → Prop} {N : Nat} {μ : AMem} (hw : WF μ) {x : SV} {n : Nat} {V : Nat → Bool} (h : Mz F N μ x n V) (hn : n ≤ 5000) :
    ((∀ j, j < n → V j = true) → bitmap_Map_Take [.s x] μ = some (.s (.int .i64 (-1)), μ)) ∧
    (∀ g : Nat, g < n → V g = false → (∀ j, j < g → V j = true) → ∃ μ', bitmap_Map_Take [.s x] μ = some (.s (.int .i64 g), μ') ∧ Keep F μ μ' ∧ Mz F N μ' x n (setV V g true)) := by
  obtain ⟨⟨rs, ws, hm, hf, hU⟩, hlv⟩ := h
  obtain ⟨h1, h2⟩ := mapTake_is hw hm hn
  refine ⟨fun ha => h1 fun j hj => by rw [hU j hj, ha j hj], fun g hg hgf hgl => ?_⟩
  obtain ⟨m, e, k, q⟩ := h2 g hg (by rw [hU g hg, hgf]) (fun j hj => by rw [hU j (by omega), hgl j hj])
  refine ⟨m, e, k.weak0 hf.1, (Mz.wrote hlv hm hf k q).cong fun j hj => ?_⟩
  rw [U_setW hm hg]; unfold setV
  by_cases hj2 : j = g
  · rw [if_pos hj2, if_pos hj2]
  · rw [if_neg hj2, if_neg hj2, hU j hj]
theorem mapLen_is {F : Nat → Prop} {N : Nat} {μ : AMem} {x : SV} {n : Nat} {V : Nat → Bool} (h : Mz F N μ x n V) : bitmap_Map_Len [.s x] μ = some (.s (.int .i64 n), μ) := by
  obtain ⟨⟨rs, ws, ⟨wss, hm, hl, h0⟩, hf, hU⟩, hlv⟩ := h
  obtain ⟨sid, r, L, p, rfl, hr, hc0, _⟩ := hm.level h0
  rw [bitmap_Map_Len_eq]
  simp -implicitDefEqProofs only [hc0, Option.bind_some, decide_true, decide_false, cond_true, cond_false, seqJ_n, seqJ_r, seqJ_e, headK_c, asB_bool, asI_int, asS_s, asN_int, extrK_0, extrK_1, extrK_2, Bool.not_true, Bool.not_false, Nat.beq_refl]
/-- A new map. -/
theorem mapNew_z {μ : AMem} (hw : WF μ) {n : Nat} (h1 : 1 ≤ n) (h2 : n ≤ 4096) : ∃ x F μ', bitmap_New [.s (.int .i64 n)] μ = some (.tuple [.s x, .s (.int .i64 0)], μ') ∧ Same μ μ' ∧ Mz F μ.next μ' x n (fun _ => false) ∧ ∀ j, F j → j < μ'.next := by
  obtain ⟨x, rs, ws, m, e, k, hm, hU⟩ := mapNew_w hw h1 h2
  obtain ⟨wss, hmp, _, _⟩ := hm.ex
  obtain ⟨sid, so, lid, lo, ver, L, rfl, hN1, hso, hc, hN2, hlo, hof⟩ := hmp.off
  refine ⟨.ptr sid 0 0, fun j => μ.next ≤ j ∧ ∃ o, m.obj j = some o, m, e, k, ⟨⟨rs, ws, hm, ⟨fun j hj => hmp.ids hj, fun j hj => ?_⟩, hU⟩, fun j hj => hj⟩, fun j ⟨_, o, ho⟩ => k.wf.lt ho⟩
  cases hj
  refine ⟨⟨hN1, so, hso⟩, fun so' id v l h3 h4 => ?_⟩
  rw [hso] at h3
  cases h3
  rw [hc] at h4
  cases h4
  exact ⟨hN2, lo, hlo⟩
/-- A table of counts; its objects are of G. -/
structure Tz (G : Nat → Prop) (N : Nat) (μ : AMem) (x : SV) (cs : List Int) : Prop where
  ex : ∃ s, Tab N μ x s cs ∧ (∀ j, isId s j → G j) ∧ ∀ j, x = .ptr j 0 0 → G j
  lives : ∀ j, G j → N ≤ j ∧ ∃ o, μ.obj j = some o
theorem Tz.keep {G S : Nat → Prop} {N : Nat} {μ μ' : AMem} {x : SV} {cs : List Int} (h : Tz G N μ x cs) (hK : Keep S μ μ') (hS : ∀ j, S j → ¬ G j) : Tz G N μ' x cs := by
  obtain ⟨⟨s, ht, h1, h2⟩, hlv⟩ := h
  refine ⟨⟨s, ht.keep hK (fun j hj h => hS j hj (h1 j h)) (fun j hj h => hS j hj (h2 j h)), h1, h2⟩, fun j hj => ?_⟩
  obtain ⟨h1, o, ho⟩ := hlv j hj
  exact ⟨h1, o, hK.old _ _ ho fun h => hS j h hj⟩
theorem Tz.wrote {G : Nat → Prop} {N : Nat} {μ μ' : AMem} {x s : SV} {ds : List Int} (hlv : ∀ j, G j → N ≤ j ∧ ∃ o, μ.obj j = some o) (h1 : ∀ j, isId s j → G j) (h2 : ∀ j, x = .ptr j 0 0 → G j) (hK : Keep (isId s) μ μ') (h : Tab N μ' x s ds) : Tz G N μ' x ds := by
  refine ⟨⟨s, h, h1, h2⟩, fun j hj => ?_⟩
  obtain ⟨h3, o, ho⟩ := hlv j hj
  by_cases hs : isId s j
  · exact own_lives h.row hs
  · exact ⟨h3, o, hK.old _ _ ho hs⟩
theorem Tz.of {G : Nat → Prop} {N : Nat} {μ : AMem} {x : SV} {cs : List Int} (h : Tz G N μ x cs) (i : Int) : refs_Table_Of [.s x, .s (.int .i64 i)] μ = some (.s (.int .i64 (ofI cs i)), μ) := by
  obtain ⟨⟨s, ht, _⟩, _⟩ := h
  exact of_is ht i
theorem Tz.add {G : Nat → Prop} {N : Nat} {μ : AMem} (hw : WF μ) {x y : SV} {cs ls : List Int} (h : Tz G N μ x cs) (hy : IsRow μ .i64 y ls) (hyG : ∀ j, isId y j → ¬ G j) (hb : ls.length ≤ 100000) (hf : fits cs ls.length) (ha : ls.all (mayI cs) = true) :
    ∃ μ', refs_Table_Add [.s x, .s y] μ = some (.s (.bool true), μ') ∧ Keep G μ μ' ∧ Tz G N μ' x (addZ cs ls) := by
  obtain ⟨⟨s, ht, h1, h2⟩, hlv⟩ := h
  obtain ⟨m, e, k, t⟩ := (add_is hw ht hy (fun j hj h => hyG j h (h1 j hj)) hb hf).2 ha
  exact ⟨m, e, k.weak0 h1, Tz.wrote hlv h1 h2 k t⟩
theorem Tz.drop {G : Nat → Prop} {N : Nat} {μ : AMem} (hw : WF μ) {x : SV} {cs : List Int} (h : Tz G N μ x cs) (hf : fits cs 0) (i : Int) :
    (ofI cs i = 0 → refs_Table_Drop [.s x, .s (.int .i64 i)] μ = some (.tuple [.s (.int .i64 0), .s (.bool false)], μ)) ∧
    (ofI cs i ≠ 0 → ∃ μ', refs_Table_Drop [.s x, .s (.int .i64 i)] μ = some (.tuple [.s (.int .i64 (ofI cs i - 1)), .s (.bool true)], μ') ∧ Keep G μ μ' ∧ Tz G N μ' x (decZ cs i)) := by
  obtain ⟨⟨s, ht, h1, h2⟩, hlv⟩ := h
  obtain ⟨d1, d2⟩ := drop_is hw ht hf i
  refine ⟨d1, fun hn => ?_⟩
  obtain ⟨m, e, k, t⟩ := d2 hn
  exact ⟨m, e, k.weak0 h1, Tz.wrote hlv h1 h2 k t⟩
theorem tabNew_z {μ : AMem} (hw : WF μ) {n : Nat} (hn : 1 ≤ n ∧ n ≤ 4096) : ∃ x G μ', refs_New [.s (.int .i64 n)] μ = some (.tuple [.s x, .s (.int .i64 0)], μ') ∧ Same μ μ' ∧ Tz G μ.next μ' x (List.replicate n 0) ∧ ∀ j, G j → j < μ'.next := by
  obtain ⟨x, s, m, e, k, t⟩ := new_is hw hn
  refine ⟨x, fun j => μ.next ≤ j ∧ ∃ o, m.obj j = some o, m, e, k, ⟨⟨s, t, fun j hj => own_lives t.row hj, fun j hj => ?_⟩, fun j hj => hj⟩, fun j ⟨_, o, ho⟩ => k.wf.lt ho⟩
  obtain ⟨id, o, rfl, h1, h2, _⟩ := t
  cases hj
  exact ⟨h1, o, h2⟩
end Go.Proofs.Ytkikncdhmifkaaa
