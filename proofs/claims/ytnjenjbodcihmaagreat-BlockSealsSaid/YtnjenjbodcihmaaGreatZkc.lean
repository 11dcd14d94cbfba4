/- What the functions come to. -/
import Derived.Test.YtnjenjbodcihmaaGreatZkb
namespace Go.Proofs.YtnjenjbodcihmaaGreat
open Go Go.Proofs.YtnjenjbodcihmaaGreat.E
set_option linter.unusedVariables false
set_option linter.unusedSimpArgs false
theorem stepB_lin (x y : BitVec 32) : stepB (x ^^^ y) = stepB x ^^^ stepB y := by
  unfold stepB
  rw [BitVec.msb_xor, BitVec.shiftLeft_xor_distrib]
  cases x.msb <;> cases y.msb
  · rfl
  · show (x <<< 1 ^^^ y <<< 1) ^^^ polyB = x <<< 1 ^^^ (y <<< 1 ^^^ polyB)
    rw [BitVec.xor_assoc]
  · show (x <<< 1 ^^^ y <<< 1) ^^^ polyB = (x <<< 1 ^^^ polyB) ^^^ y <<< 1
    rw [BitVec.xor_assoc, BitVec.xor_comm (y <<< 1), BitVec.xor_assoc]
  · show x <<< 1 ^^^ y <<< 1 = (x <<< 1 ^^^ polyB) ^^^ (y <<< 1 ^^^ polyB)
    rw [BitVec.xor_assoc, BitVec.xor_comm (y <<< 1), ← BitVec.xor_assoc polyB, BitVec.xor_self, BitVec.zero_xor]
theorem stepB_zero : stepB 0#32 = 0#32 := by decide
theorem stepsB_lin : ∀ (n : Nat) (x y : BitVec 32), stepsB n (x ^^^ y) = stepsB n x ^^^ stepsB n y
  | 0, x, y => rfl
  | n + 1, x, y => by
    show stepsB n (stepB (x ^^^ y)) = stepsB n (stepB x) ^^^ stepsB n (stepB y)
    rw [stepB_lin, stepsB_lin n]
theorem stepsB_zero : ∀ n : Nat, stepsB n 0#32 = 0#32
  | 0 => rfl
  | n + 1 => by
    show stepsB n (stepB 0#32) = _
    rw [stepB_zero, stepsB_zero n]
theorem stepB_inj0 {z : BitVec 32} (h : stepB z = 0#32) : z = 0#32 := by
  unfold stepB at h
  cases hm : z.msb
  · rw [hm] at h
    have h' : z <<< 1 = 0#32 := h
    have h1 := congrArg BitVec.toNat h'
    rw [BitVec.msb_eq_decide] at hm
    have h2 : ¬ 2147483648 ≤ z.toNat := by simpa using hm
    rw [BitVec.toNat_shiftLeft, Nat.shiftLeft_eq] at h1
    apply BitVec.eq_of_toNat_eq
    simp at h1 ⊢
    omega
  · rw [hm] at h
    have h' : (z <<< 1) ^^^ polyB = 0#32 := h
    have h1 := congrArg (fun v => BitVec.getLsbD v 0) h'
    simp [polyB] at h1
theorem stepsB_inj0 : ∀ (n : Nat) {z : BitVec 32}, stepsB n z = 0#32 → z = 0#32
  | 0, z, h => h
  | n + 1, z, h => stepB_inj0 (stepsB_inj0 n h)
theorem stepsB_room : ∀ (n : Nat) (x : BitVec 32), x.toNat * 2 ^ n < 4294967296 → stepsB n x = x <<< n
  | 0, x, h => by simp [stepsB]
  | n + 1, x, h => by
    have hp : 1 ≤ 2 ^ n := Nat.one_le_two_pow
    rw [Nat.pow_succ] at h
    have h2 : x.toNat * 2 < 4294967296 := by
      have : x.toNat * 2 * 1 ≤ x.toNat * 2 * 2 ^ n := Nat.mul_le_mul_left _ hp
      have e : x.toNat * (2 ^ n * 2) = x.toNat * 2 * 2 ^ n := by rw [Nat.mul_comm (2 ^ n) 2, Nat.mul_assoc]
      omega
    have hs : stepB x = x <<< 1 := by
      unfold stepB
      have : x.msb = false := by rw [BitVec.msb_eq_decide, decide_eq_false]; simp; omega
      rw [this]; rfl
    have ht : (x <<< 1).toNat = x.toNat * 2 := by
      rw [BitVec.toNat_shiftLeft, Nat.shiftLeft_eq]
      simp; omega
    show stepsB n (stepB x) = _
    rw [hs, stepsB_room n (x <<< 1) (by
      rw [ht]
      have e : x.toNat * (2 ^ n * 2) = x.toNat * 2 * 2 ^ n := by rw [Nat.mul_comm (2 ^ n) 2, Nat.mul_assoc]
      omega), ← BitVec.shiftLeft_add, Nat.add_comm]
def topB (d : Bool) : BitVec 32 := if d then 2147483648#32 else 0#32
def bitR (s : BitVec 32) (d : Bool) : BitVec 32 := stepB (s ^^^ topB d)
def runB (f : Nat → Bool) : Nat → Nat → BitVec 32 → BitVec 32
  | a, 0, s => s
  | a, n + 1, s => runB f (a + 1) n (bitR s (f a))
theorem topB_xor (d e : Bool) : topB (d ^^ e) = topB d ^^^ topB e := by cases d <;> cases e <;> decide
theorem runB_lin (f g : Nat → Bool) : ∀ (n a : Nat) (s t : BitVec 32), runB (fun j => f j ^^ g j) a n (s ^^^ t) = runB f a n s ^^^ runB g a n t
  | 0, a, s, t => rfl
  | n + 1, a, s, t => by
    show runB _ (a + 1) n (bitR (s ^^^ t) (f a ^^ g a)) = _
    have e : bitR (s ^^^ t) (f a ^^ g a) = bitR s (f a) ^^^ bitR t (g a) := by
      unfold bitR
      rw [topB_xor, ← stepB_lin]
      congr 1
      rw [BitVec.xor_assoc, BitVec.xor_assoc, ← BitVec.xor_assoc t, BitVec.xor_comm t, BitVec.xor_assoc (topB (f a))]
    rw [e, runB_lin f g n]
    rfl
theorem runB_congr {f g : Nat → Bool} : ∀ (n a : Nat) (s : BitVec 32), (∀ j, a ≤ j → j < a + n → f j = g j) → runB f a n s = runB g a n s
  | 0, a, s, h => rfl
  | n + 1, a, s, h => by
    show runB f (a + 1) n (bitR s (f a)) = runB g (a + 1) n (bitR s (g a))
    rw [h a (Nat.le_refl _) (by omega)]
    exact runB_congr n (a + 1) _ fun j h1 h2 => h j (by omega) (by omega)
theorem runB_none {f : Nat → Bool} : ∀ (n a : Nat) (s : BitVec 32), (∀ j, a ≤ j → j < a + n → f j = false) → runB f a n s = stepsB n s
  | 0, a, s, h => rfl
  | n + 1, a, s, h => by
    show runB f (a + 1) n (bitR s (f a)) = stepsB n (stepB s)
    rw [h a (Nat.le_refl _) (by omega)]
    have : bitR s false = stepB s := by
      show stepB (s ^^^ 0#32) = _
      rw [BitVec.xor_zero]
    rw [this]
    exact runB_none n (a + 1) _ fun j h1 h2 => h j (by omega) (by omega)
theorem runB_split (f : Nat → Bool) (m : Nat) : ∀ (n a : Nat) (s : BitVec 32), runB f a (n + m) s = runB f (a + n) m (runB f a n s)
  | 0, a, s => by rw [Nat.zero_add]; rfl
  | n + 1, a, s => by
    rw [show n + 1 + m = (n + m) + 1 by omega]
    show runB f (a + 1) (n + m) _ = runB f (a + (n + 1)) m (runB f (a + 1) n _)
    rw [runB_split f m n (a + 1), show a + 1 + n = a + (n + 1) by omega]
theorem runB_word {f : Nat → Bool} : ∀ (n : Nat) (u : BitVec 32) (a : Nat) (s : BitVec 32), n ≤ 32 → (∀ i, i < n → f (a + i) = u.getMsbD i) → (∀ i, n ≤ i → u.getMsbD i = false) → runB f a n s = stepsB n (s ^^^ u)
  | 0, u, a, s, hn, h1, h2 => by
    have : u = 0#32 := by
      apply BitVec.eq_of_getMsbD_eq
      intro i hi
      rw [h2 i (Nat.zero_le _)]
      simp
    rw [this, BitVec.xor_zero]
    rfl
  | n + 1, u, a, s, hn, h1, h2 => by
    have h0 : f a = u.msb := by
      have := h1 0 (by omega)
      rw [Nat.add_zero] at this
      rw [this]; rfl
    have ht : (u ^^^ topB u.msb).msb = false := by
      rw [BitVec.msb_xor]
      cases u.msb <;> decide
    have hsh : stepB (u ^^^ topB u.msb) = u <<< 1 := by
      unfold stepB
      rw [ht, BitVec.shiftLeft_xor_distrib]
      cases u.msb
      · show (u <<< 1) ^^^ (0#32 <<< 1) = _
        simp
      · show (u <<< 1) ^^^ (2147483648#32 <<< 1) = _
        rw [show (2147483648#32 : BitVec 32) <<< 1 = 0#32 by decide, BitVec.xor_zero]
    show runB f (a + 1) n (stepB (s ^^^ topB (f a))) = stepsB n (stepB (s ^^^ u))
    have e : s ^^^ u = (s ^^^ topB u.msb) ^^^ (u ^^^ topB u.msb) := by
      rw [BitVec.xor_assoc, BitVec.xor_comm (topB u.msb), BitVec.xor_assoc, BitVec.xor_self, BitVec.xor_zero]
    rw [h0, e, stepB_lin (s ^^^ topB u.msb) (u ^^^ topB u.msb), hsh]
    refine runB_word n (u <<< 1) (a + 1) _ (by omega) (fun i hi => ?_) fun i hi => ?_
    · rw [BitVec.getMsbD_shiftLeft, Nat.add_comm i 1, ← h1 (1 + i) (by omega)]
      congr 1; omega
    · rw [BitVec.getMsbD_shiftLeft]
      exact h2 (i + 1) (by omega)
def dgB (bs : List Int) (j : Nat) : Bool := digB bs j == 1
theorem fin_byte : ∀ c : Fin 256, ∀ i : Fin 8, (digV (c.val : Int) i.val == 1) = ((BitVec.ofNat 32 c.val) <<< 24).getMsbD i.val := by decide +kernel
theorem fin_low : ∀ c : Fin 256, (((BitVec.ofNat 32 c.val) <<< 24).toNat) % 16777216 = 0 := by decide +kernel
theorem msb_byte {c : Int} (hc : 0 ≤ c ∧ c < 256) : ∀ i, i < 8 → (digV c i == 1) = ((BitVec.ofNat 32 c.toNat) <<< 24).getMsbD i := fun i hi => by
  have := fin_byte ⟨c.toNat, by omega⟩ ⟨i, hi⟩
  have e : ((c.toNat : Nat) : Int) = c := by omega
  simp only [e] at this
  exact this
theorem msb_none (x : BitVec 32) : ∀ i, 8 ≤ i → (x <<< 24).getMsbD i = false := fun i hi => by
  rw [BitVec.getMsbD_shiftLeft, BitVec.getMsbD]
  rw [decide_eq_false (by omega), Bool.false_and]
theorem addB_steps (s : BitVec 32) {c : Int} (hc : 0 ≤ c ∧ c < 256) : addB s c = stepsB 8 (s ^^^ ((BitVec.ofNat 32 c.toNat) <<< 24)) := by
  unfold addB tabB
  have hidx : idxB s c < 256 := idx_lt s c
  have hlow : stepsB 8 (s &&& 16777215#32) = (s &&& 16777215#32) <<< 8 := stepsB_room 8 _ (by
    rw [BitVec.toNat_and]
    have : s.toNat &&& (16777215#32 : BitVec 32).toNat ≤ 16777215 := Nat.and_le_right
    omega)
  have hsh : s <<< 8 = (s &&& 16777215#32) <<< 8 := by
    apply BitVec.eq_of_getLsbD_eq
    intro i hi
    simp only [BitVec.getLsbD_shiftLeft, BitVec.getLsbD_and]
    by_cases h8 : i < 8
    · simp [h8]
    · have : (16777215#32 : BitVec 32).getLsbD (i - 8) = true := by
        have : ∀ k : Fin 24, (16777215#32 : BitVec 32).getLsbD k.val = true := by decide
        exact this ⟨i - 8, by omega⟩
      rw [this, Bool.and_true]
  have hhi : s ^^^ ((BitVec.ofNat 32 c.toNat) <<< 24) = ((BitVec.ofNat 32 (idxB s c)) <<< 24) ^^^ (s &&& 16777215#32) := by
    apply BitVec.eq_of_getLsbD_eq
    intro i hi
    simp only [BitVec.getLsbD_xor, BitVec.getLsbD_shiftLeft, BitVec.getLsbD_and, BitVec.getLsbD_ofNat]
    have hm : Nat.testBit 16777215 i = decide (i < 24) := by
      have : ∀ k : Fin 32, Nat.testBit 16777215 k.val = decide (k.val < 24) := by decide
      exact this ⟨i, hi⟩
    rw [hm]
    by_cases h24 : i < 24
    · simp [h24, hi]
    · have hq : Nat.testBit (idxB s c) (i - 24) = (s.getLsbD i ^^ Nat.testBit c.toNat (i - 24)) := by
        unfold idxB
        have hb : ∀ (v : BitVec 8) (k : Nat), Nat.testBit v.toNat k = v.getLsbD k := fun v k => rfl
        rw [hb, BitVec.getLsbD_xor, BitVec.getLsbD_setWidth, BitVec.getLsbD_ushiftRight]
        have e1 : (BitVec.ofInt 8 c).getLsbD (i - 24) = Nat.testBit c.toNat (i - 24) := by
          have : BitVec.ofInt 8 c = BitVec.ofNat 8 c.toNat := by
            have e : BitVec.ofInt 8 ((c.toNat : Nat) : Int) = BitVec.ofNat 8 c.toNat := BitVec.ofInt_natCast ..
            rw [show ((c.toNat : Nat) : Int) = c by omega] at e
            exact e
          rw [this, BitVec.getLsbD_ofNat]
          simp; omega
        rw [e1, show 24 + (i - 24) = i by omega]
        have : decide (i - 24 < 8) = true := decide_eq_true (by omega)
        rw [this, Bool.true_and]
      rw [hq]
      have d1 : decide (i < 24) = false := decide_eq_false h24
      have d2 : decide (i - 24 < 32) = true := decide_eq_true (by omega)
      have d3 : decide (i < 32) = true := decide_eq_true hi
      simp only [d1, d2, d3, Bool.not_false, Bool.true_and, Bool.and_false, Bool.xor_false]
  rw [hhi, stepsB_lin, hlow, hsh, BitVec.xor_comm]
theorem addB_run (s : BitVec 32) {bs : List Int} (hb : ∀ v ∈ bs, 0 ≤ v ∧ v < 256) {i : Nat} (hi : i < bs.length) : addB s (bs.getD i 0) = runB (dgB bs) (8 * i) 8 s := by
  have hc := hb _ (getD_mem hi)
  rw [addB_steps s hc]
  refine (runB_word 8 _ (8 * i) s (by omega) (fun k hk => ?_) (msb_none _)).symm
  rw [← msb_byte hc k hk]
  unfold dgB digB
  rw [show (8 * i + k) / 8 = i by omega, show (8 * i + k) % 8 = k by omega]
theorem sum_run {bs : List Int} (hb : ∀ v ∈ bs, 0 ≤ v ∧ v < 256) : ∀ (k i : Nat) (s : BitVec 32), i + k = bs.length → (bs.drop i).foldl addB s = runB (dgB bs) (8 * i) (8 * k) s
  | 0, i, s, h => by
    rw [List.drop_eq_nil_of_le (by omega)]; rfl
  | k + 1, i, s, h => by
    rw [drop_cons (show i < bs.length by omega), List.foldl_cons, addB_run s hb (by omega), sum_run hb k (i + 1) _ (by omega), show 8 * (k + 1) = 8 + 8 * k by omega, runB_split, show 8 * i + 8 = 8 * (i + 1) by omega]
theorem dgB_take {bs : List Int} {n j : Nat} (h : j < 8 * n) : dgB (bs.take n) j = dgB bs j := by
  unfold dgB digB
  have : (bs.take n).getD (j / 8) 0 = bs.getD (j / 8) 0 := by
    rw [List.getD_eq_getElem?_getD, List.getD_eq_getElem?_getD, List.getElem?_take, if_pos (by omega)]
  rw [this]
theorem sum4_digit (s : BitVec 32) : ∀ i, i < 32 → dgB (sum4 s) i = s.getMsbD i := by
  intro i hi
  have hl := s.isLt
  have key : ∀ (q k : Nat), q < 4 → k < 8 → (sum4 s).getD q 0 = (s.toNat / 2 ^ (24 - 8 * q) % 256 : Nat) → dgB (sum4 s) (8 * q + k) = s.getMsbD (8 * q + k) := by
    intro q k hq hk e
    unfold dgB digB digV
    rw [show (8 * q + k) / 8 = q by omega, show (8 * q + k) % 8 = k by omega, e, BitVec.getMsbD, decide_eq_true (by omega), Bool.true_and, BitVec.getLsbD, Nat.testBit_eq_decide_div_mod_eq]
    have e1 : ((s.toNat / 2 ^ (24 - 8 * q) % 256 : Nat) : Int) / 2 ^ (7 - k) % 2 = ((s.toNat / 2 ^ (24 - 8 * q) % 256 / 2 ^ (7 - k) % 2 : Nat) : Int) := by simp
    rw [e1]
    have e2 : s.toNat / 2 ^ (24 - 8 * q) % 256 / 2 ^ (7 - k) % 2 = s.toNat / 2 ^ (32 - 1 - (8 * q + k)) % 2 := by
      have hs : 32 - 1 - (8 * q + k) = (24 - 8 * q) + (7 - k) := by omega
      rw [hs, Nat.pow_add, ← Nat.div_div_eq_div_mul]
      generalize s.toNat / 2 ^ (24 - 8 * q) = N
      have hk8 : 2 ^ (7 - k) * 2 * 2 ^ k = 256 := by
        rw [Nat.mul_assoc, Nat.mul_comm 2, ← Nat.mul_assoc, ← Nat.pow_add, show 7 - k + k = 7 by omega]
      have : N % 256 / 2 ^ (7 - k) % 2 = N / 2 ^ (7 - k) % 2 := by
        rw [← hk8, Nat.mul_assoc, Nat.mod_mul_right_div_self, Nat.mod_mul_right_mod]
      exact this
    rw [e2]
    rcases Nat.mod_two_eq_zero_or_one (s.toNat / 2 ^ (32 - 1 - (8 * q + k))) with h | h <;> rw [h] <;> rfl
  have fd : ∀ n : Nat, Int.fdiv (V s) (2 ^ n) = ((s.toNat / 2 ^ n : Nat) : Int) := fun n => by
    unfold V
    rw [Int.fdiv_eq_ediv_of_nonneg _ (Int.le_of_lt (Int.pow_pos (by omega)))]
    simp
  have hw : ∀ m : Nat, IntKind.wrap .u8 (m : Int) = ((m % 256 : Nat) : Int) := fun m => by rw [cu8]; omega
  have hcase : i = 8 * (i / 8) + i % 8 := by omega
  rw [hcase]
  refine key (i / 8) (i % 8) (by omega) (by omega) ?_
  have : i / 8 = 0 ∨ i / 8 = 1 ∨ i / 8 = 2 ∨ i / 8 = 3 := by omega
  rcases this with h | h | h | h <;> rw [h]
  · show IntKind.wrap .u8 (Int.fdiv (V s) (2 ^ (24 : Nat))) = _
    rw [fd, hw]
  · show IntKind.wrap .u8 (Int.fdiv (V s) (2 ^ (16 : Nat))) = _
    rw [fd, hw]
  · show IntKind.wrap .u8 (Int.fdiv (V s) (2 ^ (8 : Nat))) = _
    rw [fd, hw]
  · show IntKind.wrap .u8 (V s) = _
    unfold V
    rw [hw]; simp
theorem whole_run {bs : List Int} (hb : ∀ v ∈ bs, 0 ≤ v ∧ v < 256) (h : wholeB bs = true) : runB (dgB bs) 0 1024 4294967295#32 = 0#32 := by
  have hl := wholeB_len h
  unfold wholeB at h
  rw [decide_eq_true hl, Bool.true_and, beq_iff_eq] at h
  have hs : sumB (bs.take 124) = runB (dgB bs) 0 992 4294967295#32 := by
    have e := sum_run (bs := bs.take 124) (fun v hv => hb v (List.mem_of_mem_take hv)) 124 0 4294967295#32 (by simp; omega)
    rw [List.drop_zero] at e
    unfold sumB
    rw [e]
    exact runB_congr _ _ _ fun j h1 h2 => dgB_take (by omega)
  have e1 : runB (dgB bs) 0 1024 4294967295#32 = runB (dgB bs) (0 + 992) 32 (runB (dgB bs) 0 992 4294967295#32) := runB_split (dgB bs) 32 992 0 _
  rw [e1, ← hs]
  rw [runB_word 32 (sumB (bs.take 124)) (0 + 992) _ (Nat.le_refl _) (fun i hi => ?_) fun i hi => ?_, BitVec.xor_self, stepsB_zero]
  · rw [← sum4_digit _ i hi, h]
    unfold dgB digB
    have : (bs.drop 124).getD (i / 8) 0 = bs.getD ((0 + 992 + i) / 8) 0 := by
      rw [List.getD_eq_getElem?_getD, List.getD_eq_getElem?_getD, List.getElem?_drop, show (0 + 992 + i) / 8 = 124 + i / 8 by omega]
    rw [this, show (0 + 992 + i) % 8 = i % 8 by omega]
  · rw [BitVec.getMsbD, decide_eq_false (by omega), Bool.false_and]
theorem burst_found {bs cs : List Int} (hb : ∀ v ∈ bs, 0 ≤ v ∧ v < 256) (hc : ∀ v ∈ cs, 0 ≤ v ∧ v < 256) (h : wholeB bs = true) {B : BitVec 32} (hB : B ≠ 0#32) {at_ : Nat} (ha : at_ ≤ 992)
    (hd : ∀ j, dgB cs j = (dgB bs j ^^ (decide (at_ ≤ j) && (decide (j < at_ + 32) && B.getLsbD (j - at_))))) : wholeB cs = false := by
  cases hw : wholeB cs with
  | false => rfl
  | true =>
    exfalso
    have h1 := whole_run hb h
    have h2 := whole_run hc hw
    have h3 := runB_lin (dgB bs) (fun j => decide (at_ ≤ j) && (decide (j < at_ + 32) && B.getLsbD (j - at_))) 1024 0 4294967295#32 0#32
    rw [BitVec.xor_zero, h1, BitVec.zero_xor] at h3
    rw [runB_congr (g := fun j => dgB bs j ^^ (decide (at_ ≤ j) && (decide (j < at_ + 32) && B.getLsbD (j - at_)))) 1024 0 _ fun j _ _ => hd j, h3] at h2
    rw [show (1024 : Nat) = at_ + (32 + (992 - at_)) by omega, runB_split, runB_split] at h2
    rw [runB_none at_ 0 _ fun j _ hj => by rw [decide_eq_false (by omega), Bool.false_and], stepsB_zero] at h2
    rw [runB_none (992 - at_) _ _ fun j hj _ => by rw [decide_eq_false (p := j < at_ + 32) (by omega), Bool.false_and, Bool.and_false]] at h2
    have h4 := stepsB_inj0 _ h2
    rw [runB_word 32 B.reverse (0 + at_) _ (Nat.le_refl _) (fun i hi => ?_) fun i hi => ?_] at h4
    · have h5 := stepsB_inj0 _ h4
      rw [BitVec.zero_xor] at h5
      apply hB
      apply BitVec.eq_of_getLsbD_eq
      intro i hi
      have := congrArg (fun v => BitVec.getMsbD v i) h5
      simp only [BitVec.getMsbD_reverse] at this
      rw [this]; simp
    · rw [BitVec.getMsbD_reverse, decide_eq_true (by omega), decide_eq_true (by omega), Bool.true_and, Bool.true_and, show 0 + at_ + i - at_ = i by omega]
    · rw [BitVec.getMsbD, decide_eq_false (by omega), Bool.false_and]
end Go.Proofs.YtnjenjbodcihmaaGreat
namespace Go.Proofs.YtnjenjbodcihmaaGreat
open Go Go.Proofs.YtnjenjbodcihmaaGreat.E
set_option linter.unusedVariables false
set_option linter.unusedSimpArgs false
theorem wu8 {n : Int} (h : 0 ≤ n ∧ n < 256) : IntKind.wrap .u8 n = n := by simp [IntKind.wrap, IntKind.signed, IntKind.bits]; omega
theorem refPut_loop {μ0 : AMem} (h0 : WF μ0) {v : Int} :
    ∀ (k : Nat) (μ : AMem) (y : SV) (zs : List Int), k ≤ 63 → zs.length + k ≤ 1000000 → Same μ0 μ → OwnRow μ0.next μ .u8 5 y zs →
      ∃ y' μ', overdubref01_Bits_Put_L1 [.s (.int .i64 v)] [.s y, .s (.int .i64 ((k : Int) - 1))] μ = some (.exit 0, [.s y'], μ') ∧ Same μ0 μ' ∧ OwnRow μ0.next μ' .u8 5 y' (zs ++ putD v k)
  | 0, μ, y, zs, hk, hl, hs, hy => by
    rw [overdubref01_Bits_Put_L1_eq, overdubref01_Bits_Put_L1_B_eq, putD, List.append_nil]
    simp -implicitDefEqProofs (disch := omega) only [sw, ss]
    exact ⟨y, μ, rfl, hs, hy⟩
  | k + 1, μ, y, zs, hk, hl, hs, hy => by
    obtain ⟨y', μ', p1, p2, p3⟩ := pushS (B := 1) (a := 7) (b := 8) (n := 10) (q := some 1) h0 hs hy (v / 2 ^ k % 2) (by omega) (by omega) (by omega) (by omega) (by omega)
    obtain ⟨y2, μ2, q1, q2, q3⟩ := refPut_loop h0 (v := v) k μ' y' _ (by omega) (by simp; omega) p2 p3
    rw [List.append_assoc] at q3
    refine ⟨y2, μ2, ?_, q2, q3⟩
    have e0 : ((k + 1 : Nat) : Int) - 1 = (k : Int) := by omega
    have hu := u64n (n := k) (by omega)
    have hmin : min (Int.toNat (k : Int)) (IntKind.bits .i64) = k := by show min _ 64 = k; omega
    have hw := wu8 (n := v / 2 ^ k % 2) (by omega)
    have ei : IntKind.wrap .i64 ((k : Int) - 1) = (k : Int) - 1 := wr (by omega)
    rw [e0, overdubref01_Bits_Put_L1_eq, overdubref01_Bits_Put_L1_B_eq]
    simp -implicitDefEqProofs only [ge_t (show (0 : Int) ≤ k by omega), hu, if_neg (show ¬ (k : Int) < 0 by omega), hmin, and_one, fdivp2, hw, p1, ei, ss]
    exact q1
theorem refPut_is {μ : AMem} (h0 : WF μ) {x : SV} {ds : List Int} (hx : IsRow μ .u8 x ds) (hl : ds.length ≤ 900000) (v n : Int) :
    ((n < 0 ∨ n > 62) → overdubref01_Bits_Put [.s x, .s (.int .i64 v), .s (.int .i64 n)] μ = some (.tuple [.s x, .s (.bool false)], μ)) ∧
    (0 ≤ n ∧ n ≤ 62 → ∃ y μ', overdubref01_Bits_Put [.s x, .s (.int .i64 v), .s (.int .i64 n)] μ = some (.tuple [.s y, .s (.bool true)], μ') ∧ Same μ μ' ∧ OwnRow μ.next μ' .u8 5 y (ds ++ putD v n.toNat)) := by
  refine ⟨fun hn => ?_, fun hn => ?_⟩
  · rw [overdubref01_Bits_Put_eq]
    by_cases h1 : n < 0
    · simp -implicitDefEqProofs (disch := omega) only [sw, ss]
    · simp -implicitDefEqProofs (disch := omega) only [sw, ss]
  · obtain ⟨y, m, g1, g2, g3⟩ := copyS (e := 5) (B := 1) (b := 1) (n := 3) h0 (Keep.refl h0) hx (by omega) (by omega) (by omega)
    obtain ⟨y2, m2, q1, q2, q3⟩ := refPut_loop h0 (v := v) n.toNat m y ds (by omega) (by omega) g2 g3
    have e0 : ((n.toNat : Nat) : Int) - 1 = n - 1 := by omega
    rw [e0] at q1
    refine ⟨y2, m2, ?_, q2, q3⟩
    have c1 := lt_f (a := n) (b := 0) (by omega)
    have c2 := gt_f (a := n) (b := 62) (by omega)
    have c3 : IntKind.wrap .i64 (n - 1) = n - 1 := wr (by omega)
    rw [overdubref01_Bits_Put_eq]
    simp -implicitDefEqProofs only [c1, c2, c3, g1, q1, ss]
theorem refOnes_loop {μ0 : AMem} (h0 : WF μ0) {n : Nat} (hn : n ≤ 1024) :
    ∀ (k i : Nat) (μ : AMem) (y : SV) (zs : List Int), i + k = n → zs.length + k ≤ 1000000 → Same μ0 μ → OwnRow μ0.next μ .u8 5 y zs →
      ∃ y' μ', overdubref01_Bits_Ones_L1 [.s (.int .i64 n)] [.s y, .s (.int .i64 i)] μ = some (.exit 0, [.s y'], μ') ∧ Same μ0 μ' ∧ OwnRow μ0.next μ' .u8 5 y' (zs ++ List.replicate k 1)
  | 0, i, μ, y, zs, hi, hl, hs, hy => by
    rw [overdubref01_Bits_Ones_L1_eq, overdubref01_Bits_Ones_L1_B_eq, List.replicate_zero, List.append_nil]
    simp -implicitDefEqProofs (disch := omega) only [sw, ss]
    exact ⟨y, μ, rfl, hs, hy⟩
  | k + 1, i, μ, y, zs, hi, hl, hs, hy => by
    obtain ⟨y', μ', p1, p2, p3⟩ := pushS (B := 1) (a := 1) (b := 2) (n := 4) (q := some 1) h0 hs hy 1 (by omega) (by omega) (by omega) (by omega) (by omega)
    obtain ⟨y2, μ2, q1, q2, q3⟩ := refOnes_loop h0 hn k (i + 1) μ' y' _ (by omega) (by simp; omega) p2 p3
    rw [nsu] at q1
    rw [List.append_assoc] at q3
    refine ⟨y2, μ2, ?_, q2, q3⟩
    rw [overdubref01_Bits_Ones_L1_eq, overdubref01_Bits_Ones_L1_B_eq]
    simp -implicitDefEqProofs (disch := omega) only [sw, ss, p1]
    exact q1
theorem refOnes_is {μ : AMem} (h0 : WF μ) {x : SV} {ds : List Int} (hx : IsRow μ .u8 x ds) (hl : ds.length ≤ 900000) (n : Int) (hn : 0 ≤ n ∧ n ≤ 1024) :
    ∃ y μ', overdubref01_Bits_Ones [.s x, .s (.int .i64 n)] μ = some (.tuple [.s y, .s (.bool true)], μ') ∧ Same μ μ' ∧ OwnRow μ.next μ' .u8 5 y (ds ++ List.replicate n.toNat 1 ++ [0]) := by
  obtain ⟨y, m, g1, g2, g3⟩ := copyS (e := 5) (B := 1) (b := 1) (n := 3) h0 (Keep.refl h0) hx (by omega) (by omega) (by omega)
  obtain ⟨y2, m2, q1, q2, q3⟩ := refOnes_loop h0 (n := n.toNat) (by omega) n.toNat 0 m y ds (by omega) (by omega) g2 g3
  rw [n0, show ((n.toNat : Nat) : Int) = n by omega] at q1
  obtain ⟨y3, m3, p1, p2, p3⟩ := pushS (B := 1) (a := 1) (b := 2) (n := 5) (q := some 1) h0 q2 q3 0 (by omega) (by simp; omega) (by omega) (by omega) (by omega)
  refine ⟨y3, m3, ?_, p2, p3⟩
  have c1 := lt_f (a := n) (b := 0) (by omega)
  have c2 := gt_f (a := n) (b := 1024) (by omega)
  rw [overdubref01_Bits_Ones_eq]
  simp -implicitDefEqProofs only [c1, c2, g1, q1, p1, ss]
theorem orV_fin : ∀ v : Fin 256, ∀ r : Fin 8, IntKind.wrap .u8 (BitVec.toNat ((BitVec.ofInt (IntKind.bits .u8) (v.val : Int)) ||| (BitVec.ofInt (IntKind.bits .u8) (IntKind.wrap .u8 (1 * 2 ^ (7 - r.val)))))) = orB (v.val : Int) r.val ∧
    IntKind.wrap .u8 (BitVec.toNat ((BitVec.ofInt (IntKind.bits .u8) (v.val : Int)) ||| (BitVec.ofInt (IntKind.bits .u8) (IntKind.wrap .u8 (0 * 2 ^ (7 - r.val)))))) = (v.val : Int) := by decide +kernel
theorem orV {v : Int} (h : 0 ≤ v ∧ v < 256) {r : Nat} (hr : r < 8) {d : Int} (hd : d = 0 ∨ d = 1) : IntKind.wrap .u8 (BitVec.toNat ((BitVec.ofInt (IntKind.bits .u8) v) ||| (BitVec.ofInt (IntKind.bits .u8) (IntKind.wrap .u8 (d * 2 ^ (7 - r)))))) = if d = 1 then orB v r else v := by
  have := orV_fin ⟨v.toNat, by omega⟩ ⟨r, hr⟩
  have e : ((v.toNat : Nat) : Int) = v := by omega
  simp only [e] at this
  rcases hd with rfl | rfl
  · rw [if_neg (by omega)]; exact this.2
  · rw [if_pos rfl]; exact this.1
def part (bs ds : List Int) (i : Nat) : Prop := bs.length = (ds.length + 7) / 8 ∧ (∀ v ∈ bs, 0 ≤ v ∧ v < 256) ∧ ∀ j, digB bs j = if j < i then ds.getD j 0 else 0
theorem part_step {bs ds : List Int} {i : Nat} (h : part bs ds i) (hi : i < ds.length) (hd : ds.getD i 0 = 0 ∨ ds.getD i 0 = 1) : part (bs.set (i / 8) (if ds.getD i 0 = 1 then orB (bs.getD (i / 8) 0) (i % 8) else bs.getD (i / 8) 0)) ds (i + 1) := by
  obtain ⟨h1, h2, h3⟩ := h
  have hx : i / 8 < bs.length := by omega
  have hv := h2 _ (getD_mem hx)
  obtain ⟨o1, o2⟩ := orB_dig hv (r := i % 8) (by omega)
  refine ⟨by simp; omega, fun v hv' => ?_, fun j => ?_⟩
  · rcases List.mem_or_eq_of_mem_set hv' with h | h
    · exact h2 v h
    · rw [h]; split
      · exact o1
      · exact hv
  · unfold digB
    rw [getD_setB hx]
    have h3j := h3 j
    unfold digB at h3j
    by_cases c : j / 8 = i / 8
    · rw [if_pos c]
      rw [c] at h3j
      rcases hd with hd | hd
      · rw [if_neg (by omega), h3j]
        by_cases c2 : j = i
        · subst c2; rw [if_neg (by omega), if_pos (by omega), hd]
        · by_cases c3 : j < i
          · rw [if_pos c3, if_pos (by omega)]
          · rw [if_neg c3, if_neg (by omega)]
      · rw [if_pos hd, o2 _ (by omega)]
        by_cases c2 : j = i
        · subst c2; rw [if_pos rfl, if_pos (by omega), hd]
        · rw [if_neg (by omega), h3j]
          by_cases c3 : j < i
          · rw [if_pos c3, if_pos (by omega)]
          · rw [if_neg c3, if_neg (by omega)]
    · rw [if_neg c, h3j]
      by_cases c3 : j < i
      · rw [if_pos c3, if_pos (by omega)]
      · rw [if_neg c3, if_neg (by omega)]
theorem refBytes_loop {μ0 : AMem} (h0 : WF μ0) {x y : SV} {ds : List Int} (hl : ds.length ≤ 900000) (h01 : ∀ v ∈ ds, v = 0 ∨ v = 1) (hap : Apart y x) :
    ∀ (k i : Nat) (μ : AMem) (bs : List Int), i + k = ds.length → Same μ0 μ → IsRow μ .u8 x ds → OwnRow μ0.next μ .u8 5 y bs → part bs ds i →
      ∃ bs' μ', overdubref01_Bits_Bytes_L1 [.s x, .s y, .s (.int .i64 ds.length)] [.s (.int .i64 i)] μ = some (.exit 0, [.s y], μ') ∧ Same μ0 μ' ∧ OwnRow μ0.next μ' .u8 5 y bs' ∧ part bs' ds ds.length
  | 0, i, μ, bs, h, hs, hx, hy, hp => by
    obtain rfl : i = ds.length := by omega
    rw [overdubref01_Bits_Bytes_L1_eq, overdubref01_Bits_Bytes_L1_B_eq]
    simp -implicitDefEqProofs (disch := omega) only [sw, ss]
    exact ⟨bs, μ, rfl, hs, hy, hp⟩
  | k + 1, i, μ, bs, h, hs, hx, hy, hp => by
    have hi : i < ds.length := by omega
    have hd := h01 _ (getD_mem hi)
    have hb8 : i / 8 < bs.length := by have := hp.1; omega
    have hv := hp.2.1 _ (getD_mem hb8)
    obtain ⟨m1, s1, s2, s3, s4⟩ := storeK hs.wf hy (i := i / 8) hb8 (if ds.getD i 0 = 1 then orB (bs.getD (i / 8) 0) (i % 8) else bs.getD (i / 8) 0)
    have hs1 := keepSame h0 hs s2 fun j hj => (own_lives hy hj).1
    obtain ⟨bs', μ', q1, q2, q3, q4⟩ := refBytes_loop h0 hl h01 hap k (i + 1) m1 _ (by omega) hs1 (rowKeep hx s2 hap) s3 (part_step hp hi hd)
    rw [nsu] at q1
    refine ⟨bs', μ', ?_, q2, q3, q4⟩
    have e1 : IntKind.wrap .i64 (Int.tdiv (i : Int) 8) = ((i / 8 : Nat) : Int) := by rw [Int.tdiv_eq_ediv_of_nonneg (by omega), wr (by omega)]; omega
    have e2 : IntKind.wrap .i64 (7 - Int.tmod (i : Int) 8) = ((7 - i % 8 : Nat) : Int) := by rw [Int.tmod_eq_emod_of_nonneg (by omega), wr (by omega)]; omega
    have e3 := u64n (n := 7 - i % 8) (by omega)
    have e4 : min (Int.toNat ((7 - i % 8 : Nat) : Int)) (IntKind.bits .u8) = 7 - i % 8 := by show min _ 8 = _; omega
    have e5 := orV hv (r := i % 8) (by omega) hd
    have c1 := lt_t (a := (i : Int)) (b := (ds.length : Int)) (by omega)
    have hyi := fun {R : Type} (K : AV → Option R) => hy.row.ind (i := ((i / 8 : Nat) : Int)) (by omega) (by omega) K
    have hyl := fun {R : Type} (K : AV → Option R) => hy.row.load (i := ((i / 8 : Nat) : Int)) (by omega) (by omega) K
    have hxi := fun {R : Type} (K : AV → Option R) => hx.ind (i := (i : Int)) (by omega) (by omega) K
    have hxl := fun {R : Type} (K : AV → Option R) => hx.load (i := (i : Int)) (by omega) (by omega) K
    rw [nat_toNat] at hyl hxl
    have ei : IntKind.wrap .i64 ((i : Int) + 1) = (i : Int) + 1 := wr (by omega)
    rw [overdubref01_Bits_Bytes_L1_eq, overdubref01_Bits_Bytes_L1_B_eq]
    simp -implicitDefEqProofs only [c1, e1, e2, e3, if_neg (show ¬ ((7 - i % 8 : Nat) : Int) < 0 by omega), e4, hyi, hyl, hxi, hxl, e5, s1, ei, ss]
    exact q1
theorem refBytes_is {μ : AMem} (h0 : WF μ) {x : SV} {ds : List Int} (hx : IsRow μ .u8 x ds) (hl : ds.length ≤ 900000) (h01 : ∀ v ∈ ds, v = 0 ∨ v = 1) :
    ∃ y bs μ', overdubref01_Bits_Bytes [.s x] μ = some (.s y, μ') ∧ Same μ μ' ∧ OwnRow μ.next μ' .u8 5 y bs ∧ holds bs ds := by
  have hq : IntKind.wrap .i64 (Int.tdiv (IntKind.wrap .i64 (((ds.length : Nat) : Int) + 7)) 8) = (((ds.length + 7) / 8 : Nat) : Int) := by
    rw [wr (n := ((ds.length : Nat) : Int) + 7) (by omega), Int.tdiv_eq_ediv_of_nonneg (by omega), wr (by omega)]; omega
  obtain ⟨L, hL⟩ : ∃ L, L = (ds.length + 7) / 8 := ⟨_, rfl⟩
  have hif : 0 ≤ (L : Int) ∧ (L : Int) ≤ (L : Int) ∧ (L : Int) ≤ 9223372036854775807 ∧ ((1 : Nat) : Int) * (L : Int) ≤ 140737488355328 := by omega
  have k1 := Same.bumpSet h0 (n := 6) (a := 4) (by omega) (rowObj (zerosA [.int .u8 0] L) 1 5 (some L))
  have z1 : OwnRow μ.next ((μ.bump 6).set (μ.next + 4) (rowObj (zerosA [.int .u8 0] L) 1 5 (some L))) .u8 5 (.slice (μ.next + 4) 0 0 L) (List.replicate L 0) :=
    OwnRow.new (o := rowObj (zerosA [.int .u8 0] L) 1 5 (some L)) (by simp) (by omega) (by simp) rfl rfl rfl rfl (by show zerosA _ _ = _; rw [zerosA_rep]; simp)
  have hp : part (List.replicate L 0) ds 0 := by
    refine ⟨by rw [List.length_replicate, hL], fun v hv => by rw [(List.mem_replicate.mp hv).2]; omega, fun j => ?_⟩
    rw [if_neg (by omega)]
    unfold digB
    have : (List.replicate L (0 : Int)).getD (j / 8) 0 = 0 := by rw [List.getD_eq_getElem?_getD, List.getElem?_replicate]; split <;> rfl
    rw [this, digV_zero]
  obtain ⟨bs, m, q1, q2, q3, q4⟩ := refBytes_loop h0 hl h01 (apart_old h0 z1 hx) ds.length 0 _ _ (by omega) k1 (hx.same k1) z1 hp
  rw [n0] at q1
  refine ⟨_, bs, m, ?_, q2, q3, q4.1, q4.2.1, fun j => ?_⟩
  · rw [overdubref01_Bits_Bytes_eq]
    simp -implicitDefEqProofs only [hx.len, hq, ← hL, nat_toNat, ss]
    rw [if_pos hif]
    simp -implicitDefEqProofs only [q1, ss]
  · rw [q4.2.2]
    split
    · rfl
    · rw [getD_out (by omega)]
end Go.Proofs.YtnjenjbodcihmaaGreat
namespace Go.Proofs.YtnjenjbodcihmaaGreat
open Go Go.Proofs.YtnjenjbodcihmaaGreat.E
set_option linter.unusedVariables false
set_option linter.unusedSimpArgs false
theorem refRice_is {μ : AMem} (h0 : WF μ) {x : SV} {ds : List Int} (hx : IsRow μ .u8 x ds) (hl : ds.length ≤ 800000) (z k : Int) :
    (mayB z k = false → overdubref01_Bits_Rice [.s x, .s (.int .i64 z), .s (.int .i64 k)] μ = some (.tuple [.s x, .s (.bool false)], μ)) ∧
    (mayB z k = true → ∃ y μ', overdubref01_Bits_Rice [.s x, .s (.int .i64 z), .s (.int .i64 k)] μ = some (.tuple [.s y, .s (.bool true)], μ') ∧ Same μ μ' ∧ OwnRow μ.next μ' .u8 5 y (ds ++ riceD z k)) := by
  refine ⟨fun hm => ?_, fun hm => ?_⟩
  · rw [overdubref01_Bits_Rice_eq]
    simp -implicitDefEqProofs only [refMayB_is, hm, ss]
  · obtain ⟨h1, h2, h3, h4⟩ := mayB_spec hm
    have hq := quo_le h1 k.toNat
    have hu : IntKind.wrap .u64 k = k := by simp [IntKind.wrap, IntKind.signed, IntKind.bits]; omega
    have hmin : min k.toNat (IntKind.bits .i64) = k.toNat := by show min _ 64 = _; omega
    unfold riceD
    rw [overdubref01_Bits_Rice_eq]
    by_cases c : z / 2 ^ k.toNat < 24
    · obtain ⟨y1, m1, f1, k1, o1⟩ := refOnes_is h0 hx (by omega) (z / 2 ^ k.toNat) (by omega)
      obtain ⟨y2, m2, f2, k2, o2⟩ := (refPut_is k1.wf o1.row (by simp; omega) z k).2 (by omega)
      rw [if_pos c]
      refine ⟨y2, m2, ?_, k1.trans k2, ?_⟩
      · simp -implicitDefEqProofs only [refMayB_is, hm, hu, if_neg (show ¬ k < 0 by omega), hmin, fdiv_pow, lt_t c, f1, f2, ss]
      · rw [← List.append_assoc, ← List.append_assoc]; exact o2.less k1.next
    · obtain ⟨y1, m1, f1, k1, o1⟩ := (refPut_is h0 hx (by omega) 16777215 24).2 (by omega)
      obtain ⟨y2, m2, f2, k2, o2⟩ := (refPut_is k1.wf o1.row (by simp [putD_len]; omega) z 32).2 (by omega)
      rw [if_neg c]
      refine ⟨y2, m2, ?_, k1.trans k2, ?_⟩
      · simp -implicitDefEqProofs only [refMayB_is, hm, hu, if_neg (show ¬ k < 0 by omega), hmin, fdiv_pow, lt_f (show (24 : Int) ≤ z / 2 ^ k.toNat by omega), f1, f2, ss]
      · rw [← List.append_assoc]; exact o2.less k1.next
end Go.Proofs.YtnjenjbodcihmaaGreat
namespace Go.Proofs.YtnjenjbodcihmaaGreat
open Go Go.Proofs.YtnjenjbodcihmaaGreat.E
set_option linter.unusedVariables false
set_option linter.unusedSimpArgs false
theorem getD_take {xs : List Int} {j k : Nat} (h : k < j) : (xs.take j).getD k 0 = xs.getD k 0 := by
  rw [List.getD_eq_getElem?_getD, List.getD_eq_getElem?_getD, List.getElem?_take, if_pos h]
theorem fg0 (zs : List Int) : fguess 0 zs = 0 := rfl
theorem fg1 {xs : List Int} {j : Nat} (h1 : 1 ≤ j) (h : j ≤ xs.length) : fguess 1 (xs.take j) = xs.getD (j - 1) 0 := by
  show 0 + 1 * (xs.take j).getD ((xs.take j).length - 1 - 0) 0 = _
  rw [List.length_take, Nat.min_eq_left h, getD_take (by omega)]; simp only [Nat.sub_zero]; omega
theorem fg2 {xs : List Int} {j : Nat} (h1 : 2 ≤ j) (h : j ≤ xs.length) : fguess 2 (xs.take j) = 2 * xs.getD (j - 1) 0 - xs.getD (j - 2) 0 := by
  show 0 + 2 * (xs.take j).getD ((xs.take j).length - 1 - 0) 0 + -1 * (xs.take j).getD ((xs.take j).length - 1 - 1) 0 = _
  rw [List.length_take, Nat.min_eq_left h, getD_take (by omega), getD_take (by omega)]
  simp only [Nat.sub_zero, Nat.sub_sub, Nat.reduceAdd]; omega
theorem fg3 {xs : List Int} {j : Nat} (h1 : 3 ≤ j) (h : j ≤ xs.length) : fguess 3 (xs.take j) = 3 * xs.getD (j - 1) 0 - 3 * xs.getD (j - 2) 0 + xs.getD (j - 3) 0 := by
  show 0 + 3 * (xs.take j).getD ((xs.take j).length - 1 - 0) 0 + -3 * (xs.take j).getD ((xs.take j).length - 1 - 1) 0 + 1 * (xs.take j).getD ((xs.take j).length - 1 - 2) 0 = _
  rw [List.length_take, Nat.min_eq_left h, getD_take (by omega), getD_take (by omega), getD_take (by omega)]
  simp only [Nat.sub_zero, Nat.sub_sub, Nat.reduceAdd]; omega
theorem fg4 {xs : List Int} {j : Nat} (h1 : 4 ≤ j) (h : j ≤ xs.length) : fguess 4 (xs.take j) = 4 * xs.getD (j - 1) 0 - 6 * xs.getD (j - 2) 0 + 4 * xs.getD (j - 3) 0 - xs.getD (j - 4) 0 := by
  show 0 + 4 * (xs.take j).getD ((xs.take j).length - 1 - 0) 0 + -6 * (xs.take j).getD ((xs.take j).length - 1 - 1) 0 + 4 * (xs.take j).getD ((xs.take j).length - 1 - 2) 0 + -1 * (xs.take j).getD ((xs.take j).length - 1 - 3) 0 = _
  rw [List.length_take, Nat.min_eq_left h, getD_take (by omega), getD_take (by omega), getD_take (by omega), getD_take (by omega)]
  simp only [Nat.sub_zero, Nat.sub_sub, Nat.reduceAdd]; omega
theorem fg_next {xs : List Int} {p : Int} (hp : 0 ≤ p ∧ p ≤ 3) {j : Nat} (hj : p ≤ j) (h : j < xs.length) :
    fguess (p + 1) (xs.take (j + 1)) = fguess p (xs.take (j + 1)) + xs.getD j 0 - fguess p (xs.take j) := by
  have : p = 0 ∨ p = 1 ∨ p = 2 ∨ p = 3 := by omega
  rcases this with rfl | rfl | rfl | rfl
  · rw [show (0 : Int) + 1 = 1 from rfl, fg1 (by omega) (by omega), fg0, fg0]; simp
  · rw [show (1 : Int) + 1 = 2 from rfl, fg2 (by omega) (by omega), fg1 (by omega) (by omega), fg1 (by omega) (by omega), show j + 1 - 1 = j by omega, show j + 1 - 2 = j - 1 by omega]; omega
  · rw [show (2 : Int) + 1 = 3 from rfl, fg3 (by omega) (by omega), fg2 (by omega) (by omega), fg2 (by omega) (by omega), show j + 1 - 1 = j by omega, show j + 1 - 2 = j - 1 by omega, show j + 1 - 3 = j - 2 by omega]; omega
  · rw [show (3 : Int) + 1 = 4 from rfl, fg4 (by omega) (by omega), fg3 (by omega) (by omega), fg3 (by omega) (by omega), show j + 1 - 1 = j by omega, show j + 1 - 2 = j - 1 by omega, show j + 1 - 3 = j - 2 by omega, show j + 1 - 4 = j - 3 by omega]; omega
theorem leftZ_getD (g : List Int → Int) (n : Nat) (xs : List Int) {i : Nat} (h : n + i < xs.length) : (leftZ g n xs).getD i 0 = xs.getD (n + i) 0 - g (xs.take (n + i)) := by
  unfold leftZ
  rw [List.getD_eq_getElem?_getD, List.getElem?_map, List.getElem?_range' (by omega)]
  simp only [Option.map_some, Nat.one_mul, Option.getD_some]
theorem leftZ_len (g : List Int → Int) (n : Nat) (xs : List Int) : (leftZ g n xs).length = xs.length - n := by simp [leftZ]
end Go.Proofs.YtnjenjbodcihmaaGreat
namespace Go.Proofs.YtnjenjbodcihmaaGreat
open Go Go.Proofs.YtnjenjbodcihmaaGreat.E
set_option linter.unusedVariables false
set_option linter.unusedSimpArgs false
theorem refSample_is {μ : AMem} (h0 : WF μ) {x : SV} {ds : List Int} (hx : IsRow μ .u8 x ds) (hl : ds.length ≤ 900000) {v : Int} (hv : -8388608 ≤ v ∧ v ≤ 8388607) :
    ∃ y μ', overdubref05_sample [.s x, .s (.int .i64 v)] μ = some (.s y, μ') ∧ Same μ μ' ∧ OwnRow μ.next μ' .u8 5 y (ds ++ putD (v + 8388608) 24) := by
  obtain ⟨y, m, e1, k1, o1⟩ := (refPut_is h0 hx hl (v + 8388608) 24).2 (by omega)
  refine ⟨y, m, ?_, k1, o1⟩
  rw [overdubref05_sample_eq]
  simp -implicitDefEqProofs only [smp_wr hv, e1, ss]
theorem refSmp2_loop {μ0 : AMem} (h0 : WF μ0) {y : SV} {xs : List Int} (hy : IsRow μ0 .i64 y xs) (ht : tame xs) (hl : xs.length ≤ 1000) :
    ∀ (k i : Nat) (μ : AMem) (r : SV) (ds : List Int), i + k = xs.length → ds.length + 24 * k ≤ 800000 → Same μ0 μ → IsRow μ .u8 r ds →
      ∃ r' μ', overdubref05_digits_L2 [.s y, .s (.int .i64 (xs.length : Int))] [.s r, .s (.int .i64 (i : Int))] μ = some (.exit 3, [.s r'], μ') ∧ Same μ0 μ' ∧ IsRow μ' .u8 r' (ds ++ smpD (xs.drop i))
  | 0, i, μ, r, ds, h, hd, hs, hr => by
    rw [overdubref05_digits_L2_eq, overdubref05_digits_L2_B_eq, List.drop_eq_nil_of_le (by omega)]
    refine ⟨r, μ, ?_, hs, by simpa [smpD] using hr⟩
    simp -implicitDefEqProofs (disch := omega) only [sw, ss]
  | k + 1, i, μ, r, ds, h, hd, hs, hr => by
    have hi : i < xs.length := by omega
    have hy1 := hy.same hs
    obtain ⟨r1, m1, e1, k1, o1⟩ := refSample_is hs.wf hr (by omega) (getD_tame ht i)
    obtain ⟨r2, m2, q1, q2, q3⟩ := refSmp2_loop h0 hy ht hl k (i + 1) m1 r1 _ (by omega) (by rw [List.length_append, putD_len]; omega) (hs.trans k1) o1.row
    have ei : IntKind.wrap .i64 ((i : Int) + 1) = ((i + 1 : Nat) : Int) := by rw [wr (by omega)]; rfl
    refine ⟨r2, m2, ?_, q2, ?_⟩
    · rw [overdubref05_digits_L2_eq, overdubref05_digits_L2_B_eq]
      simp -implicitDefEqProofs (disch := omega) only [sw, ss, hy1.ind, hy1.load, nat_toNat, e1, ei]
      exact q1
    · rw [drop_cons hi, show smpD (xs.getD i 0 :: xs.drop (i + 1)) = putD (xs.getD i 0 + 8388608) 24 ++ smpD (xs.drop (i + 1)) from rfl, ← List.append_assoc]
      exact q3
theorem smp_step {xs : List Int} {i n : Nat} (hi : i < n) (hn : n ≤ xs.length) : smpD ((xs.take n).drop i) = putD (xs.getD i 0 + 8388608) 24 ++ smpD ((xs.take n).drop (i + 1)) := by
  rw [drop_cons (by simp; omega), getD_take hi]
  rfl
theorem refSmp3_loop {μ0 : AMem} (h0 : WF μ0) {y s10 : SV} {xs : List Int} {p : Int} {n : Nat} (hp : IntKind.wrap .i64 (p - 2) = (n : Int)) (hn : n ≤ xs.length) (hy : IsRow μ0 .i64 y xs) (ht : tame xs) (hl : xs.length ≤ 1000) :
    ∀ (k i : Nat) (μ : AMem) (r : SV) (ds : List Int), i + k = n → ds.length + 24 * k ≤ 800000 → Same μ0 μ → IsRow μ .u8 r ds →
      ∃ r' μ', overdubref05_digits_L3 [.s (.int .i64 p), .s y, .s s10] [.s r, .s (.int .i64 (i : Int))] μ = some (.exit 5, [.s r', .s s10], μ') ∧ Same μ0 μ' ∧ IsRow μ' .u8 r' (ds ++ smpD ((xs.take n).drop i))
  | 0, i, μ, r, ds, h, hd, hs, hr => by
    rw [overdubref05_digits_L3_eq, overdubref05_digits_L3_B_eq, List.drop_eq_nil_of_le (by simp; omega), hp]
    refine ⟨r, μ, ?_, hs, by simpa [smpD] using hr⟩
    simp -implicitDefEqProofs (disch := omega) only [sw, ss]
  | k + 1, i, μ, r, ds, h, hd, hs, hr => by
    have hy1 := hy.same hs
    obtain ⟨r1, m1, e1, k1, o1⟩ := refSample_is hs.wf hr (by omega) (getD_tame ht i)
    obtain ⟨r2, m2, q1, q2, q3⟩ := refSmp3_loop (s10 := s10) h0 hp hn hy ht hl k (i + 1) m1 r1 _ (by omega) (by rw [List.length_append, putD_len]; omega) (hs.trans k1) o1.row
    have ei : IntKind.wrap .i64 ((i : Int) + 1) = ((i + 1 : Nat) : Int) := by rw [wr (by omega)]; rfl
    refine ⟨r2, m2, ?_, q2, ?_⟩
    · rw [overdubref05_digits_L3_eq, overdubref05_digits_L3_B_eq, hp]
      simp -implicitDefEqProofs (disch := omega) only [sw, ss, hy1.ind, hy1.load, nat_toNat, e1, ei]
      exact q1
    · rw [smp_step (by omega) hn, ← List.append_assoc]
      exact q3
theorem refSmp4_loop {μ0 : AMem} (h0 : WF μ0) {y s13 s15 : SV} {xs : List Int} {n : Nat} (hn : n ≤ xs.length) (hy : IsRow μ0 .i64 y xs) (ht : tame xs) (hl : xs.length ≤ 1000) :
    ∀ (k i : Nat) (μ : AMem) (r : SV) (ds : List Int), i + k = n → ds.length + 24 * k ≤ 800000 → Same μ0 μ → IsRow μ .u8 r ds →
      ∃ r' μ', overdubref05_digits_L4 [.s y, .s s13, .s s15, .s (.int .i64 (n : Int))] [.s r, .s (.int .i64 (i : Int))] μ = some (.exit 7, [.s r', .s s13, .s s15], μ') ∧ Same μ0 μ' ∧ IsRow μ' .u8 r' (ds ++ smpD ((xs.take n).drop i))
  | 0, i, μ, r, ds, h, hd, hs, hr => by
    rw [overdubref05_digits_L4_eq, overdubref05_digits_L4_B_eq, List.drop_eq_nil_of_le (by simp; omega)]
    refine ⟨r, μ, ?_, hs, by simpa [smpD] using hr⟩
    simp -implicitDefEqProofs (disch := omega) only [sw, ss]
  | k + 1, i, μ, r, ds, h, hd, hs, hr => by
    have hy1 := hy.same hs
    obtain ⟨r1, m1, e1, k1, o1⟩ := refSample_is hs.wf hr (by omega) (getD_tame ht i)
    obtain ⟨r2, m2, q1, q2, q3⟩ := refSmp4_loop (s13 := s13) (s15 := s15) h0 hn hy ht hl k (i + 1) m1 r1 _ (by omega) (by rw [List.length_append, putD_len]; omega) (hs.trans k1) o1.row
    have ei : IntKind.wrap .i64 ((i : Int) + 1) = ((i + 1 : Nat) : Int) := by rw [wr (by omega)]; rfl
    refine ⟨r2, m2, ?_, q2, ?_⟩
    · rw [overdubref05_digits_L4_eq, overdubref05_digits_L4_B_eq]
      simp -implicitDefEqProofs (disch := omega) only [sw, ss, hy1.ind, hy1.load, nat_toNat, e1, ei]
      exact q1
    · rw [smp_step (by omega) hn, ← List.append_assoc]
      exact q3
theorem refCof_loop {μ0 : AMem} (h0 : WF μ0) {y s15 : SV} {cs : List Int} (hy : IsRow μ0 .i64 y cs) (hc : ∀ v ∈ cs, -32768 ≤ v ∧ v ≤ 32767) (hl : cs.length ≤ 1000) :
    ∀ (k i : Nat) (μ : AMem) (r : SV) (ds : List Int), i + k = cs.length → ds.length + 16 * k ≤ 800000 → Same μ0 μ → IsRow μ .u8 r ds →
      ∃ r' μ', overdubref05_digits_L5 [.s y, .s s15, .s (.int .i64 (cs.length : Int))] [.s r, .s (.int .i64 (i : Int))] μ = some (.exit 9, [.s r', .s s15], μ') ∧ Same μ0 μ' ∧ IsRow μ' .u8 r' (ds ++ cofD (cs.drop i))
  | 0, i, μ, r, ds, h, hd, hs, hr => by
    rw [overdubref05_digits_L5_eq, overdubref05_digits_L5_B_eq, List.drop_eq_nil_of_le (by omega)]
    refine ⟨r, μ, ?_, hs, by simpa [cofD] using hr⟩
    simp -implicitDefEqProofs (disch := omega) only [sw, ss]
  | k + 1, i, μ, r, ds, h, hd, hs, hr => by
    have hi : i < cs.length := by omega
    have hy1 := hy.same hs
    have hv := hc _ (getD_mem hi)
    obtain ⟨r1, m1, e1, k1, o1⟩ := (refPut_is hs.wf hr (by omega) (cs.getD i 0 + 32768) 16).2 (by omega)
    obtain ⟨r2, m2, q1, q2, q3⟩ := refCof_loop (s15 := s15) h0 hy hc hl k (i + 1) m1 r1 _ (by omega) (by rw [List.length_append, putD_len, show (16 : Int).toNat = 16 from rfl]; omega) (hs.trans k1) o1.row
    have ei : IntKind.wrap .i64 ((i : Int) + 1) = ((i + 1 : Nat) : Int) := by rw [wr (by omega)]; rfl
    have ev : IntKind.wrap .i64 (cs.getD i 0 + 32768) = cs.getD i 0 + 32768 := wr (by omega)
    refine ⟨r2, m2, ?_, q2, ?_⟩
    · rw [overdubref05_digits_L5_eq, overdubref05_digits_L5_B_eq]
      simp -implicitDefEqProofs (disch := omega) only [sw, ss, hy1.ind, hy1.load, nat_toNat, ev, e1, ei]
      exact q1
    · rw [drop_cons hi, show cofD (cs.getD i 0 :: cs.drop (i + 1)) = putD (cs.getD i 0 + 32768) 16 ++ cofD (cs.drop (i + 1)) from rfl, ← List.append_assoc]
      exact q3
theorem refZig_loop {μ0 : AMem} (h0 : WF μ0) {b y : SV} {l : List Int} (hy : IsRow μ0 .i64 y l) (hs0 : smallL l) (hl : l.length ≤ 1000) :
    ∀ (k i : Nat) (μ : AMem) (r : SV), i + k = l.length → Same μ0 μ → OwnRow μ0.next μ .i64 3 r ((l.take i).map zigZ) →
      ∃ r' μ', overdubref05_residuals_L1 [.s b, .s y, .s (.int .i64 (l.length : Int))] [.s r, .s (.int .i64 (i : Int))] μ = some (.exit 0, [.s b, .s r'], μ') ∧ Same μ0 μ' ∧ OwnRow μ0.next μ' .i64 3 r' (l.map zigZ)
  | 0, i, μ, r, h, hs, hr => by
    rw [overdubref05_residuals_L1_eq, overdubref05_residuals_L1_B_eq]
    rw [List.take_of_length_le (by omega)] at hr
    refine ⟨r, μ, ?_, hs, hr⟩
    simp -implicitDefEqProofs (disch := omega) only [sw, ss]
  | k + 1, i, μ, r, h, hs, hr => by
    have hi : i < l.length := by omega
    have hy1 := hy.same hs
    have hz := zig_may (hs0 _ (getD_mem hi))
    obtain ⟨r', m1, p1, p2, p3⟩ := pushS (B := 8) (a := 2) (b := 3) (n := 5) (q := some 1) h0 hs hr (zigZ (l.getD i 0)) (by omega) (by simp; omega) (by omega) (by omega) (by omega)
    rw [← take_map_snoc zigZ hi] at p3
    obtain ⟨r2, m2, q1, q2, q3⟩ := refZig_loop (b := b) h0 hy hs0 hl k (i + 1) m1 r' (by omega) p2 p3
    have ei : IntKind.wrap .i64 ((i : Int) + 1) = ((i + 1 : Nat) : Int) := by rw [wr (by omega)]; rfl
    refine ⟨r2, m2, ?_, q2, q3⟩
    rw [overdubref05_residuals_L1_eq, overdubref05_residuals_L1_B_eq]
    simp -implicitDefEqProofs (disch := omega) only [sw, ss, hy1.ind, hy1.load, nat_toNat, refZig_is, p1, ei]
    exact q1
theorem refRice_loop {μ0 : AMem} (h0 : WF μ0) {y : SV} {zs : List Int} {p : Int} (hy : IsRow μ0 .i64 y zs) (hz : ∀ v ∈ zs, mayB v p = true) (hl : zs.length ≤ 1000) :
    ∀ (k i : Nat) (μ : AMem) (r : SV) (ds : List Int), i + k = zs.length → ds.length + 56 * k ≤ 800000 → Same μ0 μ → IsRow μ .u8 r ds →
      ∃ r' μ', overdubref05_residuals_L2 [.s y, .s (.int .i64 p), .s (.int .i64 (zs.length : Int))] [.s r, .s (.int .i64 (i : Int))] μ = some (.exit 2, [.s r'], μ') ∧ Same μ0 μ' ∧ IsRow μ' .u8 r' (ds ++ ricesD p (zs.drop i))
  | 0, i, μ, r, ds, h, hd, hs, hr => by
    rw [overdubref05_residuals_L2_eq, overdubref05_residuals_L2_B_eq, List.drop_eq_nil_of_le (by omega)]
    refine ⟨r, μ, ?_, hs, by simpa [ricesD] using hr⟩
    simp -implicitDefEqProofs (disch := omega) only [sw, ss]
  | k + 1, i, μ, r, ds, h, hd, hs, hr => by
    have hi : i < zs.length := by omega
    have hy1 := hy.same hs
    have hm := hz _ (getD_mem hi)
    have hle := riceD_le hm
    obtain ⟨r1, m1, e1, k1, o1⟩ := (refRice_is hs.wf hr (by omega) (zs.getD i 0) p).2 hm
    obtain ⟨r2, m2, q1, q2, q3⟩ := refRice_loop h0 hy hz hl k (i + 1) m1 r1 _ (by omega) (by rw [List.length_append]; omega) (hs.trans k1) o1.row
    have ei : IntKind.wrap .i64 ((i : Int) + 1) = ((i + 1 : Nat) : Int) := by rw [wr (by omega)]; rfl
    refine ⟨r2, m2, ?_, q2, ?_⟩
    · rw [overdubref05_residuals_L2_eq, overdubref05_residuals_L2_B_eq]
      simp -implicitDefEqProofs (disch := omega) only [sw, ss, hy1.ind, hy1.load, nat_toNat, e1, ei]
      exact q1
    · rw [drop_cons hi, show ricesD p (zs.getD i 0 :: zs.drop (i + 1)) = riceD (zs.getD i 0) p ++ ricesD p (zs.drop (i + 1)) from rfl, ← List.append_assoc]
      exact q3
theorem refResD_is {μ : AMem} (h0 : WF μ) {b y : SV} {ds l : List Int} (hb : IsRow μ .u8 b ds) (hy : IsRow μ .i64 y l) (hs : smallL l) (hl : l.length ≤ 1000) (hd : ds.length ≤ 700000) :
    ∃ r μ', overdubref05_residuals [.s b, .s y] μ = some (.tuple [.s r, .s (.bool true)], μ') ∧ Same μ μ' ∧ IsRow μ' .u8 r (ds ++ resD l) := by
  obtain ⟨r, m1, q1, q2, q3⟩ := refZig_loop (b := b) h0 hy hs hl _ 0 μ .nilSlice (Nat.zero_add _) (Keep.refl h0) (OwnRow.nil _ _ _ _)
  rw [n0] at q1
  have hbb := refBest_is q3.row (by simp; omega)
  have hbl := best_le (l.map zigZ)
  obtain ⟨r2, m2, e2, k2, o2⟩ := (refPut_is q2.wf (hb.same q2) (by omega) (bestZ (l.map zigZ)).1 5).2 (by omega)
  obtain ⟨r3, m3, e3, k3, i3⟩ := refRice_loop (p := (bestZ (l.map zigZ)).1) q2.wf q3.row (zig_all hs hbl) (by simp; omega) _ 0 m2 r2 _ (Nat.zero_add _) (by rw [List.length_append, putD_len, show (5 : Int).toNat = 5 from rfl]; simp; omega) k2 o2.row
  rw [n0] at e3
  refine ⟨r3, m3, ?_, q2.trans k3, ?_⟩
  · rw [overdubref05_residuals_eq, hy.len]
    simp -implicitDefEqProofs only [q1, hbb, e2, (q3.row.same k2).len, e3, ss]
  · rw [List.drop_zero, List.append_assoc] at i3
    exact i3
theorem refOne_loop {μ : AMem} {y w : SV} {xs : List Int} (hy : IsRow μ .i64 y xs) (hl : xs.length ≤ 1000) :
    ∀ k i : Nat, i + k = xs.length → overdubref05_digits_L1 [.s y, .s w, .s (.int .i64 (xs.length : Int))] [.s (.int .i64 (i : Int))] μ = if (xs.drop i).all (fun v => v == xs.getD 0 0) then some (.exit 1, [.s y, .s w], μ) else some (.ret, [.s .nilSlice, .s (.bool false)], μ)
  | 0, i, h => by
    rw [overdubref05_digits_L1_eq, overdubref05_digits_L1_B_eq, List.drop_eq_nil_of_le (by omega)]
    simp -implicitDefEqProofs (disch := omega) only [sw, ss, List.all_nil, if_true]
  | k + 1, i, h => by
    have hi : i < xs.length := by omega
    have ih := refOne_loop (w := w) hy hl k (i + 1) (by omega)
    have ei : IntKind.wrap .i64 ((i : Int) + 1) = ((i + 1 : Nat) : Int) := by rw [wr (by omega)]; rfl
    have g0 := fun {R : Type} (K : AV → Option R) => hy.ind (i := 0) (by omega) (by omega) K
    have l0 := fun {R : Type} (K : AV → Option R) => hy.load (i := 0) (by omega) (by omega) K
    rw [overdubref05_digits_L1_eq, overdubref05_digits_L1_B_eq, drop_cons hi, List.all_cons]
    by_cases hc : xs.getD i 0 = xs.getD 0 0
    · simp -implicitDefEqProofs (disch := omega) only [sw, ss, hy.ind, hy.load, g0, l0, nat_toNat, Int.toNat_zero, ne_f hc, ei, eq_t hc, Bool.true_and]
      exact ih
    · simp -implicitDefEqProofs (disch := omega) only [sw, ss, hy.ind, hy.load, g0, l0, nat_toNat, Int.toNat_zero, ne_t hc, eq_f hc, Bool.false_and, Bool.false_eq_true, if_false]
theorem frameD_none {kind : Int} {xs : List Int} (h : kind < 0 ∨ kind > 18) : frameD kind xs = none := by
  unfold frameD
  rw [if_neg (by omega), if_neg (by omega), if_neg (by omega), if_neg (by omega)]
theorem refDigits_is {μ : AMem} (h0 : WF μ) {y : SV} {xs : List Int} (hy : IsRow μ .i64 y xs) (ht : tame xs) (hl : 1 ≤ xs.length ∧ xs.length ≤ 64) (kind : Int) :
    (frameD kind xs = none → ∃ z μ', overdubref05_digits [.s (.int .i64 kind), .s y] μ = some (.tuple [.s z, .s (.bool false)], μ') ∧ Same μ μ') ∧
    (∀ ds, frameD kind xs = some ds → ∃ z μ', overdubref05_digits [.s (.int .i64 kind), .s y] μ = some (.tuple [.s z, .s (.bool true)], μ') ∧ Same μ μ' ∧ IsRow μ' .u8 z ds) := by
  have hck : checkZ xs = 0 := checkZ_tame ht hl.2
  have hk := refMay_is hy (by omega)
  rw [hck] at hk
  have c1 := lt_f (show (1 : Int) ≤ (xs.length : Int) by omega)
  rw [overdubref05_digits_eq]
  by_cases cr : kind < 0 ∨ kind > 18
  · rw [frameD_none cr]
    refine ⟨fun _ => ⟨.nilSlice, μ, ?_, Keep.refl h0⟩, fun ds h => by cases h⟩
    by_cases hn : kind < 0
    · simp -implicitDefEqProofs only [hy.len, c1, hk, ne_f (rfl : (0 : Int) = 0), lt_t hn, ss]
    · simp -implicitDefEqProofs only [hy.len, c1, hk, ne_f (rfl : (0 : Int) = 0), lt_f (show 0 ≤ kind by omega), gt_t (show 18 < kind by omega), ss]
  · unfold frameD
    have g1 := lt_f (show 0 ≤ kind by omega)
    have g2 := gt_f (show kind ≤ 18 by omega)
    obtain ⟨r1, m1, e1, k1, o1⟩ := (refPut_is h0 (OwnRow.nil μ.next μ .u8 5).row (by simp) kind 8).2 (by omega)
    obtain ⟨r2, m2, e2, k2, o2⟩ := (refPut_is k1.wf o1.row (by simp [putD_len]) (xs.length : Int) 8).2 (by omega)
    rw [show ([] ++ putD kind (8 : Int).toNat ++ putD (xs.length : Int) (8 : Int).toNat : List Int) = headD kind xs.length by unfold headD; simp] at o2
    have hh : (headD kind xs.length).length = 16 := by unfold headD; rw [List.length_append, putD_len, putD_len]
    have k12 := k1.trans k2
    have hy1 := hy.same k1
    have hy2 := hy.same k12
    by_cases c0 : kind = 0
    · subst c0
      have hL := refOne_loop (w := r2) hy2 (by omega) _ 0 (Nat.zero_add _)
      rw [n0, List.drop_zero] at hL
      rw [if_pos rfl]
      by_cases hall : xs.all (fun v => v == xs.getD 0 0) = true
      · rw [if_pos hall] at hL
        rw [if_pos hall]
        refine ⟨fun h => (by cases h), fun ds h => ?_⟩
        obtain rfl := Option.some.inj h
        have g0 := fun {R : Type} (K : AV → Option R) => hy2.ind (i := 0) (by omega) (by omega) K
        have l0 := fun {R : Type} (K : AV → Option R) => hy2.load (i := 0) (by omega) (by omega) K
        obtain ⟨r3, m3, e3, k3, o3⟩ := refSample_is k2.wf o2.row (by omega) (getD_tame ht 0)
        refine ⟨r3, m3, ?_, k12.trans k3, ?_⟩
        · simp -implicitDefEqProofs only [hy.len, c1, hk, ne_f (rfl : (0 : Int) = 0), g1, g2, e1, hy1.len, e2, BEq.rfl, hy2.len, hL, g0, l0, Int.toNat_zero, e3, ss]
        · have : xs.take 1 = [xs.getD 0 0] := by
            rw [take_snoc (i := 0) (by omega)]; rfl
          rw [this, show smpD [xs.getD 0 0] = putD (xs.getD 0 0 + 8388608) 24 ++ [] from rfl, List.append_nil]
          exact o3.row
      · rw [if_neg hall] at hL
        rw [if_neg hall]
        refine ⟨fun _ => ⟨.nilSlice, m2, ?_, k12⟩, fun ds h => by cases h⟩
        simp -implicitDefEqProofs only [hy.len, c1, hk, ne_f (rfl : (0 : Int) = 0), g1, g2, e1, hy1.len, e2, BEq.rfl, hy2.len, hL, ss]
    · rw [if_neg c0]
      by_cases c1' : kind = 1
      · subst c1'
        rw [if_pos rfl]
        refine ⟨fun h => (by cases h), fun ds h => ?_⟩
        obtain rfl := Option.some.inj h
        obtain ⟨r3, m3, e3, k3, i3⟩ := refSmp2_loop k2.wf hy2 ht (by omega) _ 0 m2 r2 _ (Nat.zero_add _) (by omega) (Keep.refl k2.wf) o2.row
        rw [n0] at e3
        refine ⟨r3, m3, ?_, k12.trans k3, i3⟩
        simp -implicitDefEqProofs only [hy.len, c1, hk, ne_f (rfl : (0 : Int) = 0), g1, g2, e1, hy1.len, e2, eq_f c0, BEq.rfl, hy2.len, e3, ss]
      · rw [if_neg c1']
        by_cases c2 : kind ≤ 6
        · rw [if_pos (show 2 ≤ kind ∧ kind ≤ 6 by omega)]
          have ew : IntKind.wrap .i64 (kind - 2) = kind - 2 := wr (by omega)
          obtain ⟨r, m4, e4, k4, o4⟩ := refRes_is k2.wf (kind - 2) hy2 (by omega)
          by_cases he : fresE xs (kind - 2) = 0
          · rw [if_pos he]
            refine ⟨fun h => (by cases h), fun ds h => ?_⟩
            obtain rfl := Option.some.inj h
            rw [he] at e4
            have hfl := fresZ_len he
            have hpl : (kind - 2).toNat ≤ xs.length := by
              unfold fresE at he
              split at he
              · omega
              · cases he
            obtain ⟨r5, m5, e5, k5, i5⟩ := refSmp3_loop (p := kind) (n := (kind - 2).toNat) (s10 := r) k4.wf (by rw [ew]; omega) hpl (hy2.same k4) ht (by omega) _ 0 m4 r2 _ (Nat.zero_add _) (by omega) (Keep.refl k4.wf) (o2.row.same k4)
            rw [n0, List.drop_zero] at *
            have hsl := smpD_len (xs.take (kind - 2).toNat)
            have hlt : (xs.take (kind - 2).toNat).length ≤ 64 := by simp; omega
            obtain ⟨r6, m6, e6, k6, i6⟩ := refResD_is k5.wf i5 (o4.row.same k5) (fres_small ht) (by omega) (by rw [List.length_append]; omega)
            refine ⟨r6, m6, ?_, ((k12.trans k4).trans k5).trans k6, i6⟩
            simp -implicitDefEqProofs only [hy.len, c1, hk, ne_f (rfl : (0 : Int) = 0), g1, g2, e1, hy1.len, e2, eq_f c0, eq_f c1', le_t c2, ew, e4, e5, e6, ss]
          · rw [if_neg he]
            refine ⟨fun _ => ⟨.nilSlice, m4, ?_, k12.trans k4⟩, fun ds h => by cases h⟩
            simp -implicitDefEqProofs only [hy.len, c1, hk, ne_f (rfl : (0 : Int) = 0), g1, g2, e1, hy1.len, e2, eq_f c0, eq_f c1', le_t c2, ew, e4, ne_t he, ss]
        · rw [if_neg (show ¬ (2 ≤ kind ∧ kind ≤ 6) by omega), if_pos (show 6 < kind ∧ kind ≤ 18 by omega)]
          have ew : IntKind.wrap .i64 (kind - 6) = kind - 6 := wr (by omega)
          obtain ⟨cr', m4, e4, k4, r4⟩ := refLevin_is (p := kind - 6) k2.wf hy2 (by omega) (by omega)
          cases hcf : cfZ xs (kind - 6) with
          | none =>
            rw [hcf] at e4
            refine ⟨fun _ => ⟨.nilSlice, m4, ?_, k12.trans k4⟩, fun ds h => by cases h⟩
            simp -implicitDefEqProofs only [hy.len, c1, hk, ne_f (rfl : (0 : Int) = 0), g1, g2, e1, hy1.len, e2, eq_f c0, eq_f c1', le_f (show 6 < kind by omega), ew, e4, Option.isSome_none, ss]
          | some c =>
            rw [hcf] at e4 r4
            have r4 : IsRow m4 .i64 cr' c := r4
            obtain ⟨d1, d2, d3, d4, d5, d6, d7⟩ := cf_spec hcf
            refine ⟨fun h => (by cases h), fun ds h => ?_⟩
            obtain rfl := Option.some.inj h
            obtain ⟨l, m5, e5, k5, o5⟩ := refLpcRes_is k4.wf (hy2.same k4) r4 (by omega) (by omega)
            rw [d6] at e5
            have hlr := resZ_len d6
            have k45 := k4.trans k5
            obtain ⟨r6, m6, e6, k6, i6⟩ := refSmp4_loop (n := c.length) (s13 := cr') (s15 := l) k5.wf (by omega) (hy2.same k45) ht (by omega) _ 0 m5 r2 _ (Nat.zero_add _) (by omega) (Keep.refl k5.wf) (o2.row.same k45)
            have hsl := smpD_len (xs.take c.length)
            have hlt : (xs.take c.length).length ≤ 64 := by simp; omega
            rw [n0] at e6
            rw [List.drop_zero] at i6
            obtain ⟨r7, m7, e7, k7, i7⟩ := refCof_loop (s15 := l) k6.wf ((r4.same k5).same k6) d7 (by omega) _ 0 m6 r6 _ (Nat.zero_add _) (by rw [List.length_append]; omega) (Keep.refl k6.wf) i6
            have hcl := cofD_len c
            rw [n0] at e7
            rw [List.drop_zero] at i7
            obtain ⟨r8, m8, e8, k8, i8⟩ := refResD_is k7.wf i7 ((o5.row.same k6).same k7) (res_small (cs := c) ht) (by omega) (by rw [List.length_append, List.length_append]; omega)
            refine ⟨r8, m8, ?_, (((k12.trans k45).trans k6).trans k7).trans k8, ?_⟩
            · simp -implicitDefEqProofs only [hy.len, c1, hk, ne_f (rfl : (0 : Int) = 0), g1, g2, e1, hy1.len, e2, eq_f c0, eq_f c1', le_f (show 6 < kind by omega), ew, e4, Option.isSome_some, e5, (r4.same k5).len, e6, ((r4.same k5).same k6).len, e7, e8, ss]
            · rw [d4] at i8
              exact i8
def BestD (μ : AMem) (x : SV) : Option (List Int) → Prop
  | none => x = .nilSlice
  | some ds => IsRow μ .u8 x ds ∧ 16 ≤ ds.length
theorem BestD.same {μ μ' : AMem} {x : SV} {b : Option (List Int)} (h : BestD μ x b) (hs : Same μ μ') : BestD μ' x b := by
  cases b with
  | none => exact h
  | some ds => exact ⟨h.1.same hs, h.2⟩
theorem refEncode_loop {μ0 : AMem} (h0 : WF μ0) {y : SV} {xs : List Int} (hy : IsRow μ0 .i64 y xs) (ht : tame xs) (hl : 1 ≤ xs.length ∧ xs.length ≤ 64) :
    ∀ (k i : Nat) (μ : AMem) (x : SV) (b : Option (List Int)), i + k = 19 → Same μ0 μ → BestD μ x b →
      ∃ x' μ', overdubref05_Encode_L1 [.s y] [.s x, .s (.int .i64 (i : Int))] μ = some (.exit 0, [.s x'], μ') ∧ Same μ0 μ' ∧ BestD μ' x' (encF xs k i b)
  | 0, i, μ, x, b, h, hs, hb => by
    rw [overdubref05_Encode_L1_eq, overdubref05_Encode_L1_B_eq]
    refine ⟨x, μ, ?_, hs, hb⟩
    simp -implicitDefEqProofs (disch := omega) only [sw, ss]
  | k + 1, i, μ, x, b, h, hs, hb => by
    have hD := refDigits_is hs.wf (hy.same hs) ht hl (i : Int)
    have ei : IntKind.wrap .i64 ((i : Int) + 1) = ((i + 1 : Nat) : Int) := by rw [wr (by omega)]; rfl
    have c1 := le_t (show (i : Int) ≤ 18 by omega)
    rw [encF]
    cases hf : frameD (i : Int) xs with
    | none =>
      obtain ⟨z, m1, e1, k1⟩ := hD.1 hf
      obtain ⟨x', m2, q1, q2, q3⟩ := refEncode_loop h0 hy ht hl k (i + 1) m1 x b (by omega) (hs.trans k1) (hb.same k1)
      refine ⟨x', m2, ?_, q2, q3⟩
      rw [overdubref05_Encode_L1_eq, overdubref05_Encode_L1_B_eq]
      simp -implicitDefEqProofs only [c1, e1, ei, ss]
      exact q1
    | some ds =>
      obtain ⟨w, m1, e1, k1, w1⟩ := hD.2 ds hf
      have hds := frameD_small ht hl.2 hf
      have hb1 := hb.same k1
      cases b with
      | none =>
        have hx : x = .nilSlice := hb
        subst hx
        obtain ⟨x', m2, q1, q2, q3⟩ := refEncode_loop h0 hy ht hl k (i + 1) m1 w (some ds) (by omega) (hs.trans k1) ⟨w1, hds.1⟩
        refine ⟨x', m2, ?_, q2, q3⟩
        rw [overdubref05_Encode_L1_eq, overdubref05_Encode_L1_B_eq]
        simp -implicitDefEqProofs only [c1, e1, lenS_nil, n0, BEq.rfl, ei, ss]
        exact q1
      | some bs =>
        obtain ⟨hG, hG2⟩ := hb1
        rw [show betterD (some bs) (some ds) = if ds.length < bs.length then some ds else some bs from rfl]
        have h16 := eq_f (show ¬ ((bs.length : Nat) : Int) = 0 by omega)
        by_cases hc : ds.length < bs.length
        · rw [if_pos hc]
          obtain ⟨x', m2, q1, q2, q3⟩ := refEncode_loop h0 hy ht hl k (i + 1) m1 w (some ds) (by omega) (hs.trans k1) ⟨w1, hds.1⟩
          refine ⟨x', m2, ?_, q2, q3⟩
          rw [overdubref05_Encode_L1_eq, overdubref05_Encode_L1_B_eq]
          simp -implicitDefEqProofs only [c1, e1, hG.len, h16, w1.len, lt_t (show (ds.length : Int) < (bs.length : Int) by omega), ei, ss]
          exact q1
        · rw [if_neg hc]
          obtain ⟨x', m2, q1, q2, q3⟩ := refEncode_loop h0 hy ht hl k (i + 1) m1 x (some bs) (by omega) (hs.trans k1) ⟨hG, hG2⟩
          refine ⟨x', m2, ?_, q2, q3⟩
          rw [overdubref05_Encode_L1_eq, overdubref05_Encode_L1_B_eq]
          simp -implicitDefEqProofs only [c1, e1, hG.len, h16, w1.len, lt_f (show (bs.length : Int) ≤ (ds.length : Int) by omega), ei, ss]
          exact q1
theorem refEncode_is {μ : AMem} (h0 : WF μ) {y : SV} {xs : List Int} (hy : IsRow μ .i64 y xs) (hb : xs.length ≤ 1000000) :
    (encE xs ≠ 0 → overdubref05_Encode [.s y] μ = some (.tuple [.s .nilSlice, .s (.int .i64 (encE xs))], μ)) ∧
    (encE xs = 0 → ∃ ds bs z μ', encD xs = some ds ∧ holds bs ds ∧ overdubref05_Encode [.s y] μ = some (.tuple [.s z, .s (.int .i64 0)], μ') ∧ Same μ μ' ∧ OwnRow μ.next μ' .u8 5 z bs) := by
  rw [overdubref05_Encode_eq]
  unfold encE
  have hk := refMay_is hy (by omega)
  by_cases c1 : xs.length < 1
  · rw [if_pos (.inl c1)]
    refine ⟨fun _ => ?_, fun h => by cases h⟩
    simp -implicitDefEqProofs (disch := omega) only [sw, ss, hy.len]
  · by_cases c2 : xs.length > 64
    · rw [if_pos (.inr c2)]
      refine ⟨fun _ => ?_, fun h => by cases h⟩
      simp -implicitDefEqProofs (disch := omega) only [sw, ss, hy.len]
    · rw [if_neg (by omega)]
      refine ⟨fun hE => ?_, fun hE => ?_⟩
      · have h8 : checkZ xs = 8 := by
          unfold checkZ at hE ⊢
          by_cases ha : xs.all okS = true
          · rw [if_pos ha, if_neg c2] at hE; exact absurd rfl hE
          · rw [if_neg ha]
        rw [h8] at hk ⊢
        simp -implicitDefEqProofs (disch := omega) only [sw, ss, hy.len, hk]
      · obtain ⟨ht, hl⟩ := checkZ_ok hE
        rw [hE] at hk
        obtain ⟨x, m1, e1, k1, b1⟩ := refEncode_loop h0 hy ht (by omega) 19 0 μ .nilSlice none rfl (Keep.refl h0) rfl
        rw [n0] at e1
        obtain ⟨ds, hds⟩ := encD_some xs
        have hds' : encF xs 19 0 none = some ds := hds
        rw [hds'] at b1
        obtain ⟨w1, _⟩ := b1
        have hsm := encD_small ht hl hds
        obtain ⟨z, bs, m2, e2, k2, o2, hh⟩ := refBytes_is k1.wf w1 (by omega) hsm.2.2
        refine ⟨ds, bs, z, m2, hds, hh, ?_, k1.trans k2, o2.less k1.next⟩
        simp -implicitDefEqProofs (disch := omega) only [sw, ss, hy.len, hk, e1, e2]
end Go.Proofs.YtnjenjbodcihmaaGreat
namespace Go.Proofs.YtnjenjbodcihmaaGreat
open Go Go.Proofs.YtnjenjbodcihmaaGreat.E
set_option linter.unusedVariables false
set_option linter.unusedSimpArgs false
theorem back3 {μ : AMem} {k : IntKind} {x : SV} {zs : List Int} (h : IsRow μ k x zs) {n : Nat} (hn : n ≤ zs.length) : ∃ y, (∀ {R : Type} (K : AV → Option R), cutS 1 (.s x) (n : Int) (zs.length : Int) K = K (.s y)) ∧ IsRow μ k y (zs.drop n) ∧ ∀ j, isId y j → isId x j := by
  refine ⟨cutV x n zs.length, fun K => h.cut (by omega) (by omega) (by omega) K, ?_, fun j hj => ?_⟩
  · have := h.cutRow (a := n) (b := (zs.length : Int)) (by omega) (by omega) (by omega)
    simpa using this
  · cases x <;> first | exact hj | exact hj.elim
def At (bs : List Int) (a : Nat) (l : List Int) : Prop := l.length = 8 * bs.length - a ∧ ∀ j, l.getD j 0 = digB bs (a + j)
theorem At.drop {bs l : List Int} {a : Nat} (h : At bs a l) (n : Nat) : At bs (a + n) (l.drop n) := by
  refine ⟨by rw [List.length_drop, h.1]; omega, fun j => ?_⟩
  rw [Nat.add_assoc, ← h.2 (n + j), List.getD_eq_getElem?_getD, List.getElem?_drop, List.getD_eq_getElem?_getD]
theorem ofL_loop {μ0 : AMem} (h0 : WF μ0) {x : SV} {bs : List Int} {n1 i1 : Int} {i : Nat} (hx : IsRow μ0 .u8 x bs) (hi : i < bs.length) (hv : 0 ≤ bs.getD i 0 ∧ bs.getD i 0 < 256) (hb : bs.length ≤ 1000) :
    ∀ (k : Nat) (μ : AMem) (y : SV) (zs : List Int), k ≤ 8 → zs.length + k ≤ 100000 → Same μ0 μ → OwnRow μ0.next μ .u8 5 y zs →
      ∃ y' μ', overdubref01_Of_L2 [.s x, .s (.int .i64 i), .s (.int .i64 n1), .s (.int .i64 i1)] [.s y, .s (.int .i64 ((k : Int) - 1))] μ = some (.exit 2, [.s x, .s y', .s (.int .i64 n1), .s (.int .i64 i1)], μ') ∧ Same μ0 μ' ∧ OwnRow μ0.next μ' .u8 5 y' (zs ++ putD (bs.getD i 0) k)
  | 0, μ, y, zs, hk, hl, hs, hy => by
    rw [overdubref01_Of_L2_eq, overdubref01_Of_L2_B_eq, putD, List.append_nil]
    simp -implicitDefEqProofs (disch := omega) only [sw, ss]
    exact ⟨y, μ, rfl, hs, hy⟩
  | k + 1, μ, y, zs, hk, hl, hs, hy => by
    have hx12 := hx.same (bumpS hs 12)
    obtain ⟨y', μ', p1, p2, p3⟩ := pushS (B := 1) (a := 9) (b := 10) (n := 12) (q := some 1) h0 hs hy (bs.getD i 0 / 2 ^ k % 2) (by omega) (by omega) (by omega) (by omega) (by omega)
    obtain ⟨y2, μ2, q1, q2, q3⟩ := ofL_loop (n1 := n1) (i1 := i1) h0 hx hi hv hb k μ' y' _ (by omega) (by simp; omega) p2 p3
    rw [List.append_assoc] at q3
    refine ⟨y2, μ2, ?_, q2, q3⟩
    have e0 : ((k + 1 : Nat) : Int) - 1 = (k : Int) := by omega
    have hu := u64n (n := k) (by omega)
    have hmin : min (Int.toNat (k : Int)) (IntKind.bits .u8) = k := by show min _ 8 = k; omega
    have hand : IntKind.wrap .u8 (BitVec.toNat ((BitVec.ofInt (IntKind.bits .u8) (bs.getD i 0 / 2 ^ k)) &&& (BitVec.ofInt (IntKind.bits .u8) 1))) = bs.getD i 0 / 2 ^ k % 2 := by
      have e : (BitVec.toNat ((BitVec.ofInt (IntKind.bits .u8) (bs.getD i 0 / 2 ^ k)) &&& (BitVec.ofInt (IntKind.bits .u8) 1)) : Int) = bs.getD i 0 / 2 ^ k % 2 := by
        show ((BitVec.toNat ((BitVec.ofInt 8 (bs.getD i 0 / 2 ^ k)) &&& (BitVec.ofInt 8 1)) : Nat) : Int) = _
        rw [BitVec.toNat_and, BitVec.toNat_ofInt, BitVec.toNat_ofInt]
        have : (1 : Int) % ((2 ^ 8 : Nat) : Int) = 1 := by decide
        rw [this, show (1 : Int).toNat = 1 from rfl, Nat.and_one_is_mod]
        omega
      rw [e, wu8 (by omega)]
    have ei : IntKind.wrap .i64 ((k : Int) - 1) = (k : Int) - 1 := wr (by omega)
    have hi1 := fun {R : Type} (K : AV → Option R) => (hx.same hs).ind (i := (i : Int)) (by omega) (by omega) K
    have hl1 := fun {R : Type} (K : AV → Option R) => hx12.load (i := (i : Int)) (by omega) (by omega) K
    rw [nat_toNat] at hl1
    rw [e0, overdubref01_Of_L2_eq, overdubref01_Of_L2_B_eq]
    simp -implicitDefEqProofs only [ge_t (show (0 : Int) ≤ k by omega), hi1, hl1, hu, if_neg (show ¬ (k : Int) < 0 by omega), hmin, fdivp2, hand, p1, ei, ss]
    exact q1
def ofD (bs : List Int) : List Int := bs.flatMap fun v => putD v 8
theorem ofD_snoc (bs : List Int) (v : Int) : ofD (bs ++ [v]) = ofD bs ++ putD v 8 := by simp [ofD]
theorem ofD_len : ∀ bs : List Int, (ofD bs).length = 8 * bs.length
  | [] => rfl
  | v :: bs => by
    have := ofD_len bs
    simp only [ofD, List.flatMap_cons, List.length_append, putD_len, List.length_cons] at this ⊢
    omega
theorem ofD_get : ∀ (bs : List Int) (j : Nat), (ofD bs).getD j 0 = digB bs j
  | [], j => by unfold digB; simp [ofD, digV_zero]
  | v :: bs, j => by
    show (putD v 8 ++ ofD bs).getD j 0 = _
    rw [getD_app, putD_len]
    by_cases h : j < 8
    · rw [if_pos h, putD_get v 8 j h]
      unfold digB digV
      rw [show j / 8 = 0 by omega, show j % 8 = j by omega]; rfl
    · rw [if_neg h, ofD_get bs (j - 8)]
      unfold digB
      rw [show j / 8 = (j - 8) / 8 + 1 by omega, show j % 8 = (j - 8) % 8 by omega]; rfl
theorem of_loop {μ0 : AMem} (h0 : WF μ0) {x : SV} {bs : List Int} (hx : IsRow μ0 .u8 x bs) (hv : ∀ v ∈ bs, 0 ≤ v ∧ v < 256) (hb : bs.length ≤ 1000) :
    ∀ (k i : Nat) (μ : AMem) (y : SV), i + k = bs.length → Same μ0 μ → OwnRow μ0.next μ .u8 5 y (ofD (bs.take i)) →
      ∃ y' μ', overdubref01_Of_L1 [.s x, .s (.int .i64 bs.length)] [.s y, .s (.int .i64 i)] μ = some (.exit 0, [.s y'], μ') ∧ Same μ0 μ' ∧ OwnRow μ0.next μ' .u8 5 y' (ofD bs)
  | 0, i, μ, y, h, hs, hy => by
    rw [overdubref01_Of_L1_eq, overdubref01_Of_L1_B_eq]
    rw [List.take_of_length_le (by omega)] at hy
    simp -implicitDefEqProofs (disch := omega) only [sw, ss]
    exact ⟨y, μ, rfl, hs, hy⟩
  | k + 1, i, μ, y, h, hs, hy => by
    have hi : i < bs.length := by omega
    have hlen : (ofD (bs.take i)).length = 8 * i := by rw [ofD_len]; simp; omega
    obtain ⟨y1, m1, e1, k1, o1⟩ := ofL_loop (n1 := (bs.length : Int)) (i1 := (i : Int)) h0 hx hi (hv _ (getD_mem hi)) hb 8 μ y _ (by omega) (by omega) hs hy
    rw [show ((8 : Nat) : Int) - 1 = 7 from rfl] at e1
    rw [← ofD_snoc, ← take_snoc hi] at o1
    obtain ⟨y2, m2, q1, q2, q3⟩ := of_loop h0 hx hv hb k (i + 1) m1 y1 (by omega) k1 o1
    rw [nsu] at q1
    refine ⟨y2, m2, ?_, q2, q3⟩
    have c1 := lt_t (a := (i : Int)) (b := (bs.length : Int)) (by omega)
    have ei : IntKind.wrap .i64 ((i : Int) + 1) = (i : Int) + 1 := wr (by omega)
    rw [overdubref01_Of_L1_eq, overdubref01_Of_L1_B_eq]
    simp -implicitDefEqProofs only [c1, e1, ei, ss]
    exact q1
theorem Of_is {μ : AMem} (h0 : WF μ) {x : SV} {bs : List Int} (hx : IsRow μ .u8 x bs) (hv : ∀ v ∈ bs, 0 ≤ v ∧ v < 256) (hb : bs.length ≤ 1000) :
    ∃ y l μ', overdubref01_Of [.s x] μ = some (.s y, μ') ∧ Same μ μ' ∧ IsRow μ' .u8 y l ∧ At bs 0 l ∧ ∀ j, isId y j → μ.next ≤ j := by
  obtain ⟨y, m, q1, q2, q3⟩ := of_loop h0 hx hv hb bs.length 0 μ .nilSlice (by omega) (Keep.refl h0) (OwnRow.nil _ _ _ _)
  rw [n0] at q1
  refine ⟨y, ofD bs, m, ?_, q2, q3.row, ⟨by rw [ofD_len]; omega, fun j => by rw [ofD_get, Nat.zero_add]⟩, fun j hj => (own_lives q3 hj).1⟩
  rw [overdubref01_Of_eq]
  simp -implicitDefEqProofs only [hx.len, q1, ss]
theorem refGet_loop {μ : AMem} {x : SV} {bs l : List Int} {a n : Nat} (hx : IsRow μ .u8 x l) (hA : At bs a l) (hn : n ≤ l.length) (hn2 : n ≤ 62) :
    ∀ k i : Nat, i + k = n → overdubref01_Bits_Get_L1 [.s x, .s (.int .i64 n)] [.s (.int .i64 (numB bs a i)), .s (.int .i64 i)] μ = some (.exit 0, [.s x, .s (.int .i64 n), .s (.int .i64 (numB bs a n))], μ)
  | 0, i, h => by
    obtain rfl : i = n := by omega
    rw [overdubref01_Bits_Get_L1_eq, overdubref01_Bits_Get_L1_B_eq]
    simp -implicitDefEqProofs (disch := omega) only [sw, ss]
  | k + 1, i, h => by
    have ih := refGet_loop hx hA hn hn2 k (i + 1) (by omega)
    rw [nsu] at ih
    have h1 := numB_le bs a i
    have h2 := digB_le bs (a + i)
    have h3 := pow_le62 (n := i) (by omega)
    have hi1 := fun {R : Type} (K : AV → Option R) => hx.ind (i := (i : Int)) (by omega) (by omega) K
    have hl1 := fun {R : Type} (K : AV → Option R) => hx.load (i := (i : Int)) (by omega) (by omega) K
    rw [nat_toNat, hA.2] at hl1
    have e1 : IntKind.wrap .i64 (IntKind.wrap .i64 (2 * numB bs a i) + IntKind.wrap .i64 (digB bs (a + i))) = numB bs a (i + 1) := by
      rw [wr (n := 2 * numB bs a i) (by omega), wr (n := digB bs (a + i)) (by omega), wr (by omega)]; rfl
    have ei : IntKind.wrap .i64 ((i : Int) + 1) = (i : Int) + 1 := wr (by omega)
    rw [overdubref01_Bits_Get_L1_eq, overdubref01_Bits_Get_L1_B_eq]
    simp -implicitDefEqProofs only [lt_t (show (i : Int) < n by omega), hi1, hl1, e1, ei, ss]
    exact ih
theorem refGet_is {μ : AMem} {x : SV} {bs l : List Int} {a : Nat} (hx : IsRow μ .u8 x l) (hA : At bs a l) (n : Int) :
    ((n < 0 ∨ n > 62 ∨ n > (l.length : Int)) → overdubref01_Bits_Get [.s x, .s (.int .i64 n)] μ = some (.tuple [.s (.int .i64 0), .s x, .s (.bool false)], μ)) ∧
    (0 ≤ n ∧ n ≤ 62 ∧ n ≤ (l.length : Int) → ∃ y, overdubref01_Bits_Get [.s x, .s (.int .i64 n)] μ = some (.tuple [.s (.int .i64 (numB bs a n.toNat)), .s y, .s (.bool true)], μ) ∧ IsRow μ .u8 y (l.drop n.toNat) ∧ ∀ j, isId y j → isId x j) := by
  refine ⟨fun hn => ?_, fun hn => ?_⟩
  · rw [overdubref01_Bits_Get_eq]
    by_cases h1 : n < 0
    · simp -implicitDefEqProofs (disch := omega) only [sw, ss]
    · by_cases h2 : n > 62
      · simp -implicitDefEqProofs (disch := omega) only [sw, ss]
      · simp -implicitDefEqProofs (disch := omega) only [sw, ss, hx.len]
  · have hlp := refGet_loop (n := n.toNat) hx hA (by omega) (by omega) _ 0 (Nat.zero_add _)
    have e0 : ((n.toNat : Nat) : Int) = n := by omega
    obtain ⟨y, f1, f2, f3⟩ := back3 hx (n := n.toNat) (by omega)
    rw [e0] at f1
    rw [n0, e0, show numB bs a 0 = 0 from rfl] at hlp
    refine ⟨y, ?_, f2, f3⟩
    have q1 := lt_f (a := n) (b := 0) (by omega)
    have q2 := gt_f (a := n) (b := 62) (by omega)
    have q3 := gt_f (a := n) (b := (l.length : Int)) (by omega)
    rw [overdubref01_Bits_Get_eq]
    simp -implicitDefEqProofs only [q1, q2, q3, hx.len, hlp, f1, ss]
theorem refOnesT_loop {μ : AMem} {x : SV} {bs l : List Int} {a most : Nat} (hx : IsRow μ .u8 x l) (hA : At bs a l) (hm : most ≤ 1024) :
    ∀ k n : Nat, n + k = most → n ≤ l.length → ∃ n' : Nat, overdubref01_Bits_TakeOnes_L1 [.s x, .s (.int .i64 most)] [.s (.int .i64 n)] μ = some (.exit 0, [.s x, .s (.int .i64 most), .s (.int .i64 n')], μ) ∧ n' ≤ most ∧ n' ≤ l.length ∧
      onesF bs a l.length k n = if n' = most then ((most : Int), true, a + most) else if n' = l.length then (0, false, a) else ((n' : Int), true, a + n' + 1)
  | 0, n, h, hl => by
    obtain rfl : n = most := by omega
    refine ⟨n, ?_, Nat.le_refl _, hl, by rw [if_pos rfl]; rfl⟩
    rw [overdubref01_Bits_TakeOnes_L1_eq, overdubref01_Bits_TakeOnes_L1_B_eq]
    simp -implicitDefEqProofs (disch := omega) only [sw, ss]
  | k + 1, n, h, hl => by
    have c1 := lt_t (a := (n : Int)) (b := (most : Int)) (by omega)
    rw [onesF, overdubref01_Bits_TakeOnes_L1_eq, overdubref01_Bits_TakeOnes_L1_B_eq]
    by_cases h1 : l.length ≤ n
    · refine ⟨n, ?_, by omega, hl, by rw [if_pos h1, if_neg (by omega), if_pos (by omega)]⟩
      simp -implicitDefEqProofs only [c1, hx.len, lt_f (show (l.length : Int) ≤ n by omega), ss]
    · have c2 := lt_t (a := (n : Int)) (b := (l.length : Int)) (by omega)
      have hi1 := fun {R : Type} (K : AV → Option R) => hx.ind (i := (n : Int)) (by omega) (by omega) K
      have hl1 := fun {R : Type} (K : AV → Option R) => hx.load (i := (n : Int)) (by omega) (by omega) K
      rw [nat_toNat, hA.2] at hl1
      have hd := digB_le bs (a + n)
      rw [if_neg h1]
      by_cases h2 : digB bs (a + n) = 0
      · have t0 : (digB bs (a + n) == 1) = false := by simp [h2]
        refine ⟨n, ?_, by omega, hl, by rw [if_pos h2, if_neg (by omega), if_neg (by omega)]⟩
        simp -implicitDefEqProofs only [c1, hx.len, c2, hi1, hl1, t0, ss]
      · obtain ⟨n', e1, e2, e3, e4⟩ := refOnesT_loop hx hA hm k (n + 1) (by omega) (by omega)
        rw [nsu] at e1
        have t1 : (digB bs (a + n) == 1) = true := by simp; omega
        have ei : IntKind.wrap .i64 ((n : Int) + 1) = (n : Int) + 1 := wr (by omega)
        refine ⟨n', ?_, e2, e3, by rw [if_neg h2]; exact e4⟩
        simp -implicitDefEqProofs only [c1, hx.len, c2, hi1, hl1, t1, ei, ss]
        exact e1
theorem refTakeOnes_is {μ : AMem} {x : SV} {bs l : List Int} {a most : Nat} (hx : IsRow μ .u8 x l) (hA : At bs a l) (hm : most ≤ 1024) (hl : l.length ≤ 1000000) :
    ((onesF bs a l.length most 0).2.1 = false → ∃ v y, overdubref01_Bits_TakeOnes [.s x, .s (.int .i64 most)] μ = some (.tuple [.s (.int .i64 v), .s y, .s (.bool false)], μ) ∧ v = 0 ∧ y = x) ∧
    ((onesF bs a l.length most 0).2.1 = true → ∃ y n, overdubref01_Bits_TakeOnes [.s x, .s (.int .i64 most)] μ = some (.tuple [.s (.int .i64 (onesF bs a l.length most 0).1), .s y, .s (.bool true)], μ) ∧ IsRow μ .u8 y (l.drop n) ∧ (onesF bs a l.length most 0).2.2 = a + n ∧ n ≤ l.length ∧ ∀ j, isId y j → isId x j) := by
  obtain ⟨n, e1, e2, e3, e4⟩ := refOnesT_loop hx hA hm most 0 (Nat.zero_add _) (by omega)
  rw [n0] at e1
  have c1 := lt_f (a := (most : Int)) (b := 0) (by omega)
  have c2 := gt_f (a := (most : Int)) (b := 1024) (by omega)
  rw [overdubref01_Bits_TakeOnes_eq, e4]
  by_cases h1 : n = most
  · rw [if_pos h1]
    refine ⟨fun h => (by cases h), fun _ => ?_⟩
    subst h1
    obtain ⟨y, f1, f2, f3⟩ := back3 hx (n := n) (by omega)
    have t1 : ((n : Int) == (n : Int)) = true := by simp
    refine ⟨y, n, ?_, f2, rfl, e3, f3⟩
    simp -implicitDefEqProofs only [c1, c2, e1, t1, hx.len, f1, ss]
  · rw [if_neg h1]
    have t1 := eq_f (a := (n : Int)) (b := (most : Int)) (by omega)
    by_cases h2 : n = l.length
    · rw [if_pos h2]
      refine ⟨fun _ => ⟨0, x, ?_, rfl, rfl⟩, fun h => by cases h⟩
      have t2 := eq_t (a := (n : Int)) (b := (l.length : Int)) (by omega)
      simp -implicitDefEqProofs only [c1, c2, e1, t1, hx.len, t2, ss]
    · rw [if_neg h2]
      refine ⟨fun h => (by cases h), fun _ => ?_⟩
      obtain ⟨y, f1, f2, f3⟩ := back3 hx (n := n + 1) (by omega)
      rw [nsu] at f1
      have t2 := eq_f (a := (n : Int)) (b := (l.length : Int)) (by omega)
      have ei : IntKind.wrap .i64 ((n : Int) + 1) = (n : Int) + 1 := wr (by omega)
      refine ⟨y, n + 1, ?_, f2, by dsimp only; omega, by omega, f3⟩
      simp -implicitDefEqProofs only [c1, c2, e1, t1, hx.len, t2, ei, f1, ss]
end Go.Proofs.YtnjenjbodcihmaaGreat
namespace Go.Proofs.YtnjenjbodcihmaaGreat
open Go Go.Proofs.YtnjenjbodcihmaaGreat.E
set_option linter.unusedVariables false
set_option linter.unusedSimpArgs false
theorem refTakeRice_is {μ : AMem} {x : SV} {bs l : List Int} {a : Nat} (hx : IsRow μ .u8 x l) (hA : At bs a l) (ha : a ≤ 8 * bs.length) (hl : bs.length ≤ 1000) (k : Int) :
    ((getR bs a k).2.1 = false → overdubref01_Bits_TakeRice [.s x, .s (.int .i64 k)] μ = some (.tuple [.s (.int .i64 0), .s x, .s (.bool false)], μ) ∧ (getR bs a k) = (0, false, a)) ∧
    ((getR bs a k).2.1 = true → ∃ y n, overdubref01_Bits_TakeRice [.s x, .s (.int .i64 k)] μ = some (.tuple [.s (.int .i64 (getR bs a k).1), .s y, .s (.bool true)], μ) ∧ IsRow μ .u8 y (l.drop n) ∧ (getR bs a k).2.2 = a + n ∧ n ≤ l.length ∧ ∀ j, isId y j → isId x j) := by
  have hll := hA.1
  rw [overdubref01_Bits_TakeRice_eq]
  unfold getR
  by_cases c1 : k < 0 ∨ k > 24
  · have hm : mayB 0 k = false := by
      unfold mayB
      by_cases h : 0 ≤ k
      · simp; omega
      · simp; omega
    rw [if_pos c1]
    refine ⟨fun _ => ⟨?_, rfl⟩, fun h => by cases h⟩
    simp -implicitDefEqProofs only [refMayB_is, hm, ss]
  · have hm : mayB 0 k = true := by unfold mayB; simp; omega
    rw [if_neg c1]
    have hT := refTakeOnes_is (most := 24) hx hA (by omega) (by omega)
    rw [show ((24 : Nat) : Int) = 24 from rfl, hll] at hT
    have hle := onesF_le bs a ha 24 24 0 (by omega) (by omega)
    generalize onesF bs a (8 * bs.length - a) 24 0 = r at *
    obtain ⟨q, ok, a1⟩ := r
    dsimp only at *
    cases ok
    · rw [if_pos rfl]
      refine ⟨fun _ => ⟨?_, rfl⟩, fun h => by cases h⟩
      obtain ⟨v, y, e, rfl, rfl⟩ := hT.1 rfl
      simp -implicitDefEqProofs only [refMayB_is, hm, e, ss]
    · rw [if_neg (by simp)]
      obtain ⟨⟨hq0, hq1⟩, ha1, ha2⟩ := hle rfl
      obtain ⟨y, n, e, hy, hn, hnl, hyx⟩ := hT.2 rfl
      have hA2 := hA.drop n
      rw [← hn] at hA2
      have hu : IntKind.wrap .u64 k = k := by simp [IntKind.wrap, IntKind.signed, IntKind.bits]; omega
      have hmin : min k.toNat (IntKind.bits .i64) = k.toNat := by show min _ 64 = _; omega
      have hk0 : ¬ k < 0 := by omega
      have hdl : (l.drop n).length = 8 * bs.length - a1 := hA2.1
      by_cases c3 : q < 24
      · rw [if_neg (show ¬ q = 24 by omega), if_pos c3]
        have hG := refGet_is hy hA2 k
        by_cases c2 : 8 * bs.length - a1 < k.toNat
        · rw [if_pos c2]
          refine ⟨fun _ => ⟨?_, rfl⟩, fun h => by cases h⟩
          have f := hG.1 (by omega)
          simp -implicitDefEqProofs only [refMayB_is, hm, e, lt_t c3, f, ss]
        · rw [if_neg c2]
          refine ⟨fun h => (by cases h), fun _ => ?_⟩
          obtain ⟨y2, f1, f2, f3⟩ := hG.2 (by omega)
          have hz := numB_le bs a1 k.toNat
          have hp : (2 : Int) ^ k.toNat ≤ 16777216 := by
            have h1 : (2 : Nat) ^ k.toNat ≤ 2 ^ 24 := Nat.pow_le_pow_right (by omega) (by omega)
            have e : ((2 : Int) ^ k.toNat) = ((2 ^ k.toNat : Nat) : Int) := by simp
            rw [e]
            have h3 : (2 : Nat) ^ 24 = 16777216 := by decide
            omega
          have hp0 := pow_pos2 k.toNat
          have hqp := prod_le (a := q) (b := 2 ^ k.toNat) (A := 24) (B := 16777216) (by omega) (by omega) (by omega) (by omega)
          have hw1 : IntKind.wrap .i64 (IntKind.wrap .i64 (q * 2 ^ k.toNat) + numB bs a1 k.toNat) = q * 2 ^ k.toNat + numB bs a1 k.toNat := by rw [wr (n := q * 2 ^ k.toNat) (by omega), wr (by omega)]
          rw [List.drop_drop] at f2
          refine ⟨y2, n + k.toNat, ?_, f2, by dsimp only; omega, by omega, fun j hj => hyx j (f3 j hj)⟩
          simp -implicitDefEqProofs only [refMayB_is, hm, e, lt_t c3, f1, hu, if_neg hk0, hmin, hw1, ss]
      · rw [if_pos (show q = 24 by omega), if_neg c3]
        have q3 := lt_f (a := q) (b := 24) (by omega)
        have hG := refGet_is hy hA2 32
        have e32 : (32 : Int).toNat = 32 := rfl
        rw [e32] at hG
        by_cases c2 : 8 * bs.length - a1 < 32
        · rw [if_pos c2]
          refine ⟨fun _ => ⟨?_, rfl⟩, fun h => by cases h⟩
          have f := hG.1 (by omega)
          simp -implicitDefEqProofs only [refMayB_is, hm, e, q3, f, ss]
        · rw [if_neg c2]
          obtain ⟨y2, f1, f2, f3⟩ := hG.2 (by omega)
          rw [List.drop_drop] at f2
          by_cases c4 : numB bs a1 32 / 2 ^ k.toNat < 24
          · rw [if_pos c4]
            refine ⟨fun _ => ⟨?_, rfl⟩, fun h => by cases h⟩
            simp -implicitDefEqProofs only [refMayB_is, hm, e, q3, f1, hu, if_neg hk0, hmin, fdiv_pow, lt_t c4, ss]
          · rw [if_neg c4]
            refine ⟨fun h => (by cases h), fun _ => ⟨y2, n + 32, ?_, f2, by dsimp only; omega, by omega, fun j hj => hyx j (f3 j hj)⟩⟩
            simp -implicitDefEqProofs only [refMayB_is, hm, e, q3, f1, hu, if_neg hk0, hmin, fdiv_pow, lt_f (show (24 : Int) ≤ numB bs a1 32 / 2 ^ k.toNat by omega), ss]
end Go.Proofs.YtnjenjbodcihmaaGreat
namespace Go.Proofs.YtnjenjbodcihmaaGreat
open Go Go.Proofs.YtnjenjbodcihmaaGreat.E
set_option linter.unusedVariables false
set_option linter.unusedSimpArgs false
theorem refOnes_no {μ : AMem} {x : SV} {n : Int} (hn : n < 0 ∨ n > 1024) : overdubref01_Bits_Ones [.s x, .s (.int .i64 n)] μ = some (.tuple [.s x, .s (.bool false)], μ) := by
  rw [overdubref01_Bits_Ones_eq]
  by_cases h : n < 0
  · simp -implicitDefEqProofs only [lt_t h, ss]
  · simp -implicitDefEqProofs only [lt_f (show 0 ≤ n by omega), gt_t (show 1024 < n by omega), ss]
theorem refTakeOnes_no {μ : AMem} {x : SV} {n : Int} (hn : n < 0 ∨ n > 1024) : overdubref01_Bits_TakeOnes [.s x, .s (.int .i64 n)] μ = some (.tuple [.s (.int .i64 0), .s x, .s (.bool false)], μ) := by
  rw [overdubref01_Bits_TakeOnes_eq]
  by_cases h : n < 0
  · simp -implicitDefEqProofs only [lt_t h, ss]
  · simp -implicitDefEqProofs only [lt_f (show 0 ≤ n by omega), gt_t (show 1024 < n by omega), ss]
theorem onesF_false (bs : List Int) (a left : Nat) : ∀ k n, (onesF bs a left k n).2.1 = false → onesF bs a left k n = (0, false, a)
  | 0, n, h => by simp [onesF] at h
  | k + 1, n, h => by
    unfold onesF at h ⊢
    split at h
    · rename_i c; rw [if_pos c]
    · rename_i c
      rw [if_neg c]
      split at h
      · cases h
      · rename_i d; rw [if_neg d]; exact onesF_false bs a left k (n + 1) h
theorem restF_step {bs : List Int} {a k i : Nat} : restF bs a (k + 1) i = if digB bs (a + i) = 1 then false else restF bs a k (i + 1) := rfl
theorem refNul_loop {μ : AMem} {x : SV} {bs l : List Int} {a : Nat} (hx : IsRow μ .u8 x l) (hA : At bs a l) (hl : l.length ≤ 1000000) :
    ∀ k i : Nat, i + k = l.length → overdubref01_Bits_Rest_L1 [.s x, .s (.int .i64 (l.length : Int))] [.s (.int .i64 (i : Int))] μ = if restF bs a k i then some (.exit 0, [], μ) else some (.ret, [.s (.bool false)], μ)
  | 0, i, h => by
    rw [overdubref01_Bits_Rest_L1_eq, overdubref01_Bits_Rest_L1_B_eq]
    simp -implicitDefEqProofs (disch := omega) only [sw, ss]
    rfl
  | k + 1, i, h => by
    have ih := refNul_loop hx hA hl k (i + 1) (by omega)
    have hi : i < l.length := by omega
    have g1 := fun {R : Type} (K : AV → Option R) => hx.ind (i := (i : Int)) (by omega) (by omega) K
    have g2 := fun {R : Type} (K : AV → Option R) => hx.load (i := (i : Int)) (by omega) (by omega) K
    have ei : IntKind.wrap .i64 ((i : Int) + 1) = ((i + 1 : Nat) : Int) := by rw [wr (by omega)]; rfl
    have hd := digB_le bs (a + i)
    rw [overdubref01_Bits_Rest_L1_eq, overdubref01_Bits_Rest_L1_B_eq, restF_step]
    by_cases hc : digB bs (a + i) = 1
    · rw [if_pos hc]
      simp -implicitDefEqProofs only [lt_t (show (i : Int) < (l.length : Int) by omega), g1, g2, nat_toNat, hA.2, ne_t (show ¬ digB bs (a + i) = 0 by omega), ss]
      rfl
    · rw [if_neg hc]
      simp -implicitDefEqProofs only [lt_t (show (i : Int) < (l.length : Int) by omega), g1, g2, nat_toNat, hA.2, ne_f (show digB bs (a + i) = 0 by omega), ei, ss]
      exact ih
theorem refNul_is {μ : AMem} {x : SV} {bs l : List Int} {a : Nat} (hx : IsRow μ .u8 x l) (hA : At bs a l) (hl : l.length ≤ 1000000) : overdubref01_Bits_Rest [.s x] μ = some (.s (.bool (restF bs a l.length 0)), μ) := by
  have e := refNul_loop hx hA hl l.length 0 (by omega)
  rw [n0] at e
  rw [overdubref01_Bits_Rest_eq, hx.len]
  simp only [Option.bind_some, e]
  cases restF bs a l.length 0 <;> simp -implicitDefEqProofs only [if_true, if_false, Bool.false_eq_true, ss]
end Go.Proofs.YtnjenjbodcihmaaGreat
namespace Go.Proofs.YtnjenjbodcihmaaGreat
open Go Go.Proofs.YtnjenjbodcihmaaGreat.E
set_option linter.unusedVariables false
set_option linter.unusedSimpArgs false
def Dg (N : Nat) (μ : AMem) (r : SV) (bs : List Int) (a : Nat) : Prop := ∃ l, IsRow μ .u8 r l ∧ At bs a l ∧ ∀ j, isId r j → j < N
theorem Dg.same {N : Nat} {μ μ' : AMem} {r : SV} {bs : List Int} {a : Nat} (h : Dg N μ r bs a) (hs : Same μ μ') : Dg N μ' r bs a := by
  obtain ⟨l, h1, h2, h3⟩ := h
  exact ⟨l, h1.same hs, h2, h3⟩
theorem Dg.more {N M : Nat} {μ : AMem} {r : SV} {bs : List Int} {a : Nat} (h : Dg N μ r bs a) (hM : N ≤ M) : Dg M μ r bs a := by
  obtain ⟨l, h1, h2, h3⟩ := h
  exact ⟨l, h1, h2, fun j hj => Nat.lt_of_lt_of_le (h3 j hj) hM⟩
theorem refGetO {N : Nat} {μ : AMem} {x : SV} {bs : List Int} {a : Nat} (h : Dg N μ x bs a) (n : Nat) (hn : n ≤ 62) :
    (getO bs a n = none → overdubref01_Bits_Get [.s x, .s (.int .i64 (n : Int))] μ = some (.tuple [.s (.int .i64 0), .s x, .s (.bool false)], μ)) ∧
    (∀ q, getO bs a n = some q → ∃ y, overdubref01_Bits_Get [.s x, .s (.int .i64 (n : Int))] μ = some (.tuple [.s (.int .i64 q.1), .s y, .s (.bool true)], μ) ∧ Dg N μ y bs q.2 ∧ 0 ≤ q.1 ∧ q.1 < 2 ^ n) := by
  obtain ⟨l, hx, hA, hN⟩ := h
  have hll := hA.1
  have hG := refGet_is hx hA (n : Int)
  unfold getO
  by_cases c : n ≤ 8 * bs.length - a
  · rw [if_pos c]
    refine ⟨fun h => (by cases h), fun q hq => ?_⟩
    cases hq
    obtain ⟨y, e, hy, hyx⟩ := hG.2 (by omega)
    rw [nat_toNat] at e hy
    exact ⟨y, e, ⟨_, hy, hA.drop n, fun j hj => hN j (hyx j hj)⟩, numB_lt⟩
  · rw [if_neg c]
    exact ⟨fun _ => hG.1 (by omega), fun q hq => by cases hq⟩
theorem pushR {μ0 μ : AMem} (h0 : WF μ0) (hs : Same μ0 μ) {y : SV} {zs : List Int} (hy : OwnRow μ0.next μ .i64 3 y zs) {r : SV} {bs : List Int} {c : Nat} (hr : Dg μ0.next μ r bs c) {a b n : Nat} (v : Int) (hl : zs.length ≤ 1000000) (ha : a < n) (hb : b < n) (hab : a ≠ b) :
    ∃ y' μ', (∀ {R : Type} (K : AV → AMem → Option R), appendA 3 1 8 (μ.next + b) ((μ.bump n).set (μ.next + a) (rowObj [.int .i64 v] 1 3 (some 1))) (.s y) (.s (.slice (μ.next + a) 0 0 1)) K = K (.s y') μ') ∧ Same μ0 μ' ∧ OwnRow μ0.next μ' .i64 3 y' (zs ++ [v]) ∧ Dg μ0.next μ' r bs c := by
  obtain ⟨y', μ', p1, p2, p3, p4, p5, p6⟩ := OwnRow.push (B := 8) (a := a) (b := b) (n := n) (q := some 1) hs.wf hy v (by omega) (by omega) hs.next ha hb hab
  obtain ⟨l, h1, h2, h3⟩ := hr
  exact ⟨y', μ', p1, Same.push h0 hs hy p3 p4 p5, p2, l, rowOther h1 (fun id g1 g2 => by have := (own_lives hy g1).1; have := h3 id g2; omega) p5.1, h2, h3⟩
theorem refSmpO_loop {μ0 : AMem} (h0 : WF μ0) {bs : List Int} {n : Nat} (hn : n ≤ 1000) :
    ∀ (k i : Nat) (μ : AMem) (r y : SV) (zs : List Int) (a : Nat), i + k = n → zs.length = i → Same μ0 μ → OwnRow μ0.next μ .i64 3 y zs → Dg μ0.next μ r bs a →
      (valO bs 24 (-8388608) k a = none → ∃ r' μ', overdubref05_samples_L1 [.s (.int .i64 (n : Int))] [.s r, .s y, .s (.int .i64 (i : Int))] μ = some (.ret, [.s .nilSlice, .s r', .s (.bool false)], μ') ∧ Same μ0 μ') ∧
      (∀ q, valO bs 24 (-8388608) k a = some q → ∃ r' y' μ', overdubref05_samples_L1 [.s (.int .i64 (n : Int))] [.s r, .s y, .s (.int .i64 (i : Int))] μ = some (.exit 0, [.s r', .s y'], μ') ∧ Same μ0 μ' ∧ OwnRow μ0.next μ' .i64 3 y' (zs ++ q.1) ∧ Dg μ0.next μ' r' bs q.2)
  | 0, i, μ, r, y, zs, a, h, hz, hs, hy, hr => by
    refine ⟨fun h => (by cases h), fun q hq => ?_⟩
    cases hq
    refine ⟨r, y, μ, ?_, hs, by simpa using hy, hr⟩
    rw [overdubref05_samples_L1_eq, overdubref05_samples_L1_B_eq]
    simp -implicitDefEqProofs (disch := omega) only [sw, ss]
  | k + 1, i, μ, r, y, zs, a, h, hz, hs, hy, hr => by
    have hG := refGetO hr 24 (by omega)
    rw [show ((24 : Nat) : Int) = 24 from rfl] at hG
    have c1 := lt_t (show (i : Int) < (n : Int) by omega)
    have ei : IntKind.wrap .i64 ((i : Int) + 1) = ((i + 1 : Nat) : Int) := by rw [wr (by omega)]; rfl
    rw [valO]
    cases hg : getO bs a 24 with
    | none =>
      have e := hG.1 hg
      refine ⟨fun _ => ⟨r, μ, ?_, hs⟩, fun q hq => by cases hq⟩
      rw [overdubref05_samples_L1_eq, overdubref05_samples_L1_B_eq]
      simp -implicitDefEqProofs only [c1, e, ss]
    | some v =>
      obtain ⟨r1, e, hr1, hv⟩ := hG.2 v hg
      obtain ⟨y1, m1, p1, p2, p3, p4⟩ := pushR (a := 3) (b := 4) (n := 6) h0 hs hy hr1 (v.1 + (-8388608)) (by omega) (by omega) (by omega) (by omega)
      obtain ⟨i1, i2⟩ := refSmpO_loop h0 (bs := bs) hn k (i + 1) m1 r1 y1 _ v.2 (by omega) (by simp [hz]) p2 p3 p4
      have ev := smpBack hv
      refine ⟨fun hq => ?_, fun q hq => ?_⟩
      · obtain ⟨r2, m2, q1, q2⟩ := i1 (by simpa using hq)
        refine ⟨r2, m2, ?_, q2⟩
        rw [overdubref05_samples_L1_eq, overdubref05_samples_L1_B_eq]
        simp -implicitDefEqProofs only [c1, e, ev, p1, ei, ss]
        exact q1
      · obtain ⟨p, hp, rfl⟩ := Option.map_eq_some_iff.mp hq
        obtain ⟨r2, y2, m2, q1, q2, q3, q4⟩ := i2 p hp
        refine ⟨r2, y2, m2, ?_, q2, by simpa using q3, q4⟩
        rw [overdubref05_samples_L1_eq, overdubref05_samples_L1_B_eq]
        simp -implicitDefEqProofs only [c1, e, ev, p1, ei, ss]
        exact q1
theorem refSmpO_is {μ : AMem} (h0 : WF μ) {r : SV} {bs : List Int} {a n : Nat} (hr : Dg μ.next μ r bs a) (hn : n ≤ 1000) :
    (valO bs 24 (-8388608) n a = none → ∃ z r' μ', overdubref05_samples [.s r, .s (.int .i64 (n : Int))] μ = some (.tuple [.s z, .s r', .s (.bool false)], μ') ∧ Same μ μ') ∧
    (∀ q, valO bs 24 (-8388608) n a = some q → ∃ y r' μ', overdubref05_samples [.s r, .s (.int .i64 (n : Int))] μ = some (.tuple [.s y, .s r', .s (.bool true)], μ') ∧ Same μ μ' ∧ OwnRow μ.next μ' .i64 3 y q.1 ∧ Dg μ.next μ' r' bs q.2) := by
  obtain ⟨i1, i2⟩ := refSmpO_loop h0 (bs := bs) hn n 0 μ r .nilSlice [] a (Nat.zero_add _) rfl (Keep.refl h0) (OwnRow.nil _ _ _ _) hr
  rw [n0] at i1 i2
  refine ⟨fun h => ?_, fun q hq => ?_⟩
  · obtain ⟨r', μ', q1, q2⟩ := i1 h
    refine ⟨.nilSlice, r', μ', ?_, q2⟩
    rw [overdubref05_samples_eq]
    simp -implicitDefEqProofs only [q1, ss]
  · obtain ⟨r', y, μ', q1, q2, q3, q4⟩ := i2 q hq
    refine ⟨y, r', μ', ?_, q2, by simpa using q3, q4⟩
    rw [overdubref05_samples_eq]
    simp -implicitDefEqProofs only [q1, ss]
theorem refTakeO {N : Nat} {μ : AMem} {x : SV} {bs : List Int} {a : Nat} (h : Dg N μ x bs a) (ha : a ≤ 8 * bs.length) (hl : bs.length ≤ 1000) (k : Int) :
    ((getR bs a k).2.1 = false → overdubref01_Bits_TakeRice [.s x, .s (.int .i64 k)] μ = some (.tuple [.s (.int .i64 0), .s x, .s (.bool false)], μ)) ∧
    ((getR bs a k).2.1 = true → ∃ y, overdubref01_Bits_TakeRice [.s x, .s (.int .i64 k)] μ = some (.tuple [.s (.int .i64 (getR bs a k).1), .s y, .s (.bool true)], μ) ∧ Dg N μ y bs (getR bs a k).2.2) := by
  obtain ⟨l, hx, hA, hN⟩ := h
  have hT := refTakeRice_is hx hA ha hl k
  refine ⟨fun h => (hT.1 h).1, fun h => ?_⟩
  obtain ⟨y, n, e, hy, hp, hnl, hyx⟩ := hT.2 h
  exact ⟨y, e, l.drop n, hy, by rw [hp]; exact hA.drop n, fun j hj => hN j (hyx j hj)⟩
theorem refRiceO_loop {μ0 : AMem} (h0 : WF μ0) {bs : List Int} (hl : bs.length ≤ 1000) {n : Nat} {p : Int} (hn : n ≤ 1000) :
    ∀ (k i : Nat) (μ : AMem) (r y : SV) (zs : List Int) (a : Nat), i + k = n → zs.length = i → a ≤ 8 * bs.length → Same μ0 μ → OwnRow μ0.next μ .i64 3 y zs → Dg μ0.next μ r bs a →
      (riceO bs p k a = none → ∃ r' μ', overdubref05_takeResiduals_L1 [.s (.int .i64 (n : Int)), .s (.int .i64 p)] [.s r, .s y, .s (.int .i64 (i : Int))] μ = some (.ret, [.s .nilSlice, .s r', .s (.bool false)], μ') ∧ Same μ0 μ') ∧
      (∀ q, riceO bs p k a = some q → ∃ r' y' μ', overdubref05_takeResiduals_L1 [.s (.int .i64 (n : Int)), .s (.int .i64 p)] [.s r, .s y, .s (.int .i64 (i : Int))] μ = some (.exit 0, [.s r', .s y'], μ') ∧ Same μ0 μ' ∧ OwnRow μ0.next μ' .i64 3 y' (zs ++ q.1) ∧ Dg μ0.next μ' r' bs q.2 ∧ q.1.length = k)
  | 0, i, μ, r, y, zs, a, h, hz, ha, hs, hy, hr => by
    refine ⟨fun h => (by cases h), fun q hq => ?_⟩
    cases hq
    refine ⟨r, y, μ, ?_, hs, by simpa using hy, hr, rfl⟩
    rw [overdubref05_takeResiduals_L1_eq, overdubref05_takeResiduals_L1_B_eq]
    simp -implicitDefEqProofs (disch := omega) only [sw, ss]
  | k + 1, i, μ, r, y, zs, a, h, hz, ha, hs, hy, hr => by
    have hT := refTakeO hr ha hl p
    have hle := getR_le (bs := bs) ha p
    have c1 := lt_t (show (i : Int) < (n : Int) by omega)
    have ei : IntKind.wrap .i64 ((i : Int) + 1) = ((i + 1 : Nat) : Int) := by rw [wr (by omega)]; rfl
    rw [riceO]
    by_cases hok : (getR bs a p).2.1 = true
    · rw [if_pos hok]
      obtain ⟨r1, e, hr1⟩ := hT.2 hok
      obtain ⟨y1, m1, p1, p2, p3, p4⟩ := pushR (a := 3) (b := 4) (n := 6) h0 hs hy hr1 (zagZ (getR bs a p).1) (by omega) (by omega) (by omega) (by omega)
      obtain ⟨i1, i2⟩ := refRiceO_loop h0 hl (p := p) hn k (i + 1) m1 r1 y1 _ (getR bs a p).2.2 (by omega) (by simp [hz]) hle p2 p3 p4
      refine ⟨fun hq => ?_, fun q hq => ?_⟩
      · obtain ⟨r2, m2, q1, q2⟩ := i1 (by simpa using hq)
        refine ⟨r2, m2, ?_, q2⟩
        rw [overdubref05_takeResiduals_L1_eq, overdubref05_takeResiduals_L1_B_eq]
        simp -implicitDefEqProofs only [c1, e, refZag_is, p1, ei, ss]
        exact q1
      · obtain ⟨q', hq', rfl⟩ := Option.map_eq_some_iff.mp hq
        obtain ⟨r2, y2, m2, q1, q2, q3, q4, q5⟩ := i2 q' hq'
        refine ⟨r2, y2, m2, ?_, q2, by simpa using q3, q4, by simp [q5]⟩
        rw [overdubref05_takeResiduals_L1_eq, overdubref05_takeResiduals_L1_B_eq]
        simp -implicitDefEqProofs only [c1, e, refZag_is, p1, ei, ss]
        exact q1
    · rw [if_neg hok]
      have e := hT.1 (by simpa using hok)
      refine ⟨fun _ => ⟨r, μ, ?_, hs⟩, fun q hq => by cases hq⟩
      rw [overdubref05_takeResiduals_L1_eq, overdubref05_takeResiduals_L1_B_eq]
      simp -implicitDefEqProofs only [c1, e, ss]
theorem refResO_is {μ : AMem} (h0 : WF μ) {r : SV} {bs : List Int} (hl : bs.length ≤ 1000) {a n : Nat} (hr : Dg μ.next μ r bs a) (ha : a ≤ 8 * bs.length) (hn : n ≤ 1000) :
    (resO bs n a = none → ∃ z r' μ', overdubref05_takeResiduals [.s r, .s (.int .i64 (n : Int))] μ = some (.tuple [.s z, .s r', .s (.bool false)], μ') ∧ Same μ μ') ∧
    (∀ q, resO bs n a = some q → ∃ y r' μ', overdubref05_takeResiduals [.s r, .s (.int .i64 (n : Int))] μ = some (.tuple [.s y, .s r', .s (.bool true)], μ') ∧ Same μ μ' ∧ OwnRow μ.next μ' .i64 3 y q.1 ∧ Dg μ.next μ' r' bs q.2 ∧ q.1.length = n) := by
  have hG := refGetO hr 5 (by omega)
  rw [show ((5 : Nat) : Int) = 5 from rfl] at hG
  unfold resO
  cases hg : getO bs a 5 with
  | none =>
    have e := hG.1 hg
    refine ⟨fun _ => ⟨.nilSlice, r, μ, ?_, Keep.refl h0⟩, fun q hq => by cases hq⟩
    rw [overdubref05_takeResiduals_eq]
    simp -implicitDefEqProofs only [e, ss]
  | some v =>
    obtain ⟨r1, e, hr1, hv⟩ := hG.2 v hg
    have ha1 : v.2 ≤ 8 * bs.length := by
      unfold getO at hg
      split at hg
      · cases hg; dsimp only; omega
      · cases hg
    rw [Option.bind_some]
    by_cases c : v.1 ≤ 24
    · rw [if_pos c]
      obtain ⟨i1, i2⟩ := refRiceO_loop h0 hl (p := v.1) hn n 0 μ r1 .nilSlice [] v.2 (Nat.zero_add _) rfl ha1 (Keep.refl h0) (OwnRow.nil _ _ _ _) hr1
      rw [n0] at i1 i2
      refine ⟨fun h => ?_, fun q hq => ?_⟩
      · obtain ⟨r', μ', q1, q2⟩ := i1 h
        refine ⟨.nilSlice, r', μ', ?_, q2⟩
        rw [overdubref05_takeResiduals_eq]
        simp -implicitDefEqProofs only [e, gt_f c, q1, ss]
      · obtain ⟨r', y, μ', q1, q2, q3, q4, q5⟩ := i2 q hq
        refine ⟨y, r', μ', ?_, q2, by simpa using q3, q4, q5⟩
        rw [overdubref05_takeResiduals_eq]
        simp -implicitDefEqProofs only [e, gt_f c, q1, ss]
    · rw [if_neg c]
      refine ⟨fun _ => ⟨.nilSlice, r1, μ, ?_, Keep.refl h0⟩, fun q hq => by cases hq⟩
      rw [overdubref05_takeResiduals_eq]
      simp -implicitDefEqProofs only [e, gt_t (show 24 < v.1 by omega), ss]
theorem refCofO_loop {μ0 : AMem} (h0 : WF μ0) {bs : List Int} {n : Nat} {kind s7 : Int} {s10 : SV} (hk : 6 < kind) (hn : n ≤ 1000) :
    ∀ (k i : Nat) (μ : AMem) (r y : SV) (zs : List Int) (a : Nat), i + k = n → zs.length = i → Same μ0 μ → OwnRow μ0.next μ .i64 3 y zs → Dg μ0.next μ r bs a →
      (valO bs 16 (-32768) k a = none → ∃ μ', overdubref05_Decode_L2 [.s (.int .i64 kind), .s (.int .i64 s7), .s (.int .i64 (n : Int)), .s s10] [.s r, .s y, .s (.int .i64 (i : Int))] μ = some (.ret, [.s .nilSlice, .s (.int .i64 2)], μ') ∧ Same μ0 μ') ∧
      (∀ q, valO bs 16 (-32768) k a = some q → ∃ r' y' μ', overdubref05_Decode_L2 [.s (.int .i64 kind), .s (.int .i64 s7), .s (.int .i64 (n : Int)), .s s10] [.s r, .s y, .s (.int .i64 (i : Int))] μ = some (.exit 3, [.s r', .s (.int .i64 kind), .s (.int .i64 s7), .s (.int .i64 (n : Int)), .s s10, .s y'], μ') ∧ Same μ0 μ' ∧ OwnRow μ0.next μ' .i64 3 y' (zs ++ q.1) ∧ Dg μ0.next μ' r' bs q.2)
  | 0, i, μ, r, y, zs, a, h, hz, hs, hy, hr => by
    refine ⟨fun h => (by cases h), fun q hq => ?_⟩
    cases hq
    refine ⟨r, y, μ, ?_, hs, by simpa using hy, hr⟩
    rw [overdubref05_Decode_L2_eq, overdubref05_Decode_L2_B_eq]
    simp -implicitDefEqProofs (disch := omega) only [sw, ss]
  | k + 1, i, μ, r, y, zs, a, h, hz, hs, hy, hr => by
    have hG := refGetO hr 16 (by omega)
    rw [show ((16 : Nat) : Int) = 16 from rfl] at hG
    have c0 := gt_t hk
    have c1 := lt_t (show (i : Int) < (n : Int) by omega)
    have ei : IntKind.wrap .i64 ((i : Int) + 1) = ((i + 1 : Nat) : Int) := by rw [wr (by omega)]; rfl
    rw [valO]
    cases hg : getO bs a 16 with
    | none =>
      have e := hG.1 hg
      refine ⟨fun _ => ⟨μ, ?_, hs⟩, fun q hq => by cases hq⟩
      rw [overdubref05_Decode_L2_eq, overdubref05_Decode_L2_B_eq]
      simp -implicitDefEqProofs only [c0, c1, e, ss]
    | some v =>
      obtain ⟨r1, e, hr1, hv⟩ := hG.2 v hg
      obtain ⟨y1, m1, p1, p2, p3, p4⟩ := pushR (a := 3) (b := 4) (n := 6) h0 hs hy hr1 (v.1 + (-32768)) (by omega) (by omega) (by omega) (by omega)
      obtain ⟨i1, i2⟩ := refCofO_loop (s7 := s7) (s10 := s10) h0 (bs := bs) hk hn k (i + 1) m1 r1 y1 _ v.2 (by omega) (by simp [hz]) p2 p3 p4
      have h16 : (2 : Int) ^ 16 = 65536 := by decide
      have ev : IntKind.wrap .i64 (v.1 - 32768) = v.1 + (-32768) := by rw [wr (by omega)]; rfl
      refine ⟨fun hq => ?_, fun q hq => ?_⟩
      · obtain ⟨m2, q1, q2⟩ := i1 (by simpa using hq)
        refine ⟨m2, ?_, q2⟩
        rw [overdubref05_Decode_L2_eq, overdubref05_Decode_L2_B_eq]
        simp -implicitDefEqProofs only [c0, c1, e, ev, p1, ei, ss]
        exact q1
      · obtain ⟨p, hp, rfl⟩ := Option.map_eq_some_iff.mp hq
        obtain ⟨r2, y2, m2, q1, q2, q3, q4⟩ := i2 p hp
        refine ⟨r2, y2, m2, ?_, q2, by simpa using q3, q4⟩
        rw [overdubref05_Decode_L2_eq, overdubref05_Decode_L2_B_eq]
        simp -implicitDefEqProofs only [c0, c1, e, ev, p1, ei, ss]
        exact q1
theorem refCofO_no {kind s7 s9 : Int} {s10 r : SV} {μ : AMem} (hk : kind ≤ 6) : overdubref05_Decode_L2 [.s (.int .i64 kind), .s (.int .i64 s7), .s (.int .i64 s9), .s s10] [.s r, .s .nilSlice, .s (.int .i64 0)] μ = some (.exit 3, [.s r, .s (.int .i64 kind), .s (.int .i64 s7), .s (.int .i64 s9), .s s10, .s .nilSlice], μ) := by
  rw [overdubref05_Decode_L2_eq, overdubref05_Decode_L2_B_eq]
  simp -implicitDefEqProofs only [gt_f hk, ss]
theorem refFill_loop {μ0 : AMem} (h0 : WF μ0) {r : SV} {bs : List Int} {a n : Nat} {v s9 s5 : Int} (hn : n ≤ 1000) :
    ∀ (k i : Nat) (μ : AMem) (y : SV), i + k = n → 1 ≤ i → Same μ0 μ → OwnRow μ0.next μ .i64 3 y (List.replicate i v) → Dg μ0.next μ r bs a →
      ∃ y' μ', overdubref05_Decode_L1 [.s r, .s (.int .i64 s5), .s (.int .i64 (n : Int)), .s (.int .i64 s9)] [.s y] μ = some (.exit 1, [.s r, .s (.int .i64 s5), .s (.int .i64 (n : Int)), .s (.int .i64 s9), .s y'], μ') ∧ Same μ0 μ' ∧ OwnRow μ0.next μ' .i64 3 y' (List.replicate n v) ∧ Dg μ0.next μ' r bs a
  | 0, i, μ, y, h, h1, hs, hy, hr => by
    obtain rfl : i = n := by omega
    refine ⟨y, μ, ?_, hs, hy, hr⟩
    rw [overdubref05_Decode_L1_eq, overdubref05_Decode_L1_B_eq, hy.row.len]
    simp -implicitDefEqProofs only [List.length_replicate, lt_f (Int.le_refl (i : Int)), ss]
  | k + 1, i, μ, y, h, h1, hs, hy, hr => by
    obtain ⟨y1, m1, p1, p2, p3, p4⟩ := pushR (a := 4) (b := 5) (n := 7) h0 hs hy hr v (by simp; omega) (by omega) (by omega) (by omega)
    rw [← List.replicate_succ'] at p3
    obtain ⟨y2, m2, q1, q2⟩ := refFill_loop (s9 := s9) (s5 := s5) h0 hn k (i + 1) m1 y1 (by omega) (by omega) p2 p3 p4
    have hyb := hy.row.same (Keep.bump hs.wf 7)
    have g0 := fun {R : Type} (K : AV → Option R) => hy.row.ind (i := 0) (by omega) (by simp; omega) K
    have l0 := fun {R : Type} (K : AV → Option R) => hyb.load (i := 0) (by omega) (by simp; omega) K
    have hv : (List.replicate i v).getD (0 : Int).toNat 0 = v := by
      rw [List.getD_eq_getElem?_getD, List.getElem?_replicate, if_pos (by show 0 < i; omega)]; rfl
    refine ⟨y2, m2, ?_, q2⟩
    rw [overdubref05_Decode_L1_eq, overdubref05_Decode_L1_B_eq, hy.row.len]
    simp -implicitDefEqProofs only [List.length_replicate, lt_t (show (i : Int) < (n : Int) by omega), g0, l0, hv, p1, ss]
    exact q1
end Go.Proofs.YtnjenjbodcihmaaGreat
namespace Go.Proofs.YtnjenjbodcihmaaGreat
open Go Go.Proofs.YtnjenjbodcihmaaGreat.E
set_option linter.unusedVariables false
set_option linter.unusedSimpArgs false
theorem Dg.rest {N : Nat} {μ : AMem} {r : SV} {bs : List Int} {a : Nat} (h : Dg N μ r bs a) (hl : bs.length ≤ 1000) : overdubref01_Bits_Rest [.s r] μ = some (.s (.bool (restF bs a (8 * bs.length - a) 0)), μ) := by
  obtain ⟨l, h1, h2, h3⟩ := h
  have e := refNul_is h1 h2 (by rw [h2.1]; omega)
  rw [h2.1] at e
  exact e
theorem row_old {μ : AMem} (h0 : WF μ) {k : IntKind} {y : SV} {zs : List Int} (hy : IsRow μ k y zs) {j : Nat} (hj : isId y j) : j < μ.next := by
  obtain ⟨o, ho⟩ := row_lives hy hj
  by_cases h : j < μ.next
  · exact h
  · rw [h0 j (by omega)] at ho; cases ho
theorem getO_le {bs : List Int} {a n : Nat} {q : Int × Nat} (h : getO bs a n = some q) (ha : a ≤ 8 * bs.length) : q.2 ≤ 8 * bs.length := by
  unfold getO at h
  split at h
  · cases h; dsimp only; omega
  · cases h
theorem valO_le {bs : List Int} {w : Nat} {c : Int} : ∀ {k a : Nat} {q : List Int × Nat}, valO bs w c k a = some q → a ≤ 8 * bs.length → q.2 ≤ 8 * bs.length
  | 0, a, q, h, ha => by cases h; exact ha
  | k + 1, a, q, h, ha => by
    obtain ⟨r, hr, h⟩ := Option.bind_eq_some_iff.mp h
    obtain ⟨p, hp, rfl⟩ := Option.map_eq_some_iff.mp h
    have := valO_le hp (getO_le hr ha)
    exact this
theorem refDecode_is {μ : AMem} (h0 : WF μ) {y : SV} {bs : List Int} (hy : IsRow μ .u8 y bs) (hb : ∀ v ∈ bs, 0 ≤ v ∧ v < 256) (hl : bs.length ≤ 1000) :
    ∃ z μ', overdubref05_Decode [.s y] μ = some (.tuple [.s z, .s (.int .i64 (if (decO bs).isSome then 0 else 2))], μ') ∧ Same μ μ' ∧ OwnRow μ.next μ' .i64 3 z ((decO bs).getD []) := by
  obtain ⟨r0, l0, m1, e1, k1, hr0, hA0, hid0⟩ := Of_is h0 hy hb hl
  have d0 : Dg m1.next m1 r0 bs 0 := ⟨l0, hr0, hA0, fun j hj => row_old k1.wf hr0 hj⟩
  have bad : ∀ m, decO bs = none → overdubref05_Decode [.s y] μ = some (.tuple [.s .nilSlice, .s (.int .i64 2)], m) → Same μ m →
      ∃ z μ', overdubref05_Decode [.s y] μ = some (.tuple [.s z, .s (.int .i64 (if (decO bs).isSome then 0 else 2))], μ') ∧ Same μ μ' ∧ OwnRow μ.next μ' .i64 3 z ((decO bs).getD []) := fun m h e k => by
    rw [h]
    exact ⟨.nilSlice, m, e, k, OwnRow.nil _ _ _ _⟩
  have good : ∀ z m xs, decO bs = some xs → overdubref05_Decode [.s y] μ = some (.tuple [.s z, .s (.int .i64 0)], m) → Same μ m → OwnRow μ.next m .i64 3 z xs →
      ∃ z μ', overdubref05_Decode [.s y] μ = some (.tuple [.s z, .s (.int .i64 (if (decO bs).isSome then 0 else 2))], μ') ∧ Same μ μ' ∧ OwnRow μ.next μ' .i64 3 z ((decO bs).getD []) := fun z m xs h e k o => by
    rw [h]
    exact ⟨z, m, e, k, o⟩
  have G1 := refGetO d0 8 (by omega)
  rw [show ((8 : Nat) : Int) = 8 from rfl] at G1
  have h256 : (2 : Int) ^ 8 = 256 := by decide
  cases hg1 : getO bs 0 8 with
  | none =>
    have e2 := G1.1 hg1
    refine bad m1 (by unfold decO; rw [hg1]; rfl) ?_ k1
    rw [overdubref05_Decode_eq]
    simp -implicitDefEqProofs only [e1, e2, ss]
  | some v =>
  obtain ⟨r1, e2, d1, hv⟩ := G1.2 v hg1
  have ha1 := getO_le hg1 (Nat.zero_le _)
  obtain ⟨kd, a1⟩ := v
  dsimp only at e2 d1 hv ha1
  have G2 := refGetO d1 8 (by omega)
  rw [show ((8 : Nat) : Int) = 8 from rfl] at G2
  cases hg2 : getO bs a1 8 with
  | none =>
    have e3 := G2.1 hg2
    refine bad m1 (by unfold decO; rw [hg1, Option.bind_some]; dsimp only; rw [hg2]; rfl) ?_ k1
    rw [overdubref05_Decode_eq]
    simp -implicitDefEqProofs only [e1, e2, e3, ss]
  | some u =>
  obtain ⟨r2, e3, d2, hu⟩ := G2.2 u hg2
  have ha2 := getO_le hg2 ha1
  obtain ⟨n, a2⟩ := u
  dsimp only at e3 d2 hu ha2
  have hdec : decO bs = (bodyO bs kd n a2).bind fun q => if restF bs q.2 (8 * bs.length - q.2) 0 = true then some q.1 else none := by
    unfold decO
    rw [hg1, Option.bind_some]
    dsimp only
    rw [hg2, Option.bind_some]
  by_cases c18 : kd > 18
  · refine bad m1 (by rw [hdec]; unfold bodyO; rw [if_pos (.inl c18)]; rfl) ?_ k1
    rw [overdubref05_Decode_eq]
    simp -implicitDefEqProofs only [e1, e2, e3, gt_t c18, ss]
  by_cases cn1 : n < 1
  · refine bad m1 (by rw [hdec]; unfold bodyO; rw [if_pos (.inr (.inl cn1))]; rfl) ?_ k1
    rw [overdubref05_Decode_eq]
    simp -implicitDefEqProofs only [e1, e2, e3, gt_f (show kd ≤ 18 by omega), lt_t cn1, ss]
  by_cases cn2 : n > 64
  · refine bad m1 (by rw [hdec]; unfold bodyO; rw [if_pos (.inr (.inr cn2))]; rfl) ?_ k1
    rw [overdubref05_Decode_eq]
    simp -implicitDefEqProofs only [e1, e2, e3, gt_f (show kd ≤ 18 by omega), lt_f (show 1 ≤ n by omega), gt_t cn2, ss]
  have b1 := gt_f (show kd ≤ 18 by omega)
  have b2 := lt_f (show 1 ≤ n by omega)
  have b3 := gt_f (show n ≤ 64 by omega)
  obtain ⟨nn, rfl⟩ : ∃ nn : Nat, n = nn := ⟨n.toNat, by omega⟩
  have cut : bodyO bs kd nn a2 = (if kd = 0 then (valO bs 24 (-8388608) 1 a2).map fun q => (List.replicate nn (q.1.getD 0 0), q.2)
      else if kd = 1 then valO bs 24 (-8388608) nn a2
      else if kd ≤ 6 then (if kd - 2 ≤ (nn : Int) then (valO bs 24 (-8388608) (kd - 2).toNat a2).bind fun w => (resO bs ((nn : Int) - (kd - 2)).toNat w.2).bind fun r => if frestE w.1 r.1 = 0 then some (frestZ w.1 r.1, r.2) else none else none)
      else (if kd - 6 < (nn : Int) then (valO bs 24 (-8388608) (kd - 6).toNat a2).bind fun w => (valO bs 16 (-32768) (kd - 6).toNat w.2).bind fun c => (resO bs ((nn : Int) - (kd - 6)).toNat c.2).bind fun r => if restE w.1 r.1 c.1 = 0 then some (restZ w.1 r.1 c.1, r.2) else none else none)) := by
    unfold bodyO
    rw [if_neg (by omega)]; rfl
  rw [cut] at hdec
  by_cases c0 : kd = 0
  · subst c0
    rw [if_pos rfl] at hdec
    obtain ⟨S1, S2⟩ := refSmpO_is k1.wf d2 (n := 1) (by omega)
    rw [show ((1 : Nat) : Int) = 1 from rfl] at S1 S2
    have b4 := gt_f (show (1 : Int) ≤ (nn : Int) by omega)
    cases hs : valO bs 24 (-8388608) 1 a2 with
    | none =>
      obtain ⟨z, r3, m2, e4, k2⟩ := S1 hs
      refine bad m2 (by rw [hdec, hs]; rfl) ?_ (k1.trans k2)
      rw [overdubref05_Decode_eq]
      simp -implicitDefEqProofs only [e1, e2, e3, b1, b2, b3, b4, BEq.rfl, gt_f (show (0 : Int) ≤ 6 by omega), e4, ss]
    | some q =>
      obtain ⟨z, r3, m2, e4, k2, o2, d3⟩ := S2 q hs
      have hql := valO_len hs
      obtain ⟨ql, a3⟩ := q
      dsimp only at o2 d3 hql
      obtain ⟨v, rfl⟩ : ∃ v, ql = [v] := by
        match ql, hql with
        | [v], _ => exact ⟨v, rfl⟩
      obtain ⟨z2, m3, e5, k3, o3, d4⟩ := refFill_loop (μ0 := m1) (n := nn) (v := v) (s9 := 1) (s5 := 0) (bs := bs) (a := a3) (r := r3) k1.wf (by omega) (nn - 1) 1 m2 z (by omega) (by omega) k2 o2 d3
      have e6 := d4.rest hl
      have e7 := refCofO_no (kind := 0) (s7 := (nn : Int)) (s9 := 1) (s10 := z2) (r := r3) (μ := m3) (by omega)
      rw [hs] at hdec
      cases hrf : restF bs a3 (8 * bs.length - a3) 0
      · rw [hrf] at e6
        refine bad m3 (by rw [hdec]; simp [hrf]) ?_ (k1.trans k3)
        rw [overdubref05_Decode_eq]
        simp -implicitDefEqProofs only [e1, e2, e3, b1, b2, b3, b4, BEq.rfl, gt_f (show (0 : Int) ≤ 6 by omega), gt_f (show (0 : Int) ≤ 1 by omega), e4, e5, e6, e7, ss]
      · rw [hrf] at e6
        refine good z2 m3 _ (by rw [hdec]; simp [hrf]) ?_ (k1.trans k3) (o3.less k1.next)
        rw [overdubref05_Decode_eq]
        simp -implicitDefEqProofs only [e1, e2, e3, b1, b2, b3, b4, BEq.rfl, gt_f (show (0 : Int) ≤ 6 by omega), gt_f (show (0 : Int) ≤ 1 by omega), e4, e5, e6, e7, ss]
  rw [if_neg c0] at hdec
  have f0 := eq_f c0
  by_cases cc1 : kd = 1
  · subst cc1
    rw [if_pos rfl] at hdec
    obtain ⟨S1, S2⟩ := refSmpO_is k1.wf d2 (n := nn) (by omega)
    have b4 := gt_f (Int.le_refl (nn : Int))
    have f10 : ((1 : Int) == 0) = false := rfl
    cases hs : valO bs 24 (-8388608) nn a2 with
    | none =>
      obtain ⟨z, r3, m2, e4, k2⟩ := S1 hs
      refine bad m2 (by rw [hdec, hs]; rfl) ?_ (k1.trans k2)
      rw [overdubref05_Decode_eq]
      simp -implicitDefEqProofs only [e1, e2, e3, b1, b2, b3, b4, f10, BEq.rfl, gt_f (show (1 : Int) ≤ 6 by omega), e4, ss]
    | some q =>
      obtain ⟨z, r3, m2, e4, k2, o2, d3⟩ := S2 q hs
      have e6 := d3.rest hl
      have e7 := refCofO_no (kind := 1) (s7 := (nn : Int)) (s9 := (nn : Int)) (s10 := z) (r := r3) (μ := m2) (by omega)
      rw [hs, Option.bind_some] at hdec
      cases hrf : restF bs q.2 (8 * bs.length - q.2) 0
      · rw [hrf] at e6
        refine bad m2 (by rw [hdec, hrf]; rfl) ?_ (k1.trans k2)
        rw [overdubref05_Decode_eq]
        simp -implicitDefEqProofs only [e1, e2, e3, b1, b2, b3, b4, f10, BEq.rfl, gt_f (show (1 : Int) ≤ 6 by omega), gt_f (show (1 : Int) ≤ 1 by omega), e4, e6, e7, ss]
      · rw [hrf] at e6
        refine good z m2 q.1 (by rw [hdec, hrf]; rfl) ?_ (k1.trans k2) (o2.less k1.next)
        rw [overdubref05_Decode_eq]
        simp -implicitDefEqProofs only [e1, e2, e3, b1, b2, b3, b4, f10, BEq.rfl, gt_f (show (1 : Int) ≤ 6 by omega), gt_f (show (1 : Int) ≤ 1 by omega), e4, e6, e7, ss]
  rw [if_neg cc1] at hdec
  have f1 := eq_f cc1
  have g1 := gt_t (show 1 < kd by omega)
  by_cases c6 : kd ≤ 6
  · rw [if_pos c6] at hdec
    have g6 := gt_f c6
    have l6 := le_t c6
    have ew : IntKind.wrap .i64 (kd - 2) = kd - 2 := wr (by omega)
    by_cases c3 : kd - 2 ≤ (nn : Int)
    · rw [if_pos c3] at hdec
      have b4 := gt_f c3
      obtain ⟨p, hp⟩ : ∃ p : Nat, kd - 2 = p := ⟨(kd - 2).toNat, by omega⟩
      have ewp : IntKind.wrap .i64 (p : Int) = p := wr (by omega)
      have hpe : (kd - 2).toNat = p := by omega
      have hne : ((nn : Int) - (kd - 2)).toNat = nn - p := by omega
      rw [hpe, hne] at hdec
      have b5 := gt_f (show (p : Int) ≤ (nn : Int) by omega)
      have ew2 : IntKind.wrap .i64 ((nn : Int) - (p : Int)) = ((nn - p : Nat) : Int) := by rw [wr (by omega)]; omega
      obtain ⟨S1, S2⟩ := refSmpO_is k1.wf d2 (n := p) (by omega)
      cases hs : valO bs 24 (-8388608) p a2 with
      | none =>
        obtain ⟨z, r3, m2, e4, k2⟩ := S1 hs
        refine bad m2 (by rw [hdec, hs]; rfl) ?_ (k1.trans k2)
        rw [overdubref05_Decode_eq]
        simp -implicitDefEqProofs only [e1, e2, e3, b1, b2, b3, b5, f0, f1, g6, l6, hp, ewp, e4, ss]
      | some q =>
        obtain ⟨z, r3, m2, e4, k2, o2, d3⟩ := S2 q hs
        have hql := valO_len hs
        rw [hs, Option.bind_some] at hdec
        have e7 := refCofO_no (kind := kd) (s7 := (nn : Int)) (s9 := (p : Int)) (s10 := z) (r := r3) (μ := m2) c6
        obtain ⟨R1, R2⟩ := refResO_is k2.wf hl (d3.more k2.next) (valO_le hs ha2) (n := nn - p) (by omega)
        cases hrs : resO bs (nn - p) q.2 with
        | none =>
          obtain ⟨z2, r4, m3, e5, k3⟩ := R1 hrs
          refine bad m3 (by rw [hdec, hrs]; rfl) ?_ (k1.trans (k2.trans k3))
          rw [overdubref05_Decode_eq]
          simp -implicitDefEqProofs only [e1, e2, e3, b1, b2, b3, b5, f0, f1, g6, l6, g1, hp, ewp, e4, e7, ew2, e5, ss]
        | some q2 =>
          obtain ⟨z2, r4, m3, e5, k3, o3, d4, hrl⟩ := R2 q2 hrs
          rw [hrs, Option.bind_some] at hdec
          obtain ⟨o, m4, e8, k4, o4⟩ := refFixRest_is k3.wf (o2.row.same k3) o3.row (by omega) (by omega)
          have kk := k1.trans (k2.trans (k3.trans k4))
          have e6 := (d4.same k4).rest hl
          by_cases he : frestE q.1 q2.1 = 0
          · rw [if_pos he, Option.bind_some] at hdec
            cases hrf : restF bs q2.2 (8 * bs.length - q2.2) 0
            · rw [hrf] at e6
              refine bad m4 (by rw [hdec, hrf]; rfl) ?_ kk
              rw [overdubref05_Decode_eq]
              simp -implicitDefEqProofs only [e1, e2, e3, b1, b2, b3, b5, f0, f1, g6, l6, g1, hp, ewp, e4, e7, ew2, e5, e8, ne_f he, e6, ss]
            · rw [hrf] at e6
              refine good o m4 _ (by rw [hdec, hrf]; rfl) ?_ kk (o4.less (k1.trans (k2.trans k3)).next)
              rw [overdubref05_Decode_eq]
              simp -implicitDefEqProofs only [e1, e2, e3, b1, b2, b3, b5, f0, f1, g6, l6, g1, hp, ewp, e4, e7, ew2, e5, e8, ne_f he, e6, ss]
          · rw [if_neg he] at hdec
            refine bad m4 (by rw [hdec]; rfl) ?_ kk
            rw [overdubref05_Decode_eq]
            simp -implicitDefEqProofs only [e1, e2, e3, b1, b2, b3, b5, f0, f1, g6, l6, g1, hp, ewp, e4, e7, ew2, e5, e8, ne_t he, ss]
    · rw [if_neg c3] at hdec
      refine bad m1 (by rw [hdec]; rfl) ?_ k1
      rw [overdubref05_Decode_eq]
      simp -implicitDefEqProofs only [e1, e2, e3, b1, b2, b3, f0, f1, g6, l6, ew, gt_t (show (nn : Int) < kd - 2 by omega), ss]
  · rw [if_neg c6] at hdec
    have g6 := gt_t (show 6 < kd by omega)
    have l6 := le_f (show 6 < kd by omega)
    have ew : IntKind.wrap .i64 (kd - 6) = kd - 6 := wr (by omega)
    by_cases c3 : kd - 6 < (nn : Int)
    · rw [if_pos c3] at hdec
      obtain ⟨p, hp⟩ : ∃ p : Nat, kd - 6 = p := ⟨(kd - 6).toNat, by omega⟩
      have ewp : IntKind.wrap .i64 (p : Int) = p := wr (by omega)
      have hpe : (kd - 6).toNat = p := by omega
      have hne : ((nn : Int) - (kd - 6)).toNat = nn - p := by omega
      rw [hpe, hne] at hdec
      have b5 := gt_f (show (p : Int) ≤ (nn : Int) by omega)
      have b6 := ge_f (show (p : Int) < (nn : Int) by omega)
      have ew2 : IntKind.wrap .i64 ((nn : Int) - (p : Int)) = ((nn - p : Nat) : Int) := by rw [wr (by omega)]; omega
      obtain ⟨S1, S2⟩ := refSmpO_is k1.wf d2 (n := p) (by omega)
      cases hs : valO bs 24 (-8388608) p a2 with
      | none =>
        obtain ⟨z, r3, m2, e4, k2⟩ := S1 hs
        refine bad m2 (by rw [hdec, hs]; rfl) ?_ (k1.trans k2)
        rw [overdubref05_Decode_eq]
        simp -implicitDefEqProofs only [e1, e2, e3, b1, b2, b3, b5, b6, f0, f1, g6, l6, hp, ewp, e4, ss]
      | some q =>
        obtain ⟨z, r3, m2, e4, k2, o2, d3⟩ := S2 q hs
        have hql := valO_len hs
        have ha3 := valO_le hs ha2
        rw [hs, Option.bind_some] at hdec
        obtain ⟨C1, C2⟩ := refCofO_loop (μ0 := m2) (s7 := (nn : Int)) (s10 := z) (kind := kd) (n := p) k2.wf (by omega) (by omega) p 0 m2 r3 .nilSlice [] q.2 (Nat.zero_add _) rfl (Keep.refl k2.wf) (OwnRow.nil _ _ _ _) (d3.more k2.next)
        rw [n0] at C1 C2
        cases hc : valO bs 16 (-32768) p q.2 with
        | none =>
          obtain ⟨m3, e7, k3⟩ := C1 hc
          refine bad m3 (by rw [hdec, hc]; rfl) ?_ (k1.trans (k2.trans k3))
          rw [overdubref05_Decode_eq]
          simp -implicitDefEqProofs only [e1, e2, e3, b1, b2, b3, b5, b6, f0, f1, g6, l6, hp, ewp, e4, e7, ss]
        | some q3 =>
          obtain ⟨r4, z3, m3, e7, k3, o3, d4⟩ := C2 q3 hc
          rw [List.nil_append] at o3
          have hcl := valO_len hc
          rw [hc, Option.bind_some] at hdec
          obtain ⟨R1, R2⟩ := refResO_is k3.wf hl (d4.more k3.next) (valO_le hc ha3) (n := nn - p) (by omega)
          cases hrs : resO bs (nn - p) q3.2 with
          | none =>
            obtain ⟨z2, r5, m4, e5, k4⟩ := R1 hrs
            refine bad m4 (by rw [hdec, hrs]; rfl) ?_ (k1.trans (k2.trans (k3.trans k4)))
            rw [overdubref05_Decode_eq]
            simp -implicitDefEqProofs only [e1, e2, e3, b1, b2, b3, b5, b6, f0, f1, g6, l6, g1, hp, ewp, e4, e7, ew2, e5, ss]
          | some q2 =>
            obtain ⟨z2, r5, m4, e5, k4, o4, d5, hrl⟩ := R2 q2 hrs
            rw [hrs, Option.bind_some] at hdec
            obtain ⟨o, m5, e8, k5, o5⟩ := refRest_is k4.wf ((o2.row.same k3).same k4) o4.row (o3.row.same k4) (by omega) (by omega) (by omega)
            have kk := k1.trans (k2.trans (k3.trans (k4.trans k5)))
            have e6 := (d5.same k5).rest hl
            by_cases he : restE q.1 q2.1 q3.1 = 0
            · rw [if_pos he, Option.bind_some] at hdec
              cases hrf : restF bs q2.2 (8 * bs.length - q2.2) 0
              · rw [hrf] at e6
                refine bad m5 (by rw [hdec, hrf]; rfl) ?_ kk
                rw [overdubref05_Decode_eq]
                simp -implicitDefEqProofs only [e1, e2, e3, b1, b2, b3, b5, b6, f0, f1, g6, l6, g1, hp, ewp, e4, e7, ew2, e5, e8, ne_f he, e6, ss]
              · rw [hrf] at e6
                refine good o m5 _ (by rw [hdec, hrf]; rfl) ?_ kk (o5.less (k1.trans (k2.trans (k3.trans k4))).next)
                rw [overdubref05_Decode_eq]
                simp -implicitDefEqProofs only [e1, e2, e3, b1, b2, b3, b5, b6, f0, f1, g6, l6, g1, hp, ewp, e4, e7, ew2, e5, e8, ne_f he, e6, ss]
            · rw [if_neg he] at hdec
              refine bad m5 (by rw [hdec]; rfl) ?_ kk
              rw [overdubref05_Decode_eq]
              simp -implicitDefEqProofs only [e1, e2, e3, b1, b2, b3, b5, b6, f0, f1, g6, l6, g1, hp, ewp, e4, e7, ew2, e5, e8, ne_t he, ss]
    · rw [if_neg c3] at hdec
      refine bad m1 (by rw [hdec]; rfl) ?_ k1
      rw [overdubref05_Decode_eq]
      by_cases c3' : kd - 6 > (nn : Int)
      · simp -implicitDefEqProofs only [e1, e2, e3, b1, b2, b3, f0, f1, g6, l6, ew, gt_t c3', ss]
      · simp -implicitDefEqProofs only [e1, e2, e3, b1, b2, b3, f0, f1, g6, l6, ew, gt_f (show kd - 6 ≤ (nn : Int) by omega), ge_t (show (nn : Int) ≤ kd - 6 by omega), ss]
end Go.Proofs.YtnjenjbodcihmaaGreat
namespace Go.Proofs.YtnjenjbodcihmaaGreat
open Go Go.Proofs.YtnjenjbodcihmaaGreat.E
set_option linter.unusedVariables false
set_option linter.unusedSimpArgs false
theorem refBits_loop {y : SV} {a b : Int} (μ : AMem) : ∀ (k i : Nat) (s : BitVec 32), i + k = 8 → overdubref01_Add_L2 [.s y, .s (.int .i64 a), .s (.int .i64 b)] [.s (.int .u32 (V s)), .s (.int .i64 (i : Int))] μ = some (.exit 2, [.s (.int .u32 (V (stepsB k s))), .s y, .s (.int .i64 a), .s (.int .i64 b)], μ)
  | 0, i, s, h => by
    obtain rfl : i = 8 := by omega
    rw [overdubref01_Add_L2_eq, overdubref01_Add_L2_B_eq]
    simp -implicitDefEqProofs only [lt_f (show (8 : Int) ≤ ((8 : Nat) : Int) by omega), ss]
    rfl
  | k + 1, i, s, h => by
    have ih := refBits_loop (y := y) (a := a) (b := b) μ k (i + 1) (stepB s) (by omega)
    have ei : IntKind.wrap .i64 ((i : Int) + 1) = ((i + 1 : Nat) : Int) := by rw [wr (by omega)]; rfl
    have hp : (79764919 : Int) = V polyB := rfl
    have h1 := V_shl s 1
    rw [overdubref01_Add_L2_eq, overdubref01_Add_L2_B_eq, V_top]
    cases hm : s.msb
    · have : stepB s = s <<< 1 := by unfold stepB; rw [hm]; rfl
      rw [this] at ih
      simp -implicitDefEqProofs only [lt_t (show (i : Int) < 8 by omega), h1, ei, ss]
      unfold stepsB; rw [this]
      exact ih
    · have : stepB s = (s <<< 1) ^^^ polyB := by unfold stepB; rw [hm]; rfl
      rw [this] at ih
      simp -implicitDefEqProofs only [lt_t (show (i : Int) < 8 by omega), h1, hp, V_xor, ei, ss]
      unfold stepsB; rw [this]
      exact ih
theorem ofB_V {c : Int} (h : 0 ≤ c ∧ c < 256) : IntKind.wrap .u32 ((IntKind.wrap .u32 c) * 2 ^ (24 : Nat)) = V (BitVec.ofNat 32 c.toNat <<< 24) := by
  have e : ((c.toNat : Nat) : Int) = c := by omega
  have := ofN_V c.toNat (by omega)
  rw [e] at this
  exact this
theorem refAdd_loop {μ : AMem} {y : SV} {bs : List Int} (hy : IsRow μ .u8 y bs) (hb : ∀ v ∈ bs, 0 ≤ v ∧ v < 256) (hl : bs.length ≤ 1000000) :
    ∀ (k i : Nat) (s : BitVec 32), i + k = bs.length → overdubref01_Add_L1 [.s y, .s (.int .i64 (bs.length : Int))] [.s (.int .u32 (V s)), .s (.int .i64 (i : Int))] μ = some (.exit 0, [.s (.int .u32 (V ((bs.drop i).foldl addB s)))], μ)
  | 0, i, s, hi => by
    obtain rfl : i = bs.length := by omega
    rw [overdubref01_Add_L1_eq, overdubref01_Add_L1_B_eq, List.drop_eq_nil_of_le (Nat.le_refl _)]
    simp -implicitDefEqProofs only [lt_f (Int.le_refl (bs.length : Int)), ss]
    rfl
  | k + 1, i, s, hi => by
    have hil : i < bs.length := by omega
    have hc := hb _ (getD_mem hil)
    have ei : IntKind.wrap .i64 ((i : Int) + 1) = ((i + 1 : Nat) : Int) := by rw [wr (by omega)]; rfl
    have g1 := fun {R : Type} (K : AV → Option R) => hy.ind (i := (i : Int)) (by omega) (by omega) K
    have l1 := fun {R : Type} (K : AV → Option R) => hy.load (i := (i : Int)) (by omega) (by omega) K
    have e1 := refBits_loop (y := y) (a := (bs.length : Int)) (b := (i : Int)) μ 8 0 (s ^^^ (BitVec.ofNat 32 (bs.getD i 0).toNat <<< 24)) rfl
    rw [n0, ← addB_steps s hc] at e1
    have ih := refAdd_loop hy hb hl k (i + 1) (addB s (bs.getD i 0)) (by omega)
    rw [overdubref01_Add_L1_eq, overdubref01_Add_L1_B_eq, drop_cons hil, List.foldl_cons]
    simp -implicitDefEqProofs only [lt_t (show (i : Int) < (bs.length : Int) by omega), g1, l1, nat_toNat, ofB_V hc, V_xor, e1, Nat.beq_refl, ei, ss]
    exact ih
theorem refSum_is {μ : AMem} {y : SV} {bs : List Int} (hy : IsRow μ .u8 y bs) (hb : ∀ v ∈ bs, 0 ≤ v ∧ v < 256) (hl : bs.length ≤ 1000000) : overdubref01_Sum [.s y] μ = some (.s (.int .u32 (V (sumB bs))), μ) := by
  have e2 := refAdd_loop hy hb hl bs.length 0 4294967295#32 (Nat.zero_add _)
  rw [n0, List.drop_zero] at e2
  have hV : (4294967295 : Int) = V 4294967295#32 := rfl
  rw [overdubref01_Sum_eq, overdubref01_Add_eq, hy.len, hV]
  simp -implicitDefEqProofs only [e2, Nat.beq_refl, ss]
  rfl
theorem summed_loop {μ0 : AMem} (h0 : WF μ0) {n : Nat} (hn : n ≤ 1000) : ∀ (k : Nat) (μ : AMem) (y : SV) (bs : List Int), n - bs.length = k → bs.length ≤ 1000 → Same μ0 μ → OwnRow μ0.next μ .u8 5 y bs →
    ∃ y' μ', overdubref01_Summed_L1 [.s (.int .i64 (n : Int))] [.s y] μ = some (.exit 0, [.s y'], μ') ∧ Same μ0 μ' ∧ OwnRow μ0.next μ' .u8 5 y' (bs ++ List.replicate k 0)
  | 0, μ, y, bs, hk, hb, hs, hy => by
    refine ⟨y, μ, ?_, hs, by simpa using hy⟩
    rw [overdubref01_Summed_L1_eq, overdubref01_Summed_L1_B_eq, hy.row.len]
    simp -implicitDefEqProofs only [lt_f (show (n : Int) ≤ (bs.length : Int) by omega), ss]
  | k + 1, μ, y, bs, hk, hb, hs, hy => by
    obtain ⟨y1, m1, e1, k1, o1⟩ := pushS h0 hs hy (B := 1) (a := 1) (b := 2) (n := 4) (q := some 1) 0 (by omega) (by omega) (by omega) (by omega) (by omega)
    obtain ⟨y', m', q1, q2, q3⟩ := summed_loop h0 hn k m1 y1 _ (by simp; omega) (by simp; omega) k1 o1
    refine ⟨y', m', ?_, q2, by rw [List.append_assoc, List.singleton_append] at q3; exact q3⟩
    rw [overdubref01_Summed_L1_eq, overdubref01_Summed_L1_B_eq, hy.row.len]
    simp -implicitDefEqProofs only [lt_t (show (bs.length : Int) < (n : Int) by omega), e1, ss]
    exact q1
theorem summed_is {μ : AMem} (hw : WF μ) {n : Nat} (hn : n ≤ 1000) {y : SV} {bs : List Int} (hy : IsRow μ .u8 y bs) (hb : ∀ v ∈ bs, 0 ≤ v ∧ v < 256) (hl : bs.length ≤ 1000) :
    ∃ z μ', overdubref01_Summed [.s y, .s (.int .i64 (n : Int))] μ = some (.s z, μ') ∧ Same μ μ' ∧ OwnRow μ.next μ' .u8 5 z ((bs ++ List.replicate (n - bs.length) 0) ++ sum4 (sumB (bs ++ List.replicate (n - bs.length) 0))) := by
  obtain ⟨y1, m1, e1, k1, o1⟩ := copyS (e := 5) (B := 1) (b := 1) (n := 3) hw (Keep.refl hw) hy (by omega) (by omega) (by omega)
  obtain ⟨y2, m2, e2, k2, o2⟩ := summed_loop hw hn (n - bs.length) m1 y1 bs rfl hl k1 o1
  have hbz : ∀ v ∈ bs ++ List.replicate (n - bs.length) (0 : Int), 0 ≤ v ∧ v < 256 := fun v hv => by
    rcases List.mem_append.mp hv with h | h
    · exact hb v h
    · rw [List.eq_of_mem_replicate h]; omega
  have hlz : (bs ++ List.replicate (n - bs.length) (0 : Int)).length ≤ 1000 := by simp; omega
  have e3 := refSum_is o2.row hbz (by omega)
  have k3 : Same m2 ((m2.bump 15).set (m2.next + 12) (rowObj ((sum4 (sumB (bs ++ List.replicate (n - bs.length) 0))).map (.int .u8)) 1 5 (some 4))) := Same.bumpSet k2.wf (by omega) _
  have hn2 := k2.next
  have r3 : IsRow ((m2.bump 15).set (m2.next + 12) (rowObj ((sum4 (sumB (bs ++ List.replicate (n - bs.length) 0))).map (.int .u8)) 1 5 (some 4))) .u8 (.slice (m2.next + 12) 0 0 4) (sum4 (sumB (bs ++ List.replicate (n - bs.length) 0))) := IsRow.made (o := rowObj ((sum4 (sumB (bs ++ List.replicate (n - bs.length) 0))).map (.int .u8)) 1 5 (some 4)) (set_self _ _ _) rfl rfl rfl
  have o3 : OwnRow μ.next ((m2.bump 15).set (m2.next + 12) (rowObj ((sum4 (sumB (bs ++ List.replicate (n - bs.length) 0))).map (.int .u8)) 1 5 (some 4))) .u8 5 y2 (bs ++ List.replicate (n - bs.length) 0) := o2.old fun id o ho _ => k3.old id o ho fun h => h
  have f13 : ((m2.bump 15).set (m2.next + 12) (rowObj ((sum4 (sumB (bs ++ List.replicate (n - bs.length) 0))).map (.int .u8)) 1 5 (some 4))).obj (m2.next + 13) = none := by
    rw [set_obj, if_neg (by omega)]; exact freshB k2.wf 15 13
  obtain ⟨z, m4, e4, k4, o4⟩ := appS (B := 1) (nid := m2.next + 13) hw (k2.trans k3) o3 r3 (by omega) (by simp [sum4] at hlz ⊢; omega) (by omega) (by simp) f13
  refine ⟨z, m4, ?_, k4, o4⟩
  rw [overdubref01_Summed_eq]
  simp -implicitDefEqProofs only [e1, e2, Nat.beq_refl, e3, ss]
  have e4' := fun {R : Type} (K : AV → AMem → Option R) => e4 K
  simp only [sum4, List.map_cons, List.map_nil] at e4'
  simp -implicitDefEqProofs only [e4', ss]
theorem refSeal_no {μ : AMem} {y : SV} {bs : List Int} (hy : IsRow μ .u8 y bs) (hl : 124 < bs.length) : overdubref05_Seal [.s y] μ = some (.tuple [.s .nilSlice, .s (.int .i64 4)], μ) := by
  rw [overdubref05_Seal_eq, hy.len]
  simp -implicitDefEqProofs only [gt_t (show (124 : Int) < (bs.length : Int) by omega), ss]
theorem refSeal_is {μ : AMem} (hw : WF μ) {y : SV} {bs : List Int} (hy : IsRow μ .u8 y bs) (hb : ∀ v ∈ bs, 0 ≤ v ∧ v < 256) (hl : bs.length ≤ 124) :
    ∃ z μ', overdubref05_Seal [.s y] μ = some (.tuple [.s z, .s (.int .i64 0)], μ') ∧ Same μ μ' ∧ OwnRow μ.next μ' .u8 5 z (sealZ bs) := by
  obtain ⟨z, m, e1, k1, o1⟩ := summed_is hw (n := 124) (by omega) hy hb (by omega)
  rw [show ((124 : Nat) : Int) = 124 from rfl] at e1
  refine ⟨z, m, ?_, k1, o1⟩
  rw [overdubref05_Seal_eq, hy.len]
  simp -implicitDefEqProofs only [gt_f (show (bs.length : Int) ≤ 124 by omega), e1, ss]
theorem whole_eq {bs : List Int} (hl : bs.length = 128) : (bs.take 124 ++ sum4 (sumB (bs.take 124)) == bs) = wholeB bs := by
  unfold wholeB
  rw [decide_eq_true hl, Bool.true_and]
  have e : ∀ l : List Int, (bs.take 124 ++ l = bs) ↔ l = bs.drop 124 := fun l => by
    constructor
    · intro h
      have := congrArg (List.drop 124) h
      rw [List.drop_left' (by simp; omega)] at this
      exact this
    · rintro rfl; exact List.take_append_drop 124 bs
  by_cases h : sum4 (sumB (bs.take 124)) = bs.drop 124
  · rw [beq_iff_eq.mpr h, beq_iff_eq.mpr ((e _).mpr h)]
  · rw [beq_eq_false_iff_ne.mpr h, beq_eq_false_iff_ne.mpr fun h2 => h ((e _).mp h2)]
theorem refWhole_is {μ : AMem} (hw : WF μ) {y : SV} {bs : List Int} (hy : IsRow μ .u8 y bs) (hb : ∀ v ∈ bs, 0 ≤ v ∧ v < 256) : ∃ μ', overdubref01_Whole [.s y] μ = some (.s (.bool (wholeB bs)), μ') ∧ Same μ μ' := by
  by_cases hl : bs.length = 128
  · have g1 := fun {R : Type} (K : AV → Option R) => hy.cut (a := 0) (b := 124) (by omega) (by omega) (by omega) K
    have r1 : IsRow μ .u8 (cutV y 0 124) (bs.take 124) := by
      have := hy.cutRow (a := 0) (b := 124) (by omega) (by omega) (by omega)
      simpa using this
    have hb1 : ∀ v ∈ bs.take 124, 0 ≤ v ∧ v < 256 := fun v hv => hb v (List.mem_of_mem_take hv)
    obtain ⟨z, m, e1, k1, o1⟩ := summed_is hw (n := 0) (by omega) r1 hb1 (by simp; omega)
    rw [Nat.zero_sub, List.replicate_zero, List.append_nil] at o1
    rw [n0] at e1
    have hb2 : ∀ v ∈ bs.take 124 ++ sum4 (sumB (bs.take 124)), 0 ≤ v ∧ v < 256 := fun v hv => (List.mem_append.mp hv).elim (hb1 v) (sum4_byte _ v)
    have t1 := fun {R : Type} (K : AV → Option R) => str_is hy hb K
    have t2 := fun {R : Type} (K : AV → Option R) => str_is (hy.same k1) hb K
    have t3 := fun {R : Type} (K : AV → Option R) => str_is o1.row hb2 K
    refine ⟨m, ?_, k1⟩
    rw [overdubref01_Whole_eq, hy.len]
    simp -implicitDefEqProofs only [eq_t (show ((bs.length : Nat) : Int) = 128 by omega), g1, t1, e1, t2, chk_true, t3, asT, whole_eq hl, ss]
  · refine ⟨μ, ?_, Keep.refl hw⟩
    rw [whole_short hl, overdubref01_Whole_eq, hy.len]
    simp -implicitDefEqProofs only [eq_f (show ¬ ((bs.length : Nat) : Int) = 128 by omega), ss]
theorem refOpen_is {μ : AMem} (hw : WF μ) {y : SV} {bs : List Int} (hy : IsRow μ .u8 y bs) (hb : ∀ v ∈ bs, 0 ≤ v ∧ v < 256) :
    ∃ z μ', overdubref05_Open [.s y] μ = some (.tuple [.s z, .s (.int .i64 (if (openO bs).isSome then 0 else 2))], μ') ∧ Same μ μ' ∧ OwnRow μ.next μ' .i64 3 z ((openO bs).getD []) := by
  obtain ⟨m, e1, k1⟩ := refWhole_is hw hy hb
  cases hq : wholeB bs
  · rw [hq] at e1
    have ho : openO bs = none := by unfold openO; rw [hq]; rfl
    rw [ho]
    refine ⟨.nilSlice, m, ?_, k1, OwnRow.nil _ _ _ _⟩
    rw [overdubref05_Open_eq]
    simp -implicitDefEqProofs only [e1, Option.isSome_none, Bool.false_eq_true, if_false, ss]
  · rw [hq] at e1
    have hl := wholeB_len hq
    have ho : openO bs = decO (bs.take 124) := by unfold openO; rw [hq]; rfl
    rw [ho]
    have hy1 := hy.same k1
    have g1 := fun {R : Type} (K : AV → Option R) => hy1.cut (a := 0) (b := 124) (by omega) (by omega) (by omega) K
    have r1 : IsRow m .u8 (cutV y 0 124) (bs.take 124) := by
      have := hy1.cutRow (a := 0) (b := 124) (by omega) (by omega) (by omega)
      simpa using this
    obtain ⟨z, m2, e2, k2, o2⟩ := refDecode_is k1.wf r1 (fun v hv => hb v (List.mem_of_mem_take hv)) (by simp; omega)
    refine ⟨z, m2, ?_, k1.trans k2, o2.less k1.next⟩
    rw [overdubref05_Open_eq]
    simp -implicitDefEqProofs only [e1, g1, e2, ss]
theorem refRight_loop {μ : AMem} {x : SV} {zs : List Int} (hx : IsRow μ .i64 x zs) (hb : zs.length ≤ 1000000000) :
    ∀ k i : Nat, i + k = zs.length → overdubref05_Pack_L1 [.s x, .s (.int .i64 zs.length)] [.s (.int .i64 i)] μ = if (zs.drop i).all okS then some (.exit 0, [.s x], μ) else some (.ret, [.s .nilSlice, .s (.int .i64 0), .s (.int .i64 8)], μ)
  | 0, i, h => by
    obtain rfl : i = zs.length := by omega
    rw [overdubref05_Pack_L1_eq, overdubref05_Pack_L1_B_eq, List.drop_eq_nil_of_le (Nat.le_refl _)]
    simp -implicitDefEqProofs only [lt_f (Int.le_refl (zs.length : Int)), List.all_nil, if_true, ss]
  | k + 1, i, h => by
    have ih := refRight_loop hx hb k (i + 1) (by omega)
    have hi : i < zs.length := by omega
    have ei : IntKind.wrap .i64 ((i : Int) + 1) = ((i + 1 : Nat) : Int) := by rw [wr (by omega)]; rfl
    have g1 := fun {R : Type} (K : AV → Option R) => hx.ind (i := (i : Int)) (by omega) (by omega) K
    have l1 := fun {R : Type} (K : AV → Option R) => hx.load (i := (i : Int)) (by omega) (by omega) K
    rw [overdubref05_Pack_L1_eq, overdubref05_Pack_L1_B_eq, drop_cons hi, List.all_cons]
    by_cases h1 : zs.getD i 0 < -8388608
    · have : okS (zs.getD i 0) = false := by unfold okS; rw [decide_eq_false (p := zs.getD i 0 ≥ -8388608) (by omega), Bool.false_and]
      simp -implicitDefEqProofs only [lt_t (show (i : Int) < (zs.length : Int) by omega), g1, l1, nat_toNat, lt_t h1, this, Bool.false_and, Bool.false_eq_true, if_false, ss]
    · by_cases h2 : zs.getD i 0 > 8388607
      · have : okS (zs.getD i 0) = false := by unfold okS; rw [decide_eq_false (p := zs.getD i 0 ≤ 8388607) (by omega), Bool.and_false]
        simp -implicitDefEqProofs only [lt_t (show (i : Int) < (zs.length : Int) by omega), g1, l1, nat_toNat, lt_f (show -8388608 ≤ zs.getD i 0 by omega), gt_t (show 8388607 < zs.getD i 0 by omega), this, Bool.false_and, Bool.false_eq_true, if_false, ss]
      · have : okS (zs.getD i 0) = true := by unfold okS; rw [decide_eq_true (p := zs.getD i 0 ≥ -8388608) (by omega), decide_eq_true (p := zs.getD i 0 ≤ 8388607) (by omega)]; rfl
        simp -implicitDefEqProofs only [lt_t (show (i : Int) < (zs.length : Int) by omega), g1, l1, nat_toNat, lt_f (show -8388608 ≤ zs.getD i 0 by omega), gt_f (show zs.getD i 0 ≤ 8388607 by omega), this, Bool.true_and, ei, ss]
        exact ih
theorem refPack_loop {μ0 : AMem} (h0 : WF μ0) {y : SV} {xs : List Int} (hy : IsRow μ0 .i64 y xs) (ht : tame xs) :
    ∀ (m : Nat) (μ : AMem), 1 ≤ m → m ≤ xs.length → m ≤ 64 → Same μ0 μ →
      ∃ z bs ds μ', overdubref05_Pack_L2 [.s y] [.s (.int .i64 (m : Int))] μ = some (.ret, [.s z, .s (.int .i64 (packM xs m : Int)), .s (.int .i64 0)], μ') ∧ Same μ0 μ' ∧ encD (xs.take (packM xs m)) = some ds ∧ holds bs ds ∧ OwnRow μ0.next μ' .u8 5 z (sealZ bs) := by
  intro m
  induction m with
  | zero => intro μ h1; omega
  | succ m ih =>
    intro μ h1 hx hm hs
    obtain ⟨y1, g1, r1⟩ := (hy.same hs).front (n := m + 1) hx
    obtain ⟨ds, bs, z, m2, d1, hh, e1, k1, o1⟩ := (refEncode_is hs.wf r1 (by simp; omega)).2 (encE_ok (tame_take ht _) (by simp; omega))
    have hbl : bs.length = flen (xs.take (m + 1)) := by rw [flen_of d1]; exact hh.1
    have hn := hs.next
    have hn1 := k1.next
    by_cases hf : flen (xs.take (m + 1)) ≤ 124
    · have e : packM xs (m + 1) = m + 1 := by rw [packM, if_pos hf]
      obtain ⟨z2, m3, e2, k2, o2⟩ := refSeal_is k1.wf o1.row hh.2.1 (by omega)
      refine ⟨z2, bs, ds, m3, ?_, hs.trans (k1.trans k2), by rw [e]; exact d1, hh, o2.less (by omega)⟩
      rw [e, overdubref05_Pack_L2_eq, overdubref05_Pack_L2_B_eq]
      simp -implicitDefEqProofs only [gt_t (show (0 : Int) < ((m + 1 : Nat) : Int) by omega), g1, e1, e2, eq_t (rfl : (0 : Int) = 0), ss]
    · have e : packM xs (m + 1) = packM xs m := by rw [packM, if_neg hf]
      have hm1 : 1 ≤ m := by
        rcases Nat.eq_zero_or_pos m with h | h
        · subst h
          exact absurd (flen_small (tame_take ht 1) (by simp; omega)) hf
        · exact h
      have ei : IntKind.wrap .i64 (((m + 1 : Nat) : Int) - 1) = (m : Int) := by rw [wr (by omega)]; omega
      have e2 := refSeal_no o1.row (by omega)
      obtain ⟨z', bs', ds', μ', q1, q2⟩ := ih m2 hm1 (by omega) (by omega) (hs.trans k1)
      refine ⟨z', bs', ds', μ', ?_, by rw [e]; exact q2⟩
      rw [e, overdubref05_Pack_L2_eq, overdubref05_Pack_L2_B_eq]
      simp -implicitDefEqProofs only [gt_t (show (0 : Int) < ((m + 1 : Nat) : Int) by omega), g1, e1, e2, eq_f (show ¬ (4 : Int) = 0 by omega), ei, ss]
      exact q1
theorem refPack_no {μ : AMem} {y : SV} {xs : List Int} (hy : IsRow μ .i64 y xs) (hl : xs.length ≤ 1000000) (he : packE xs ≠ 0) : overdubref05_Pack [.s y] μ = some (.tuple [.s .nilSlice, .s (.int .i64 0), .s (.int .i64 (packE xs))], μ) := by
  unfold packE at *
  have hr := refRight_loop hy (by omega) xs.length 0 (Nat.zero_add _)
  rw [n0, List.drop_zero] at hr
  rw [overdubref05_Pack_eq, hy.len]
  by_cases h0 : xs.length = 0
  · rw [if_pos h0]
    simp -implicitDefEqProofs only [eq_t (show ((xs.length : Nat) : Int) = 0 by omega), ss]
  · rw [if_neg h0] at he ⊢
    cases ha : xs.all okS
    · rw [ha] at hr
      simp only [Bool.false_eq_true, if_false] at hr
      simp -implicitDefEqProofs only [eq_f (show ¬ ((xs.length : Nat) : Int) = 0 by omega), hr, Bool.false_eq_true, if_false, ss]
    · rw [ha] at he; exact absurd rfl he
theorem refPack_is {μ : AMem} (hw : WF μ) {y : SV} {xs : List Int} (hy : IsRow μ .i64 y xs) (hl : xs.length ≤ 1000000) (ht : tame xs) (h1 : 1 ≤ xs.length) :
    ∃ z bs ds μ', encD (xs.take (packN xs)) = some ds ∧ holds bs ds ∧ overdubref05_Pack [.s y] μ = some (.tuple [.s z, .s (.int .i64 (packN xs : Int)), .s (.int .i64 0)], μ') ∧ Same μ μ' ∧ OwnRow μ.next μ' .u8 5 z (sealZ bs) := by
  have hr := refRight_loop hy (by omega) xs.length 0 (Nat.zero_add _)
  rw [n0, List.drop_zero, tame_allOk ht, if_pos rfl] at hr
  obtain ⟨z, bs, ds, m, e1, k1, d1, hh, o1⟩ := refPack_loop hw hy ht (min 64 xs.length) μ (by omega) (by omega) (by omega) (Keep.refl hw)
  have hmin : (if 64 < (xs.length : Int) then 64 else (xs.length : Int)) = ((min 64 xs.length : Nat) : Int) := by
    split <;> omega
  refine ⟨z, bs, ds, m, d1, hh, ?_, k1, o1⟩
  rw [overdubref05_Pack_eq, hy.len]
  simp -implicitDefEqProofs only [eq_f (show ¬ ((xs.length : Nat) : Int) = 0 by omega), hr, Nat.beq_refl, hy.len, hmin, e1, ss]
  rfl
end Go.Proofs.YtnjenjbodcihmaaGreat
namespace Go.Proofs.YtnjenjbodcihmaaGreat
open Go Go.Proofs.YtnjenjbodcihmaaGreat.E
set_option linter.unusedVariables false
set_option linter.unusedSimpArgs false
theorem wf8 {n : Int} (h : (Lit.int .u8 n).wf = true) : 0 ≤ n ∧ n < 256 := by
  have : 0 ≤ n ∧ n ≤ 255 := by simpa [Lit.wf, IntKind.min, IntKind.max, IntKind.signed, IntKind.bits] using h
  omega
theorem runZ_le (g : List Int → Int) (w rs : List Int) : (runZ g w rs).length ≤ 64 := by
  unfold runZ
  split
  · split
    · simp
    · split
      · simp
      · omega
  · simp
theorem bodyO_le {bs : List Int} {k n : Int} {a : Nat} {q : List Int × Nat} (h : bodyO bs k n a = some q) : q.1.length ≤ 64 := by
  unfold bodyO at h
  split at h
  · cases h
  · split at h
    · obtain ⟨r, hr, rfl⟩ := Option.map_eq_some_iff.mp h
      simp; omega
    · split at h
      · rw [valO_len h]; omega
      · split at h
        · split at h
          · obtain ⟨w, _, h⟩ := Option.bind_eq_some_iff.mp h
            obtain ⟨r, _, h⟩ := Option.bind_eq_some_iff.mp h
            split at h
            · cases h
              unfold frestZ
              dsimp only
              split
              · exact runZ_le ..
              · simp
            · cases h
          · cases h
        · split at h
          · obtain ⟨w, _, h⟩ := Option.bind_eq_some_iff.mp h
            obtain ⟨c, _, h⟩ := Option.bind_eq_some_iff.mp h
            obtain ⟨r, _, h⟩ := Option.bind_eq_some_iff.mp h
            split at h
            · cases h
              unfold restZ
              dsimp only
              split
              · exact runZ_le ..
              · simp
            · cases h
          · cases h
theorem decO_le (bs : List Int) : ((decO bs).getD []).length ≤ 64 := by
  cases hd : decO bs with
  | none => simp
  | some xs =>
    unfold decO at hd
    obtain ⟨r, _, hd⟩ := Option.bind_eq_some_iff.mp hd
    obtain ⟨r2, _, hd⟩ := Option.bind_eq_some_iff.mp hd
    obtain ⟨q, hq, hd⟩ := Option.bind_eq_some_iff.mp hd
    split at hd
    · cases hd; exact bodyO_le hq
    · cases hd
end Go.Proofs.YtnjenjbodcihmaaGreat
namespace Go.Proofs.YtnjenjbodcihmaaGreat
open Go Go.Proofs.YtnjenjbodcihmaaGreat.E
set_option linter.unusedVariables false
set_option linter.unusedSimpArgs false
theorem cutB_is {μ : AMem} {x : SV} {zs : List Int} (h : IsRow μ .u8 x zs) (n : Nat) :
    ∃ y, overdubkeep_Cut_byte [.s x, .s (.int .i64 n)] μ = some (.s y, μ) ∧ IsRow μ .u8 y (zs.take n) := by
  rw [overdubkeep_Cut_byte_eq, h.len]
  simp only [Option.bind_some]
  have e : (if ((n : Nat) : Int) < ((zs.length : Nat) : Int) then ((n : Nat) : Int) else ((zs.length : Nat) : Int)) = ((min n zs.length : Nat) : Int) := by split <;> omega
  rw [e, h.cut (by omega) (by omega) (by omega)]
  refine ⟨_, rfl, ?_⟩
  have := h.cutRow (a := 0) (b := ((min n zs.length : Nat) : Int)) (by omega) (by omega) (by omega)
  have e2 : (zs.take (((min n zs.length : Nat) : Int)).toNat).drop (0 : Int).toNat = zs.take n := by
    simp only [Int.toNat_zero, List.drop_zero]
    rw [show (((min n zs.length : Nat) : Int)).toNat = min n zs.length by omega]
    rcases Nat.le_total n zs.length with hl | hl
    · rw [Nat.min_eq_left hl]
    · rw [Nat.min_eq_right hl, List.take_of_length_le (Nat.le_refl _), List.take_of_length_le hl]
  rw [e2] at this
  exact this
end Go.Proofs.YtnjenjbodcihmaaGreat
namespace Go.Proofs.YtnjenjbodcihmaaGreat
open Go Go.Proofs.YtnjenjbodcihmaaGreat.E
set_option linter.unusedVariables false
set_option linter.unusedSimpArgs false
theorem same_loop {μ : AMem} {x y : SV} {zs ws : List Int} (hx : IsRow μ .i64 x zs) (hy : IsRow μ .i64 y ws) (hl : zs.length = ws.length) (hb : zs.length ≤ 4611686018427387904) :
    ∀ k i : Nat, i + k = zs.length → overdubkeep_Same_int_L1 [.s x, .s y] [.s (.int .i64 i)] μ = if zs.drop i = ws.drop i then some (.exit 0, [], μ) else some (.ret, [.s (.bool false)], μ)
  | 0, i, h => by
    have h1 : ¬ (i : Int) < (zs.length : Int) := by omega
    rw [overdubkeep_Same_int_L1_eq, overdubkeep_Same_int_L1_B_eq, hx.len]
    rw [List.drop_eq_nil_of_le (by omega), List.drop_eq_nil_of_le (by omega), if_pos rfl]
    simp only [h1, Option.bind_some, decide_true, decide_false, cond_true, cond_false, seqJ_n, seqJ_r, seqJ_e, headK_c, asB_bool, asI_int, asS_s, asN_int, Bool.not_true, Bool.not_false, Nat.beq_refl]
  | k + 1, i, h => by
    have ih := same_loop hx hy hl hb k (i + 1) (by omega)
    have h1 : (i : Int) < (zs.length : Int) := by omega
    have e1 : IntKind.wrap .i64 ((i : Int) + 1) = ((i + 1 : Nat) : Int) := by rw [wr (by omega)]; omega
    have e3 : (((i : Nat) : Int)).toNat = i := by omega
    have hi : i < zs.length := by omega
    have hi2 : i < ws.length := by omega
    rw [overdubkeep_Same_int_L1_eq, overdubkeep_Same_int_L1_B_eq, hx.len]
    simp only [h1, Option.bind_some, decide_true, decide_false, cond_true, cond_false, seqJ_n, seqJ_r, seqJ_e, headK_c, asB_bool, asI_int, asS_s, asN_int, Bool.not_true, Bool.not_false, Nat.beq_refl]
    rw [hx.ind (by omega) h1, hx.load (by omega) h1, asI_int, hy.ind (by omega) (by omega), hy.load (by omega) (by omega), asI_int, e3]
    rw [List.drop_eq_getElem_cons hi, List.drop_eq_getElem_cons hi2]
    have g1 : zs.getD i 0 = zs[i] := by rw [List.getD_eq_getElem?_getD, List.getElem?_eq_getElem hi]; rfl
    have g2 : ws.getD i 0 = ws[i] := by rw [List.getD_eq_getElem?_getD, List.getElem?_eq_getElem hi2]; rfl
    rw [g1, g2]
    by_cases he : zs[i] = ws[i]
    · have hb1 : (zs[i] != ws[i]) = false := by simp [he]
      have hb2 : (ws[i] != ws[i]) = false := by simp
      simp only [hb2, e1, he, List.cons.injEq, true_and, Option.bind_some, decide_true, decide_false, cond_true, cond_false, seqJ_n, seqJ_r, seqJ_e, headK_c, asB_bool, asI_int, asS_s, asN_int, Bool.not_true, Bool.not_false, Nat.beq_refl]
      exact ih
    · have hb1 : (zs[i] != ws[i]) = true := by simp [he]
      simp only [hb1, he, List.cons.injEq, false_and, if_false, Option.bind_some, decide_true, decide_false, cond_true, cond_false, seqJ_n, seqJ_r, seqJ_e, headK_c, asB_bool, asI_int, asS_s, asN_int, Bool.not_true, Bool.not_false, Nat.beq_refl]
theorem same_is {μ : AMem} {x y : SV} {zs ws : List Int} (hx : IsRow μ .i64 x zs) (hy : IsRow μ .i64 y ws) (hb : zs.length ≤ 4611686018427387904) :
    overdubkeep_Same_int [.s x, .s y] μ = some (.s (.bool (decide (zs = ws))), μ) := by
  rw [overdubkeep_Same_int_eq, hx.len, hy.len]
  by_cases hl : zs.length = ws.length
  · have h1 : ((zs.length : Int) != (ws.length : Int)) = false := by simp [hl]
    have := same_loop hx hy hl hb _ 0 (Nat.zero_add _)
    simp only [h1, Option.bind_some, decide_true, decide_false, cond_true, cond_false, seqJ_n, seqJ_r, seqJ_e, headK_c, asB_bool, asI_int, asS_s, asN_int, Bool.not_true, Bool.not_false, Nat.beq_refl]
    rw [show overdubkeep_Same_int_L1 [.s x, .s y] [.s (.int .i64 0)] μ = _ from this]
    simp only [List.drop_zero]
    by_cases he : zs = ws
    · simp only [he, if_true, Option.bind_some, decide_true, decide_false, cond_true, cond_false, seqJ_n, seqJ_r, seqJ_e, headK_c, asB_bool, asI_int, asS_s, asN_int, Bool.not_true, Bool.not_false, Nat.beq_refl]
    · simp only [he, if_false, Option.bind_some, decide_true, decide_false, cond_true, cond_false, seqJ_n, seqJ_r, seqJ_e, headK_c, asB_bool, asI_int, asS_s, asN_int, Bool.not_true, Bool.not_false, Nat.beq_refl]
  · have h1 : ((zs.length : Int) != (ws.length : Int)) = true := by simp; omega
    have he : ¬ zs = ws := fun h => hl (by rw [h])
    simp only [h1, he, Option.bind_some, decide_true, decide_false, cond_true, cond_false, seqJ_n, seqJ_r, seqJ_e, headK_c, asB_bool, asI_int, asS_s, asN_int, Bool.not_true, Bool.not_false, Nat.beq_refl]
end Go.Proofs.YtnjenjbodcihmaaGreat
namespace Go.Proofs.YtnjenjbodcihmaaGreat
open Go Go.Proofs.YtnjenjbodcihmaaGreat.E
set_option linter.unusedVariables false
set_option linter.unusedSimpArgs false
theorem sameB_loop {μ : AMem} {x y : SV} {zs ws : List Int} (hx : IsRow μ .u8 x zs) (hy : IsRow μ .u8 y ws) (hl : zs.length = ws.length) (hb : zs.length ≤ 4611686018427387904) :
    ∀ k i : Nat, i + k = zs.length → overdubkeep_Same_byte_L1 [.s x, .s y] [.s (.int .i64 i)] μ = if zs.drop i = ws.drop i then some (.exit 0, [], μ) else some (.ret, [.s (.bool false)], μ)
  | 0, i, h => by
    have h1 : ¬ (i : Int) < (zs.length : Int) := by omega
    rw [overdubkeep_Same_byte_L1_eq, overdubkeep_Same_byte_L1_B_eq, hx.len]
    rw [List.drop_eq_nil_of_le (by omega), List.drop_eq_nil_of_le (by omega), if_pos rfl]
    simp only [h1, Option.bind_some, decide_true, decide_false, cond_true, cond_false, seqJ_n, seqJ_r, seqJ_e, headK_c, asB_bool, asI_int, asS_s, asN_int, Bool.not_true, Bool.not_false, Nat.beq_refl]
  | k + 1, i, h => by
    have ih := sameB_loop hx hy hl hb k (i + 1) (by omega)
    have h1 : (i : Int) < (zs.length : Int) := by omega
    have e1 : IntKind.wrap .i64 ((i : Int) + 1) = ((i + 1 : Nat) : Int) := by rw [wr (by omega)]; omega
    have e3 : (((i : Nat) : Int)).toNat = i := by omega
    have hi : i < zs.length := by omega
    have hi2 : i < ws.length := by omega
    rw [overdubkeep_Same_byte_L1_eq, overdubkeep_Same_byte_L1_B_eq, hx.len]
    simp only [h1, Option.bind_some, decide_true, decide_false, cond_true, cond_false, seqJ_n, seqJ_r, seqJ_e, headK_c, asB_bool, asI_int, asS_s, asN_int, Bool.not_true, Bool.not_false, Nat.beq_refl]
    rw [hx.ind (by omega) h1, hx.load (by omega) h1, asI_int, hy.ind (by omega) (by omega), hy.load (by omega) (by omega), asI_int, e3]
    rw [List.drop_eq_getElem_cons hi, List.drop_eq_getElem_cons hi2]
    have g1 : zs.getD i 0 = zs[i] := by rw [List.getD_eq_getElem?_getD, List.getElem?_eq_getElem hi]; rfl
    have g2 : ws.getD i 0 = ws[i] := by rw [List.getD_eq_getElem?_getD, List.getElem?_eq_getElem hi2]; rfl
    rw [g1, g2]
    by_cases he : zs[i] = ws[i]
    · have hb1 : (zs[i] != ws[i]) = false := by simp [he]
      have hb2 : (ws[i] != ws[i]) = false := by simp
      simp only [hb2, e1, he, List.cons.injEq, true_and, Option.bind_some, decide_true, decide_false, cond_true, cond_false, seqJ_n, seqJ_r, seqJ_e, headK_c, asB_bool, asI_int, asS_s, asN_int, Bool.not_true, Bool.not_false, Nat.beq_refl]
      exact ih
    · have hb1 : (zs[i] != ws[i]) = true := by simp [he]
      simp only [hb1, he, List.cons.injEq, false_and, if_false, Option.bind_some, decide_true, decide_false, cond_true, cond_false, seqJ_n, seqJ_r, seqJ_e, headK_c, asB_bool, asI_int, asS_s, asN_int, Bool.not_true, Bool.not_false, Nat.beq_refl]
theorem sameB_is {μ : AMem} {x y : SV} {zs ws : List Int} (hx : IsRow μ .u8 x zs) (hy : IsRow μ .u8 y ws) (hb : zs.length ≤ 4611686018427387904) :
    overdubkeep_Same_byte [.s x, .s y] μ = some (.s (.bool (decide (zs = ws))), μ) := by
  rw [overdubkeep_Same_byte_eq, hx.len, hy.len]
  by_cases hl : zs.length = ws.length
  · have h1 : ((zs.length : Int) != (ws.length : Int)) = false := by simp [hl]
    have := sameB_loop hx hy hl hb _ 0 (Nat.zero_add _)
    simp only [h1, Option.bind_some, decide_true, decide_false, cond_true, cond_false, seqJ_n, seqJ_r, seqJ_e, headK_c, asB_bool, asI_int, asS_s, asN_int, Bool.not_true, Bool.not_false, Nat.beq_refl]
    rw [show overdubkeep_Same_byte_L1 [.s x, .s y] [.s (.int .i64 0)] μ = _ from this]
    simp only [List.drop_zero]
    by_cases he : zs = ws
    · simp only [he, if_true, Option.bind_some, decide_true, decide_false, cond_true, cond_false, seqJ_n, seqJ_r, seqJ_e, headK_c, asB_bool, asI_int, asS_s, asN_int, Bool.not_true, Bool.not_false, Nat.beq_refl]
    · simp only [he, if_false, Option.bind_some, decide_true, decide_false, cond_true, cond_false, seqJ_n, seqJ_r, seqJ_e, headK_c, asB_bool, asI_int, asS_s, asN_int, Bool.not_true, Bool.not_false, Nat.beq_refl]
  · have h1 : ((zs.length : Int) != (ws.length : Int)) = true := by simp; omega
    have he : ¬ zs = ws := fun h => hl (by rw [h])
    simp only [h1, he, Option.bind_some, decide_true, decide_false, cond_true, cond_false, seqJ_n, seqJ_r, seqJ_e, headK_c, asB_bool, asI_int, asS_s, asN_int, Bool.not_true, Bool.not_false, Nat.beq_refl]
end Go.Proofs.YtnjenjbodcihmaaGreat
namespace Go.Proofs.YtnjenjbodcihmaaGreat
open Go Go.Proofs.YtnjenjbodcihmaaGreat.E
set_option linter.unusedVariables false
set_option linter.unusedSimpArgs false
def IsRecs (μ : AMem) (k : IntKind) (m : Nat) (x : SV) (zs : List Int) (len : Nat) : Prop :=
  zs.length = len * m ∧ ((x = .nilSlice ∧ len = 0) ∨ ∃ id ver off o, x = .slice id ver off len ∧ μ.obj id = some o ∧ o.ver = ver ∧ ∀ (i : Nat) n, zs[i]? = some n → o.cells[off + i]? = some (.int k n))
def plcR (m : Nat) (x : SV) (i : Int) : AV :=
  match x with
  | .slice id ver off _ => .s (.ptr id ver (off + i.toNat * m))
  | _ => .unk
def plcF (m : Nat) (x : SV) (i : Int) (f : Nat) : AV :=
  match x with
  | .slice id ver off _ => .s (.ptr id ver (off + i.toNat * m + f))
  | _ => .unk
theorem IsRecs.lenS {μ : AMem} {k : IntKind} {m : Nat} {x : SV} {zs : List Int} {len : Nat} (h : IsRecs μ k m x zs len) : lenS (.s x) = some len := by
  rcases h with ⟨_, ⟨rfl, rfl⟩ | ⟨id, ver, off, o, rfl, _⟩⟩ <;> rfl
theorem IsRecs.ind {μ : AMem} {k : IntKind} {m : Nat} {x : SV} {zs : List Int} {len : Nat} (h : IsRecs μ k m x zs len) {i : Int} (h0 : 0 ≤ i) (h1 : i < len) {R : Type} (K : AV → Option R) : indS m (.s x) i K = K (plcR m x i) := by
  rcases h with ⟨_, ⟨rfl, rfl⟩ | ⟨id, ver, off, o, rfl, _⟩⟩
  · omega
  · simp [indS, plcR, h0, h1]
theorem IsRecs.add {μ : AMem} {k : IntKind} {m : Nat} {x : SV} {zs : List Int} {len : Nat} (h : IsRecs μ k m x zs len) {i : Int} (h0 : 0 ≤ i) (h1 : i < len) (f : Nat) {R : Type} (K : AV → Option R) : ptrAdd f (plcR m x i) K = K (plcF m x i f) := by
  rcases h with ⟨_, ⟨rfl, rfl⟩ | ⟨id, ver, off, o, rfl, _⟩⟩
  · omega
  · rfl
theorem IsRecs.load {μ : AMem} {k : IntKind} {m : Nat} {x : SV} {zs : List Int} {len : Nat} (h : IsRecs μ k m x zs len) {i : Nat} (h1 : i < len) {f : Nat} (hf : f < m) {R : Type} (K : AV → Option R) : loadAt μ (plcF m x (i : Int) f) K = K (.s (.int k (zs.getD (i * m + f) 0))) := by
  obtain ⟨hl, ⟨rfl, rfl⟩ | ⟨id, ver, off, o, rfl, ho, hv, hc⟩⟩ := h
  · omega
  · have hlt : i * m + f < zs.length := by
      rw [hl]
      calc i * m + f < i * m + m := by omega
        _ = (i + 1) * m := by rw [Nat.add_mul]; simp
        _ ≤ len * m := Nat.mul_le_mul_right _ (by omega)
    have hg := hc (i * m + f) _ (List.getElem?_eq_getElem hlt)
    have e : off + ((i : Nat) : Int).toNat * m + f = off + (i * m + f) := by rw [nat_toNat, Nat.add_assoc]
    simp only [plcF, loadAt, AMem.cell, ho, Option.bind_some, hv, if_true, e, hg]
    rw [List.getD_eq_getElem?_getD, List.getElem?_eq_getElem hlt]; rfl
theorem IsRecs.same {μ μ' : AMem} {k : IntKind} {m : Nat} {x : SV} {zs : List Int} {len : Nat} (h : IsRecs μ k m x zs len) (hs : Same μ μ') : IsRecs μ' k m x zs len := by
  obtain ⟨hl, h0 | ⟨id, ver, off, o, rfl, ho, r⟩⟩ := h
  · exact ⟨hl, .inl h0⟩
  · exact ⟨hl, .inr ⟨id, ver, off, o, rfl, hs.old id o ho fun h => h, r⟩⟩
theorem IsRecs.wf {μ : AMem} {k : IntKind} {m : Nat} {x : SV} {zs : List Int} {len : Nat} (h : IsRecs μ k m x zs len) (hz : ∀ n ∈ zs, (Lit.int k n).wf = true) {i : Nat} (h1 : i < len) {f : Nat} (hf : f < m) : (Lit.int k (zs.getD (i * m + f) 0)).wf = true := by
  have hlt : i * m + f < zs.length := by
    rw [h.1]
    calc i * m + f < i * m + m := by omega
      _ = (i + 1) * m := by rw [Nat.add_mul]; simp
      _ ≤ len * m := Nat.mul_le_mul_right _ (by omega)
  rw [getD_lt hlt]
  exact hz _ (List.getElem_mem hlt)
theorem IsRecs.arg {k : IntKind} {m : Nat} {zs : List Int} {len : Nat} {l : List Arg} {j : Nat} {a : Arg} (h : Arg.isRecs k zs len a) (hq : zs.length = len * m) (hj : l[j]? = some a) : ∃ x, a.val j = .s x ∧ IsRecs (argMem l) k m x zs len := by
  cases a with
  | nil =>
    obtain ⟨rfl, rfl⟩ := h
    exact ⟨.nilSlice, rfl, hq, .inl ⟨rfl, rfl⟩⟩
  | rs k' zs' len' =>
    obtain ⟨rfl, rfl, rfl⟩ := h
    exact ⟨_, rfl, hq, .inr ⟨j, 0, 0, rowA (zs'.map (.int k')), rfl, by simp [argMem, hj, Arg.obj], rfl, fun i n hi => by rw [Nat.zero_add]; simp [rowA, hi]⟩⟩
  | _ => exact h.elim
end Go.Proofs.YtnjenjbodcihmaaGreat
namespace Go.Proofs.YtnjenjbodcihmaaGreat
open Go Go.Proofs.YtnjenjbodcihmaaGreat.E
set_option linter.unusedVariables false
set_option linter.unusedSimpArgs false
theorem set_set (μ : AMem) (i : Nat) (o o' : AObj) : (μ.set i o).set i o' = μ.set i o' := by
  unfold AMem.set
  congr 1
  funext j
  dsimp only
  split <;> rfl
theorem box3 {R : Type} (M : AMem) (i T : Nat) (q : Option Nat) (z1 z2 z3 a b c : SV) (K : AMem → Option R) :
    storeAt 3 (M.set i (rowObj [z1, z2, z3] 3 T q)) (.s (.ptr i 0 0)) (.agg [a, b, c]) K = K (M.set i (rowObj [a, b, c] 3 T q)) := by
  simp only [storeAt, AV.cells, List.length_cons, List.length_nil, AMem.store, set_self, Option.bind_some, rowObj, if_true, true_and, Nat.zero_add]
  rw [if_pos (Nat.le_refl _), Option.bind_some, set_set]
  rfl
theorem box3_0 (M : AMem) (i T : Nat) (q : Option Nat) (a b c : SV) : (M.set i (rowObj [a, b, c] 3 T q)).cell i 0 (0 + 0) = some a := by
  simp [AMem.cell, rowObj]
theorem box3_1 (M : AMem) (i T : Nat) (q : Option Nat) (a b c : SV) : (M.set i (rowObj [a, b, c] 3 T q)).cell i 0 (0 + 1) = some b := by
  simp [AMem.cell, rowObj]
theorem box3_2 (M : AMem) (i T : Nat) (q : Option Nat) (a b c : SV) : (M.set i (rowObj [a, b, c] 3 T q)).cell i 0 (0 + 2) = some c := by
  simp [AMem.cell, rowObj]
theorem loadN3 {μ : AMem} {id ver off : Nat} {a b c : SV} (h0 : μ.cell id ver off = some a) (h1 : μ.cell id ver (off + 1) = some b) (h2 : μ.cell id ver (off + 2) = some c) : μ.loadN id ver off 3 = some [a, b, c] := by
  simp only [AMem.loadN, h0, h1, h2, Option.bind_some, Option.map_some]
theorem rec3 {μ : AMem} {k : IntKind} {x : SV} {zs : List Int} {len : Nat} (h : IsRecs μ k 3 x zs len) {i : Nat} (h1 : i < len) {R : Type} (K : AV → Option R) :
    loadsAt μ 3 (plcR 3 x (i : Int)) K = K (.agg [.int k (zs.getD (i * 3 + 0) 0), .int k (zs.getD (i * 3 + 1) 0), .int k (zs.getD (i * 3 + 2) 0)]) := by
  obtain ⟨hl, ⟨rfl, rfl⟩ | ⟨id, ver, off, o, rfl, ho, hv, hc⟩⟩ := h
  · omega
  · have hg : ∀ f, f < 3 → μ.cell id ver (off + i * 3 + f) = some (.int k (zs.getD (i * 3 + f) 0)) := fun f hf => by
      have hlt : i * 3 + f < zs.length := by omega
      have := hc _ _ (List.getElem?_eq_getElem hlt)
      simp only [AMem.cell, ho, Option.bind_some, hv, if_true, Nat.add_assoc, this, getD_lt hlt]
    have e0 := hg 0 (by omega)
    have e1 := hg 1 (by omega)
    have e2 := hg 2 (by omega)
    rw [Nat.add_zero] at e0
    simp only [loadsAt, plcR, nat_toNat, loadN3 e0 e1 e2, Option.bind_some]
end Go.Proofs.YtnjenjbodcihmaaGreat
namespace Go.Proofs.YtnjenjbodcihmaaGreat
open Go Go.Proofs.YtnjenjbodcihmaaGreat.E
set_option linter.unusedVariables false
set_option linter.unusedSimpArgs false
def IsActs (μ : AMem) (x : SV) (len : Nat) : Prop :=
  (x = .nilSlice ∧ len = 0) ∨ ∃ id o, x = .slice id 0 0 len ∧ μ.obj id = some o ∧ o.ver = 0 ∧ ∀ i, i < len → ∃ d n r zs, o.cells[i * 3 + 0]? = some (.int .i64 d) ∧ o.cells[i * 3 + 1]? = some (.int .i64 n) ∧ o.cells[i * 3 + 2]? = some r ∧
    (Lit.int .i64 d).wf = true ∧ (Lit.int .i64 n).wf = true ∧ IsRow μ .i64 r zs ∧ ∀ v ∈ zs, (Lit.int .i64 v).wf = true
theorem IsActs.lenS {μ : AMem} {x : SV} {len : Nat} (h : IsActs μ x len) : lenS (.s x) = some len := by
  rcases h with ⟨rfl, rfl⟩ | ⟨id, o, rfl, _⟩ <;> rfl
theorem IsActs.ind {μ : AMem} {x : SV} {len : Nat} (h : IsActs μ x len) {i : Int} (h0 : 0 ≤ i) (h1 : i < len) {R : Type} (K : AV → Option R) : indS 3 (.s x) i K = K (plcR 3 x i) := by
  rcases h with ⟨rfl, rfl⟩ | ⟨id, o, rfl, _⟩
  · omega
  · simp [indS, plcR, h0, h1]
theorem IsActs.act {μ : AMem} {x : SV} {len : Nat} (h : IsActs μ x len) {i : Nat} (h1 : i < len) :
    ∃ d n r zs, (∀ {R : Type} (μ' : AMem) (K : AV → Option R), Same μ μ' → loadsAt μ' 3 (plcR 3 x (i : Int)) K = K (.agg [.int .i64 d, .int .i64 n, r])) ∧ (Lit.int .i64 d).wf = true ∧ (Lit.int .i64 n).wf = true ∧ IsRow μ .i64 r zs ∧ ∀ v ∈ zs, (Lit.int .i64 v).wf = true := by
  rcases h with ⟨rfl, rfl⟩ | ⟨id, o, rfl, ho, hv, hc⟩
  · omega
  · obtain ⟨d, n, r, zs, c0, c1, c2, w1, w2, hr, hz⟩ := hc i h1
    refine ⟨d, n, r, zs, fun {R} μ' K hs => ?_, w1, w2, hr, hz⟩
    have ho' := hs.old id o ho fun h => h
    have e0 : μ'.cell id 0 (0 + i * 3) = some (.int .i64 d) := by
      rw [Nat.add_zero] at c0
      simp only [AMem.cell, ho', Option.bind_some, hv, if_true, Nat.zero_add, c0]
    have e1 : μ'.cell id 0 (0 + i * 3 + 1) = some (.int .i64 n) := by
      simp only [AMem.cell, ho', Option.bind_some, hv, if_true, Nat.zero_add, c1]
    have e2 : μ'.cell id 0 (0 + i * 3 + 2) = some r := by
      simp only [AMem.cell, ho', Option.bind_some, hv, if_true, Nat.zero_add, c2]
    simp only [loadsAt, plcR, nat_toNat, loadN3 e0 e1 e2, Option.bind_some]
theorem IsActs.same {μ μ' : AMem} {x : SV} {len : Nat} (h : IsActs μ x len) (hs : Same μ μ') : IsActs μ' x len := by
  rcases h with h0 | ⟨id, o, rfl, ho, hv, hc⟩
  · exact .inl h0
  · refine .inr ⟨id, o, rfl, hs.old id o ho fun h => h, hv, fun i hi => ?_⟩
    obtain ⟨d, n, r, zs, c0, c1, c2, w1, w2, hr, hz⟩ := hc i hi
    exact ⟨d, n, r, zs, c0, c1, c2, w1, w2, hr.same hs, hz⟩
theorem inner_row {al : List ArgN} {j q : Nat} {cs : List Cell} {len : Nat} (ha : al[j]? = some (.recs cs len)) {c : Cell} (hq : cs[q]? = some c) {k : IntKind} (hc : CellOK (.r k) c) :
    ∃ zs, IsRow (argMemN al) k (c.sv (al.length + before al j + q)) zs ∧ ∀ n ∈ zs, (Lit.int k n).wf = true := by
  rcases hc with rfl | ⟨zs, rfl, hz, _⟩
  · exact ⟨[], .inl ⟨rfl, rfl⟩, fun n hn => by cases hn⟩
  · refine ⟨zs, ?_, hz⟩
    have hi := inner_get al j (.recs cs len) q _ ha hq
    have ho : (argMemN al).obj (al.length + (before al j + q)) = some (rowA (zs.map (.int k))) := by
      rw [objN_inner, hi]; rfl
    rw [← Nat.add_assoc] at ho
    exact IsRow.made ho (by simp) rfl rfl
theorem IsActs.arg {al : List ArgN} {j : Nat} {a : ArgN} {cs : List Cell} {len : Nat} (h : ArgN.isRecs cs len a) (hq : CellsOK [.i .i64, .i .i64, .r .i64] cs len) (hj : al[j]? = some a) : ∃ x, a.val j = .s x ∧ IsActs (argMemN al) x len := by
  cases a with
  | cell c =>
    obtain ⟨rfl, rfl, rfl⟩ := h
    exact ⟨.nilSlice, rfl, .inl ⟨rfl, rfl⟩⟩
  | recs cs' len' =>
    obtain ⟨rfl, rfl⟩ := h
    refine ⟨_, rfl, .inr ⟨j, rowA (cellsAt (al.length + before al j) cs'), rfl, by rw [objN_arg hj]; rfl, rfl, fun i hi => ?_⟩⟩
    have each := hq.2 i
    obtain ⟨c0, h0, d, rfl, w0⟩ := each 0 hi (.i .i64) rfl
    obtain ⟨c1, h1, n, rfl, w1⟩ := each 1 hi (.i .i64) rfl
    obtain ⟨c2, h2, hr⟩ := each 2 hi (.r .i64) rfl
    obtain ⟨zs, hrow, hz⟩ := inner_row hj h2 hr
    have g : ∀ (q : Nat) (c : Cell), cs'[q]? = some c → (rowA (cellsAt (al.length + before al j) cs')).cells[q]? = some (c.sv (al.length + before al j + q)) := fun q c hc => by
      show (cellsAt _ _)[q]? = _
      rw [cellsAt_get, hc]; rfl
    exact ⟨d, n, _, zs, g _ _ h0, g _ _ h1, g _ _ h2, w0, w1, hrow, hz⟩
end Go.Proofs.YtnjenjbodcihmaaGreat
namespace Go.Proofs.YtnjenjbodcihmaaGreat
open Go Go.Proofs.YtnjenjbodcihmaaGreat.E
set_option linter.unusedVariables false
set_option linter.unusedSimpArgs false
def IsRR (k : IntKind) (μ : AMem) (x : SV) (len : Nat) : Prop :=
  ∃ cs, IsV μ 1 x len cs ∧ ∀ (i : Nat) r, cs[i]? = some r → ∃ zs, IsRow μ k r zs ∧ ∀ v ∈ zs, (Lit.int k v).wf = true
theorem IsRR.same {k : IntKind} {μ μ' : AMem} {x : SV} {len : Nat} (h : IsRR k μ x len) (hs : Same μ μ') : IsRR k μ' x len := by
  obtain ⟨cs, h1, h2⟩ := h
  exact ⟨cs, h1.same hs, fun i r hi => let ⟨zs, a, b⟩ := h2 i r hi; ⟨zs, a.same hs, b⟩⟩
theorem IsRR.lenS {k : IntKind} {μ : AMem} {x : SV} {len : Nat} (h : IsRR k μ x len) : lenS (.s x) = some len := by
  obtain ⟨cs, h1, h2⟩ := h
  exact h1.lenS
theorem IsRR.at {k : IntKind} {μ : AMem} {x : SV} {len : Nat} (h : IsRR k μ x len) {i : Nat} (hi : i < len) :
    ∃ r zs, (∀ {R : Type} (K : AV → Option R), indS 1 (.s x) (i : Int) K = K (plcN 1 x i)) ∧ (∀ {R : Type} (μ' : AMem) (K : AV → Option R), Same μ μ' → loadAt μ' (plcN 1 x i) K = K (.s r)) ∧ IsRow μ k r zs ∧ ∀ v ∈ zs, (Lit.int k v).wf = true := by
  obtain ⟨cs, h1, h2⟩ := h
  have hl := h1.clen
  have hc : cs[i]? = some (cs[i]'(by omega)) := List.getElem?_eq_getElem (by omega)
  obtain ⟨zs, hr, hz⟩ := h2 i _ hc
  exact ⟨_, zs, fun K => h1.ind hi K, fun μ' K hs => (h1.same hs).load hc K, hr, hz⟩
theorem IsRR.arg {k : IntKind} {al : List ArgN} {j : Nat} {a : ArgN} {cs : List Cell} {len : Nat} (h : ArgN.isRecs cs len a) (hq : CellsOK [.r k] cs len) (hj : al[j]? = some a) : ∃ x, a.val j = .s x ∧ IsRR k (argMemN al) x len := by
  cases a with
  | cell c =>
    obtain ⟨rfl, rfl, rfl⟩ := h
    exact ⟨.nilSlice, rfl, [], .inl ⟨rfl, rfl, rfl⟩, fun i r hi => by simp at hi⟩
  | recs cs' len' =>
    obtain ⟨rfl, rfl⟩ := h
    have hlen : cs'.length = len' * 1 := hq.1
    have hcl : (cellsAt (al.length + before al j) cs').length = len' * 1 := by
      rw [← hlen]
      have : ∀ (n : Nat), (cellsAt n cs').length = cs'.length := fun n => by
        apply Nat.le_antisymm
        · apply Nat.le_of_not_lt
          intro hlt
          have := cellsAt_get cs' n cs'.length
          rw [List.getElem?_eq_none (Nat.le_refl _), List.getElem?_eq_getElem hlt] at this
          cases this
        · apply Nat.le_of_not_lt
          intro hlt
          have := cellsAt_get cs' n (cellsAt n cs').length
          rw [List.getElem?_eq_none (Nat.le_refl _), List.getElem?_eq_getElem hlt] at this
          cases this
      exact this _
    refine ⟨_, rfl, cellsAt (al.length + before al j) cs', .inr ⟨j, 0, 0, rowA (cellsAt (al.length + before al j) cs'), rfl, by rw [objN_arg hj]; rfl, rfl, hcl, by show 0 + len' * 1 ≤ (cellsAt _ _).length; omega, fun i v hi => by rw [Nat.zero_add]; exact hi⟩, fun i r hi => ?_⟩
    rw [cellsAt_get] at hi
    obtain ⟨c, hc, rfl⟩ := Option.map_eq_some_iff.mp hi
    have hil : i < len' := by
      have := (List.getElem?_eq_some_iff.mp hc).1
      omega
    obtain ⟨c', h1, h2⟩ := hq.2 i 0 hil (.r k) rfl
    simp only [List.length_singleton, Nat.mul_one, Nat.add_zero] at h1
    rw [hc] at h1
    obtain rfl := Option.some.inj h1
    exact inner_row hj hc h2
end Go.Proofs.YtnjenjbodcihmaaGreat
