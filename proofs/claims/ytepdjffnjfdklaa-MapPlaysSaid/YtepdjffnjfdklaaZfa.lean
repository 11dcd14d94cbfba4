/- The Go functions as plain functions. -/
import Derived.Test.YtepdjffnjfdklaaProg
import Derived.KernelRfl
import Derived.Test.YtepdjffnjfdklaaZb
/- The Go functions as plain functions over abstract memory, and what each comes to. -/
namespace Go.Proofs.Ytepdjffnjfdklaa
open Go Go.Proofs.Ytepdjffnjfdklaa.E
set_option maxRecDepth 100000
set_option linter.unusedVariables false
/-! ### overdub/overdubkeep.Within -/
noncomputable def G7 : FuncId → FunA := fun _ _ _ => none
def A7 : Ann := .two (.leaf) (.two (.two (.leaf) (.two (.two (.leaf) (.leaf)) (.leaf))) (.two (.leaf) (.join [(5, .i .i64)] [] [] (.two (.leaf) (.two (.leaf) (.leaf))) (.two (.leaf) (.leaf)))))
def R7 : Slots := [(4, .i .i64)]
noncomputable def overdubkeep_Within : FunA := denF Try.prog G7 Try.f7 A7 R7
theorem overdubkeep_Within_eq (p0 : Int) (p1 : Int) (μ : AMem) : overdubkeep_Within [.s (.int .i64 p0), .s (.int .i64 p1)] μ =
  bif decide (p1 < 1) then
  (some (.s (.int .i64 0), μ))
  else
  (if p1 = 0 then none else
    (seqJ
      (bif decide ((Int.tmod p0 p1) < 0) then
        (some (.normal, [.s (.int .i64 (IntKind.wrap .i64 ((Int.tmod p0 p1) + p1)))], μ))
        else
        (some (.normal, [.s (.int .i64 (Int.tmod p0 p1))], μ)))
      (fun vs1 m2 =>
        headK vs1 fun a3 r4 =>
        asI .i64 a3 fun n5 =>
        some (.s (.int .i64 n5), m2))
      (fun vs6 m7 =>
        headK vs6 fun a11 r12 =>
        asI .i64 a11 fun n13 =>
        some (.s (.int .i64 n13), m7))
      (fun d10 vs8 m9 =>
        none))) := by kernel_rfl

/-! ### overdub/bitmap.ones -/
noncomputable def G21 : FuncId → FunA := fun _ _ _ => none
def A21 : Ann := .two (.leaf) (.two (.leaf) (.join [] [3] [] (.two (.leaf) (.two (.leaf) (.leaf))) (.two (.leaf) (.leaf))))
def R21 : Slots := [(2, .s)]
noncomputable def bitmap_ones : FunA := denF Try.prog G21 Try.f21 A21 R21
theorem bitmap_ones_eq (p0 : Int) (μ : AMem) : bitmap_ones [.s (.int .i64 p0)] μ =
  if 0 ≤ (IntKind.wrap .i64 (Int.tdiv (IntKind.wrap .i64 ((IntKind.wrap .i64 (p0 + 64)) - 1)) 64)) ∧ (IntKind.wrap .i64 (Int.tdiv (IntKind.wrap .i64 ((IntKind.wrap .i64 (p0 + 64)) - 1)) 64)) ≤ (IntKind.wrap .i64 (Int.tdiv (IntKind.wrap .i64 ((IntKind.wrap .i64 (p0 + 64)) - 1)) 64)) ∧ (IntKind.wrap .i64 (Int.tdiv (IntKind.wrap .i64 ((IntKind.wrap .i64 (p0 + 64)) - 1)) 64)) ≤ 9223372036854775807 ∧ (8 : Nat) * (IntKind.wrap .i64 (Int.tdiv (IntKind.wrap .i64 ((IntKind.wrap .i64 (p0 + 64)) - 1)) 64)) ≤ 140737488355328 then
  (seqJ
    (bif ((Int.tmod p0 64) != 0) then
      (if (Int.tmod p0 64) < 0 then none else
        (if 0 ≤ (IntKind.wrap .i64 ((((Int.toNat (IntKind.wrap .i64 (Int.tdiv (IntKind.wrap .i64 ((IntKind.wrap .i64 (p0 + 64)) - 1)) 64))) : Nat) : Int) - 1)) ∧ (IntKind.wrap .i64 ((((Int.toNat (IntKind.wrap .i64 (Int.tdiv (IntKind.wrap .i64 ((IntKind.wrap .i64 (p0 + 64)) - 1)) 64))) : Nat) : Int) - 1)) < ((Int.toNat (IntKind.wrap .i64 (Int.tdiv (IntKind.wrap .i64 ((IntKind.wrap .i64 (p0 + 64)) - 1)) 64))) : Nat) then
          ((((μ.bump 6).set (μ.next + 4) (rowObj (zerosA [.int .u64 0] (Int.toNat (IntKind.wrap .i64 (Int.tdiv (IntKind.wrap .i64 ((IntKind.wrap .i64 (p0 + 64)) - 1)) 64)))) 1 31 (some (Int.toNat (IntKind.wrap .i64 (Int.tdiv (IntKind.wrap .i64 ((IntKind.wrap .i64 (p0 + 64)) - 1)) 64)))))).store (μ.next + 4) 0 (0 + Int.toNat (IntKind.wrap .i64 ((((Int.toNat (IntKind.wrap .i64 (Int.tdiv (IntKind.wrap .i64 ((IntKind.wrap .i64 (p0 + 64)) - 1)) 64))) : Nat) : Int) - 1)) * 1) [.int .u64 (IntKind.wrap .u64 (18446744073709551615 * 2 ^ (min (Int.toNat (Int.tmod p0 64)) (IntKind.bits .u64))))]).bind fun m1 =>
            some (.normal, [], m1)) else none))
      else
      (some (.normal, [], ((μ.bump 6).set (μ.next + 4) (rowObj (zerosA [.int .u64 0] (Int.toNat (IntKind.wrap .i64 (Int.tdiv (IntKind.wrap .i64 ((IntKind.wrap .i64 (p0 + 64)) - 1)) 64)))) 1 31 (some (Int.toNat (IntKind.wrap .i64 (Int.tdiv (IntKind.wrap .i64 ((IntKind.wrap .i64 (p0 + 64)) - 1)) 64)))))))))
    (fun vs2 m3 =>
      some (.s (.slice (μ.next + 4) 0 0 (Int.toNat (IntKind.wrap .i64 (Int.tdiv (IntKind.wrap .i64 ((IntKind.wrap .i64 (p0 + 64)) - 1)) 64)))), m3))
    (fun vs4 m5 =>
      headK vs4 fun a9 r10 =>
      asS a9 fun x11 =>
      some (.s x11, m5))
    (fun d8 vs6 m7 =>
      none)) else none := by kernel_rfl

/-! ### overdub/bitmap.New -/
noncomputable def G8 : FuncId → FunA := fun g => bif Nat.beq g 21 then bitmap_ones else fun _ _ => none
theorem G8_21 : G8 21 = bitmap_ones := by kernel_rfl
def A8 : Ann := .two (.leaf) (.two (.join [(11, .b)] [0] [] (.leaf) (.two (.two (.leaf) (.leaf)) (.leaf))) (.two (.leaf) (.two (.leaf) (.join [(2, .s), (3, .i .i64)] [] [] (.loop [(5, .i .i64)] [4] [] (.two (.join [(4, .s)] [] [] (.two (.ord [0, 1, 2, 3, 4, 5, 6, 7, 8, 9, 10, 11]) (.two (.leaf) (.two (.two (.leaf) (.leaf)) (.leaf)))) .leaf) (.ord [0, 1, 2, 3, 4, 5, 6, 7, 8, 9, 10, 11, 12, 13]))) .leaf))))
def R8 : Slots := [(2, .s), (3, .i .i64)]
noncomputable def bitmap_New : FunA := denF Try.prog G8 Try.f8 A8 R8
noncomputable def bitmap_New_L1_B (os vs : List AV) (μ : AMem) : Option Res := joinK [(5, .i .i64)] vs (envO [4] os) fun e => den Try.prog G8 Try.f8.ntmps (cL (cL (cR (cR (cR (cR (bodyOf Try.f8))))))) (aL (aL (aR (aR (aR (aR A8)))))) { ret := R8, exits := [(0, [(2, .s), (3, .i .i64)])] } Res e μ fun ex e μ => some (ex, valsOf (Lv.at { ret := R8, exits := [(0, [(2, .s), (3, .i .i64)])] } [(5, .i .i64)] ex) e, μ)
noncomputable def bitmap_New_L1 (os vs : List AV) (μ : AMem) : Option Res := loopA (bitmap_New_L1_B os) vs μ
theorem bitmap_New_L1_B_eq (s4 t4 u4 : Nat) (s5 : Int) (μ : AMem) : bitmap_New_L1_B [.s (.ptr s4 t4 u4)] [.s (.int .i64 s5)] μ =
  ((μ.bump 12).cell s4 t4 (u4 + 1)).bind fun x28 =>
  (bitmap_ones [.s (.int .i64 s5)] (μ.bump 12)).bind fun r29 =>
  asS r29.1 fun x30 =>
  checkA (((r29.2.cell s4 t4 (u4 + 1)).bind fun x => some (AV.s x)) = some (.s x28))
  (checkA (r29.2.obj (μ.next + 7) = none)
    (appendA 29 1 24 (μ.next + 8) (r29.2.set (μ.next + 7) (rowObj [x30] 1 29 (some 1))) (.s x28) (.s (.slice (μ.next + 7) 0 0 1)) fun x31 m32 =>
      asS x31 fun x33 =>
      (m32.store s4 t4 (u4 + 1) [x33]).bind fun m34 =>
      bif decide (s5 ≤ 64) then
      (some (.ret, [.s (.ptr s4 t4 u4), .s (.int .i64 0)], m34))
      else
      ((m34.cell s4 t4 (u4 + 1)).bind fun x35 =>
        (m34.cell s4 t4 (u4 + 1)).bind fun x36 =>
        (lenS (.s x36)).bind fun l37 =>
        indS 1 (.s x35) (IntKind.wrap .i64 (((l37 : Nat) : Int) - 1)) fun p38 =>
        loadAt m34 p38 fun v39 =>
        asS v39 fun x40 =>
        (lenS (.s x40)).bind fun l41 =>
        some (.normal, [.s (.int .i64 ((l41 : Nat) : Int))], m34)))) := by rw [← G8_21]; kernel_rfl
theorem bitmap_New_L1_eq (os vs : List AV) (μ : AMem) : bitmap_New_L1 os vs μ = (bitmap_New_L1_B os vs μ).bind fun r => match r.1 with | .normal => bitmap_New_L1 os r.2.1 r.2.2 | _ => some r := loopA_eq _ _ _
theorem bitmap_New_eq (p0 : Int) (μ : AMem) : bitmap_New [.s (.int .i64 p0)] μ =
  seqJ
  (bif !(decide (p0 < 1)) then
    (some (.normal, [.s (.bool (decide (p0 > 4096)))], μ))
    else
    (some (.normal, [.s (.bool true)], μ)))
  (fun vs1 m2 =>
    headK vs1 fun a3 r4 =>
    asB a3 fun b5 =>
    bif b5 then
    (some (.tuple [.s .nilPtr, .s (.int .i64 1)], m2))
    else
    (seqJ (bitmap_New_L1 [.s (.ptr (m2.next + 2) 0 0)] [.s (.int .i64 p0)] ((m2.bump 4).set (m2.next + 2) (rowObj [.int .i64 p0, .nilSlice] 2 50 (some 1))))
      (fun _ _ => none)
      (fun vs6 m7 =>
        headK vs6 fun a11 r12 =>
        asS a11 fun x13 =>
        headK r12 fun a14 r15 =>
        asI .i64 a14 fun n16 =>
        some (.tuple [.s x13, .s (.int .i64 n16)], m7))
      (fun d10 vs8 m9 =>
        none)))
  (fun vs17 m18 =>
    headK vs17 fun a22 r23 =>
    asS a22 fun x24 =>
    headK r23 fun a25 r26 =>
    asI .i64 a25 fun n27 =>
    some (.tuple [.s x24, .s (.int .i64 n27)], m18))
  (fun d21 vs19 m20 =>
    none) := by kernel_rfl

/-! ### (*overdub/bitmap.Map).may -/
noncomputable def G22 : FuncId → FunA := fun _ _ _ => none
def A22 : Ann := .two (.leaf) (.two (.leaf) (.leaf))
def R22 : Slots := [(4, .b)]
noncomputable def bitmap_Map_may : FunA := denF Try.prog G22 Try.f22 A22 R22
theorem bitmap_Map_may_eq (p0 q0 o0 : Nat) (p1 : Int) (μ : AMem) : bitmap_Map_may [.s (.ptr p0 q0 o0), .s (.int .i64 p1)] μ =
  bif decide (p1 ≥ 0) then
  ((μ.cell p0 q0 (o0 + 0)).bind fun x1 =>
    asI .i64 (.s x1) fun n2 =>
    some (.s (.bool (decide (p1 < n2))), μ))
  else
  (some (.s (.bool false), μ)) := by kernel_rfl

/-! ### (*overdub/bitmap.Map).Used -/
noncomputable def G11 : FuncId → FunA := fun g => bif Nat.beq g 22 then bitmap_Map_may else fun _ _ => none
theorem G11_22 : G11 22 = bitmap_Map_may := by kernel_rfl
def A11 : Ann := .two (.leaf) (.two (.leaf) (.leaf))
def R11 : Slots := [(4, .b)]
noncomputable def bitmap_Map_Used : FunA := denF Try.prog G11 Try.f11 A11 R11
theorem bitmap_Map_Used_eq (p0 q0 o0 : Nat) (p1 : Int) (μ : AMem) : bitmap_Map_Used [.s (.ptr p0 q0 o0), .s (.int .i64 p1)] μ =
  (bitmap_Map_may [.s (.ptr p0 q0 o0), .s (.int .i64 p1)] μ).bind fun r1 =>
  asB r1.1 fun b2 =>
  bif !(!b2) then
  ((r1.2.cell p0 q0 (o0 + 1)).bind fun x3 =>
    indS 1 (.s x3) 0 fun p4 =>
    loadAt r1.2 p4 fun v5 =>
    asS v5 fun x6 =>
    indS 1 (.s x6) (IntKind.wrap .i64 (Int.tdiv p1 64)) fun p7 =>
    loadAt r1.2 p7 fun v8 =>
    asI .u64 v8 fun n9 =>
    if (Int.tmod p1 64) < 0 then none else
    (some (.s (.bool ((IntKind.wrap .u64 (BitVec.toNat ((BitVec.ofInt (IntKind.bits .u64) (Int.fdiv n9 (2 ^ (min (Int.toNat (Int.tmod p1 64)) (IntKind.bits .u64))))) &&& (BitVec.ofInt (IntKind.bits .u64) 1)))) == 1)), r1.2)))
  else
  (some (.s (.bool true), r1.2)) := by rw [← G11_22]; kernel_rfl

/-! ### (*overdub/bitmap.Map).Set -/
noncomputable def G9 : FuncId → FunA := fun g => bif Nat.beq g 22 then bitmap_Map_may else bif Nat.beq g 11 then bitmap_Map_Used else fun _ _ => none
theorem G9_22 : G9 22 = bitmap_Map_may := by kernel_rfl
theorem G9_11 : G9 11 = bitmap_Map_Used := by kernel_rfl
def A9 : Ann := .two (.leaf) (.two (.join [(19, .b)] [0, 1, 2] [] (.leaf) (.two (.two (.leaf) (.leaf)) (.leaf))) (.two (.two (.leaf) (.join [] [] [] (.loop [(1, .i .i64), (2, .b), (25, .i .i64)] [0, 24] [0] (.two (.leaf) (.two (.two (.leaf) (.leaf)) (.two (.join [(0, .s), (1, .i .i64), (2, .b), (24, .i .i64), (25, .i .i64)] [] [] (.two (.leaf) (.two (.leaf) (.join [] [0, 1, 7, 24, 25] [] (.two (.leaf) (.two (.leaf) (.leaf))) (.two (.leaf) (.leaf))))) .leaf) (.leaf))))) .leaf)) (.two (.leaf) (.leaf))))
def R9 : Slots := [(6, .b)]
noncomputable def bitmap_Map_Set : FunA := denF Try.prog G9 Try.f9 A9 R9
noncomputable def bitmap_Map_Set_L1_B (os vs : List AV) (μ : AMem) : Option Res := joinK [(1, .i .i64), (2, .b), (25, .i .i64)] vs (envO [0, 24] os) fun e => den Try.prog G9 Try.f9.ntmps (cL (cL (cR (cL (cR (cR (bodyOf Try.f9))))))) (aL (aL (aR (aL (aR (aR A9)))))) { ret := R9, exits := [(0, [])] } Res e μ fun ex e μ => some (ex, valsOf (Lv.at { ret := R9, exits := [(0, [])] } [(1, .i .i64), (2, .b), (25, .i .i64)] ex) e, μ)
noncomputable def bitmap_Map_Set_L1 (os vs : List AV) (μ : AMem) : Option Res := loopA (bitmap_Map_Set_L1_B os) vs μ
theorem bitmap_Map_Set_L1_B_eq (s0 t0 u0 : Nat) (s24 : Int) (s1 : Int) (s2 : Bool) (s25 : Int) (μ : AMem) : bitmap_Map_Set_L1_B [.s (.ptr s0 t0 u0), .s (.int .i64 s24)] [.s (.int .i64 s1), .s (.bool s2), .s (.int .i64 s25)] μ =
  bif decide (s25 < s24) then
  (if (Int.tmod s1 64) < 0 then none else
    (seqJ
      (bif s2 then
        ((μ.cell s0 t0 (u0 + 1)).bind fun x28 =>
          indS 1 (.s x28) s25 fun p29 =>
          loadAt μ p29 fun v30 =>
          asS v30 fun x31 =>
          indS 1 (.s x31) (IntKind.wrap .i64 (Int.tdiv s1 64)) fun p32 =>
          loadAt μ p32 fun v33 =>
          asI .u64 v33 fun n34 =>
          indS 1 (.s x31) (IntKind.wrap .i64 (Int.tdiv s1 64)) fun p35 =>
          storeAt 1 μ p35 (.s (.int .u64 (IntKind.wrap .u64 (BitVec.toNat ((BitVec.ofInt (IntKind.bits .u64) n34) ||| (BitVec.ofInt (IntKind.bits .u64) (IntKind.wrap .u64 (1 * 2 ^ (min (Int.toNat (Int.tmod s1 64)) (IntKind.bits .u64)))))))))) fun m36 =>
          some (.normal, [], m36))
        else
        ((μ.cell s0 t0 (u0 + 1)).bind fun x37 =>
          indS 1 (.s x37) s25 fun p38 =>
          loadAt μ p38 fun v39 =>
          asS v39 fun x40 =>
          indS 1 (.s x40) (IntKind.wrap .i64 (Int.tdiv s1 64)) fun p41 =>
          loadAt μ p41 fun v42 =>
          asI .u64 v42 fun n43 =>
          indS 1 (.s x40) (IntKind.wrap .i64 (Int.tdiv s1 64)) fun p44 =>
          storeAt 1 μ p44 (.s (.int .u64 (IntKind.wrap .u64 (BitVec.toNat ((BitVec.ofInt (IntKind.bits .u64) n43) &&& ~~~ (BitVec.ofInt (IntKind.bits .u64) (IntKind.wrap .u64 (1 * 2 ^ (min (Int.toNat (Int.tmod s1 64)) (IntKind.bits .u64)))))))))) fun m45 =>
          some (.normal, [], m45)))
      (fun vs46 m47 =>
        (m47.cell s0 t0 (u0 + 1)).bind fun x48 =>
        indS 1 (.s x48) s25 fun p49 =>
        loadAt m47 p49 fun v50 =>
        asS v50 fun x51 =>
        indS 1 (.s x51) (IntKind.wrap .i64 (Int.tdiv s1 64)) fun p52 =>
        loadAt m47 p52 fun v53 =>
        asI .u64 v53 fun n54 =>
        some (.normal, [.s (.int .i64 (IntKind.wrap .i64 (Int.tdiv s1 64))), .s (.bool (n54 == 18446744073709551615)), .s (.int .i64 (IntKind.wrap .i64 (s25 + 1)))], m47))
      (fun vs55 m56 =>
        headK vs55 fun a60 r61 =>
        asB a60 fun b62 =>
        some (.ret, [.s (.bool b62)], m56))
      (fun d59 vs57 m58 =>
        none)))
  else
  (some (.exit 0, [], μ)) := by kernel_rfl
theorem bitmap_Map_Set_L1_eq (os vs : List AV) (μ : AMem) : bitmap_Map_Set_L1 os vs μ = (bitmap_Map_Set_L1_B os vs μ).bind fun r => match r.1 with | .normal => bitmap_Map_Set_L1 os r.2.1 r.2.2 | _ => some r := loopA_eq _ _ _
theorem bitmap_Map_Set_eq (p0 q0 o0 : Nat) (p1 : Int) (p2 : Bool) (μ : AMem) : bitmap_Map_Set [.s (.ptr p0 q0 o0), .s (.int .i64 p1), .s (.bool p2)] μ =
  seqJ
  ((bitmap_Map_may [.s (.ptr p0 q0 o0), .s (.int .i64 p1)] μ).bind fun r1 =>
    asB r1.1 fun b2 =>
    bif !(!b2) then
    ((bitmap_Map_Used [.s (.ptr p0 q0 o0), .s (.int .i64 p1)] r1.2).bind fun r3 =>
      asB r3.1 fun b4 =>
      some (.normal, [.s (.bool (b4 == p2))], r3.2))
    else
    (some (.normal, [.s (.bool true)], r1.2)))
  (fun vs5 m6 =>
    headK vs5 fun a7 r8 =>
    asB a7 fun b9 =>
    bif b9 then
    (some (.s (.bool false), m6))
    else
    ((m6.cell p0 q0 (o0 + 1)).bind fun x10 =>
      (lenS (.s x10)).bind fun l11 =>
      seqJ (bitmap_Map_Set_L1 [.s (.ptr p0 q0 o0), .s (.int .i64 ((l11 : Nat) : Int))] [.s (.int .i64 p1), .s (.bool p2), .s (.int .i64 0)] m6)
      (fun _ _ => none)
      (fun vs12 m13 =>
        headK vs12 fun a17 r18 =>
        asB a17 fun b19 =>
        some (.s (.bool b19), m13))
      (fun d16 vs14 m15 =>
        bif Nat.beq 0 d16 then (some (.s (.bool true), m15)) else (none))))
  (fun vs20 m21 =>
    headK vs20 fun a25 r26 =>
    asB a25 fun b27 =>
    some (.s (.bool b27), m21))
  (fun d24 vs22 m23 =>
    none) := by rw [← G9_22, ← G9_11]; kernel_rfl

/-! ### (*overdub/bitmap.Map).Level -/
noncomputable def G10 : FuncId → FunA := fun _ _ _ => none
def A10 : Ann := .two (.leaf) (.two (.join [(15, .b)] [0, 1] [] (.leaf) (.two (.two (.leaf) (.leaf)) (.leaf))) (.two (.leaf) (.leaf)))
def R10 : Slots := [(4, .s)]
noncomputable def bitmap_Map_Level : FunA := denF Try.prog G10 Try.f10 A10 R10
theorem bitmap_Map_Level_eq (p0 q0 o0 : Nat) (p1 : Int) (μ : AMem) : bitmap_Map_Level [.s (.ptr p0 q0 o0), .s (.int .i64 p1)] μ =
  seqJ
  (bif !(decide (p1 < 0)) then
    ((μ.cell p0 q0 (o0 + 1)).bind fun x1 =>
      (lenS (.s x1)).bind fun l2 =>
      some (.normal, [.s (.bool (decide (p1 ≥ ((l2 : Nat) : Int))))], μ))
    else
    (some (.normal, [.s (.bool true)], μ)))
  (fun vs3 m4 =>
    headK vs3 fun a5 r6 =>
    asB a5 fun b7 =>
    bif b7 then
    (some (.s .nilSlice, m4))
    else
    (((m4.bump 9).cell p0 q0 (o0 + 1)).bind fun x8 =>
      indS 1 (.s x8) p1 fun p9 =>
      loadAt (m4.bump 9) p9 fun v10 =>
      asS v10 fun x11 =>
      appendA 31 1 8 (m4.next + 7) (m4.bump 9) (.s .nilSlice) (.s x11) fun x12 m13 =>
      asS x12 fun x14 =>
      some (.s x14, m13)))
  (fun vs15 m16 =>
    headK vs15 fun a20 r21 =>
    asS a20 fun x22 =>
    some (.s x22, m16))
  (fun d19 vs17 m18 =>
    none) := by kernel_rfl

/-! ### (*overdub/bitmap.Map).First -/
noncomputable def G15 : FuncId → FunA := fun g => bif Nat.beq g 11 then bitmap_Map_Used else fun _ _ => none
theorem G15_11 : G15 11 = bitmap_Map_Used := by kernel_rfl
def A15 : Ann := .two (.leaf) (.two (.two (.leaf) (.join [] [] [] (.loop [(5, .i .i64)] [0] [0] (.two (.two (.leaf) (.two (.leaf) (.leaf))) (.join [(5, .i .i64)] [0] [] (.join [(0, .s), (5, .i .i64)] [] [] (.two (.join [(31, .b)] [0, 5] [] (.leaf) (.two (.two (.leaf) (.leaf)) (.leaf))) (.two (.leaf) (.two (.two (.leaf) (.leaf)) (.leaf)))) .leaf) (.leaf)))) .leaf)) (.two (.leaf) (.leaf)))
def R15 : Slots := [(4, .i .i64)]
noncomputable def bitmap_Map_First : FunA := denF Try.prog G15 Try.f15 A15 R15
noncomputable def bitmap_Map_First_L1_B (os vs : List AV) (μ : AMem) : Option Res := joinK [(5, .i .i64)] vs (envO [0] os) fun e => den Try.prog G15 Try.f15.ntmps (cL (cL (cR (cL (cR (bodyOf Try.f15)))))) (aL (aL (aR (aL (aR A15))))) { ret := R15, exits := [(0, [])] } Res e μ fun ex e μ => some (ex, valsOf (Lv.at { ret := R15, exits := [(0, [])] } [(5, .i .i64)] ex) e, μ)
noncomputable def bitmap_Map_First_L1 (os vs : List AV) (μ : AMem) : Option Res := loopA (bitmap_Map_First_L1_B os) vs μ
theorem bitmap_Map_First_L1_B_eq (s0 t0 u0 : Nat) (s5 : Int) (μ : AMem) : bitmap_Map_First_L1_B [.s (.ptr s0 t0 u0)] [.s (.int .i64 s5)] μ =
  (μ.cell s0 t0 (u0 + 0)).bind fun x9 =>
  asI .i64 (.s x9) fun n10 =>
  bif decide (s5 < n10) then
  (seqJ
    (seqJ
      (bif ((Int.tmod s5 64) == 0) then
        ((μ.cell s0 t0 (u0 + 1)).bind fun x11 =>
          indS 1 (.s x11) 0 fun p12 =>
          loadAt μ p12 fun v13 =>
          asS v13 fun x14 =>
          indS 1 (.s x14) (IntKind.wrap .i64 (Int.tdiv s5 64)) fun p15 =>
          loadAt μ p15 fun v16 =>
          asI .u64 v16 fun n17 =>
          some (.normal, [.s (.bool (n17 == 18446744073709551615))], μ))
        else
        (some (.normal, [.s (.bool false)], μ)))
      (fun vs18 m19 =>
        headK vs18 fun a20 r21 =>
        asB a20 fun b22 =>
        bif b22 then
        (some (.normal, [.s (.int .i64 (IntKind.wrap .i64 ((IntKind.wrap .i64 (s5 + 64)) - 1)))], m19))
        else
        ((bitmap_Map_Used [.s (.ptr s0 t0 u0), .s (.int .i64 s5)] m19).bind fun r23 =>
          asB r23.1 fun b24 =>
          bif (!b24) then
          (some (.ret, [.s (.int .i64 s5)], r23.2))
          else
          (some (.normal, [.s (.int .i64 s5)], r23.2))))
      (fun vs25 m26 =>
        headK vs25 fun a30 r31 =>
        asI .i64 a30 fun n32 =>
        some (.ret, [.s (.int .i64 n32)], m26))
      (fun d29 vs27 m28 =>
        none))
    (fun vs33 m34 =>
      headK vs33 fun a35 r36 =>
      asI .i64 a35 fun n37 =>
      some (.normal, [.s (.int .i64 (IntKind.wrap .i64 (n37 + 1)))], m34))
    (fun vs38 m39 =>
      headK vs38 fun a43 r44 =>
      asI .i64 a43 fun n45 =>
      some (.ret, [.s (.int .i64 n45)], m39))
    (fun d42 vs40 m41 =>
      none))
  else
  (some (.exit 0, [], μ)) := by rw [← G15_11]; kernel_rfl
theorem bitmap_Map_First_L1_eq (os vs : List AV) (μ : AMem) : bitmap_Map_First_L1 os vs μ = (bitmap_Map_First_L1_B os vs μ).bind fun r => match r.1 with | .normal => bitmap_Map_First_L1 os r.2.1 r.2.2 | _ => some r := loopA_eq _ _ _
theorem bitmap_Map_First_eq (p0 q0 o0 : Nat) (p1 : Int) (μ : AMem) : bitmap_Map_First [.s (.ptr p0 q0 o0), .s (.int .i64 p1)] μ =
  seqJ (bitmap_Map_First_L1 [.s (.ptr p0 q0 o0)] [.s (.int .i64 (if p1 > 0 then p1 else 0))] μ)
  (fun _ _ => none)
  (fun vs1 m2 =>
    headK vs1 fun a6 r7 =>
    asI .i64 a6 fun n8 =>
    some (.s (.int .i64 n8), m2))
  (fun d5 vs3 m4 =>
    bif Nat.beq 0 d5 then (some (.s (.int .i64 (-1)), m4)) else (none)) := by kernel_rfl

/-! ### (*overdub/bitmap.Map).Take -/
noncomputable def G14 : FuncId → FunA := fun g => bif Nat.beq g 15 then bitmap_Map_First else bif Nat.beq g 9 then bitmap_Map_Set else fun _ _ => none
theorem G14_15 : G14 15 = bitmap_Map_First := by kernel_rfl
theorem G14_9 : G14 9 = bitmap_Map_Set := by kernel_rfl
def A14 : Ann := .two (.leaf) (.two (.leaf) (.two (.leaf) (.two (.leaf) (.leaf))))
def R14 : Slots := [(2, .i .i64)]
noncomputable def bitmap_Map_Take : FunA := denF Try.prog G14 Try.f14 A14 R14
theorem bitmap_Map_Take_eq (p0 q0 o0 : Nat) (μ : AMem) : bitmap_Map_Take [.s (.ptr p0 q0 o0)] μ =
  (bitmap_Map_First [.s (.ptr p0 q0 o0), .s (.int .i64 0)] μ).bind fun r1 =>
  asI .i64 r1.1 fun n2 =>
  (bitmap_Map_Set [.s (.ptr p0 q0 o0), .s (.int .i64 n2), .s (.bool true)] r1.2).bind fun r3 =>
  asB r3.1 fun b4 =>
  some (.s (.int .i64 n2), r3.2) := by rw [← G14_15, ← G14_9]; kernel_rfl

/-! ### (*overdub/bitmap.Map).Count -/
noncomputable def G16 : FuncId → FunA := fun g => bif Nat.beq g 11 then bitmap_Map_Used else fun _ _ => none
theorem G16_11 : G16 11 = bitmap_Map_Used := by kernel_rfl
def A16 : Ann := .two (.leaf) (.two (.leaf) (.two (.two (.leaf) (.join [(3, .i .i64)] [] [] (.loop [(3, .i .i64), (9, .i .i64)] [0, 8] [0] (.two (.leaf) (.two (.two (.leaf) (.leaf)) (.join [(3, .i .i64)] [0, 8, 9] [] (.join [(0, .s), (3, .i .i64), (8, .i .i64), (9, .i .i64)] [] [] (.two (.leaf) (.two (.leaf) (.two (.leaf) (.leaf)))) .leaf) (.leaf))))) .leaf)) (.two (.leaf) (.leaf))))
def R16 : Slots := [(2, .i .i64)]
noncomputable def bitmap_Map_Count : FunA := denF Try.prog G16 Try.f16 A16 R16
noncomputable def bitmap_Map_Count_L1_B (os vs : List AV) (μ : AMem) : Option Res := joinK [(3, .i .i64), (9, .i .i64)] vs (envO [0, 8] os) fun e => den Try.prog G16 Try.f16.ntmps (cL (cL (cR (cL (cR (cR (bodyOf Try.f16))))))) (aL (aL (aR (aL (aR (aR A16)))))) { ret := R16, exits := [(0, [(3, .i .i64)])] } Res e μ fun ex e μ => some (ex, valsOf (Lv.at { ret := R16, exits := [(0, [(3, .i .i64)])] } [(3, .i .i64), (9, .i .i64)] ex) e, μ)
noncomputable def bitmap_Map_Count_L1 (os vs : List AV) (μ : AMem) : Option Res := loopA (bitmap_Map_Count_L1_B os) vs μ
theorem bitmap_Map_Count_L1_B_eq (s0 t0 u0 : Nat) (s8 : Int) (s3 : Int) (s9 : Int) (μ : AMem) : bitmap_Map_Count_L1_B [.s (.ptr s0 t0 u0), .s (.int .i64 s8)] [.s (.int .i64 s3), .s (.int .i64 s9)] μ =
  bif decide (s9 < s8) then
  (seqJ
    ((bitmap_Map_Used [.s (.ptr s0 t0 u0), .s (.int .i64 s9)] μ).bind fun r14 =>
      asB r14.1 fun b15 =>
      bif b15 then
      (some (.normal, [.s (.int .i64 (IntKind.wrap .i64 (s3 + 1)))], r14.2))
      else
      (some (.normal, [.s (.int .i64 s3)], r14.2)))
    (fun vs16 m17 =>
      headK vs16 fun a18 r19 =>
      asI .i64 a18 fun n20 =>
      some (.normal, [.s (.int .i64 n20), .s (.int .i64 (IntKind.wrap .i64 (s9 + 1)))], m17))
    (fun vs21 m22 =>
      headK vs21 fun a26 r27 =>
      asI .i64 a26 fun n28 =>
      some (.ret, [.s (.int .i64 n28)], m22))
    (fun d25 vs23 m24 =>
      none))
  else
  (some (.exit 0, [.s (.int .i64 s3)], μ)) := by rw [← G16_11]; kernel_rfl
theorem bitmap_Map_Count_L1_eq (os vs : List AV) (μ : AMem) : bitmap_Map_Count_L1 os vs μ = (bitmap_Map_Count_L1_B os vs μ).bind fun r => match r.1 with | .normal => bitmap_Map_Count_L1 os r.2.1 r.2.2 | _ => some r := loopA_eq _ _ _
theorem bitmap_Map_Count_eq (p0 q0 o0 : Nat) (μ : AMem) : bitmap_Map_Count [.s (.ptr p0 q0 o0)] μ =
  (μ.cell p0 q0 (o0 + 0)).bind fun x1 =>
  asI .i64 (.s x1) fun n2 =>
  seqJ (bitmap_Map_Count_L1 [.s (.ptr p0 q0 o0), .s (.int .i64 n2)] [.s (.int .i64 0), .s (.int .i64 0)] μ)
  (fun _ _ => none)
  (fun vs3 m4 =>
    headK vs3 fun a8 r9 =>
    asI .i64 a8 fun n10 =>
    some (.s (.int .i64 n10), m4))
  (fun d7 vs5 m6 =>
    bif Nat.beq 0 d7 then (headK vs5 fun a11 r12 =>
      asI .i64 a11 fun n13 =>
      some (.s (.int .i64 n13), m6)) else (none)) := by kernel_rfl

/-! ### overdub/overdublaw11.wakes -/
noncomputable def G12 : FuncId → FunA := fun g => bif Nat.beq g 8 then bitmap_New else bif Nat.beq g 14 then bitmap_Map_Take else bif Nat.beq g 16 then bitmap_Map_Count else fun _ _ => none
theorem G12_8 : G12 8 = bitmap_New := by kernel_rfl
theorem G12_14 : G12 14 = bitmap_Map_Take := by kernel_rfl
theorem G12_16 : G12 16 = bitmap_Map_Count := by kernel_rfl
def A12 : Ann := .two (.leaf) (.two (.leaf) (.two (.leaf) (.leaf)))
def R12 : Slots := [(0, .b)]
noncomputable def overdublaw11_wakes : FunA := denF Try.prog G12 Try.f12 A12 R12
theorem overdublaw11_wakes_eq  (μ : AMem) : overdublaw11_wakes [] μ =
  (bitmap_New [.s (.int .i64 3)] μ).bind fun r1 =>
  extrK 0 r1.1 fun t2 =>
  asS t2 fun x3 =>
  extrK 1 r1.1 fun t4 =>
  asI .i64 t4 fun n5 =>
  bif (n5 == 0) then
  ((isNil (.s x3)).bind fun b6 =>
    bif (!b6) then
    ((bitmap_Map_Take [.s x3] r1.2).bind fun r7 =>
      asI .i64 r7.1 fun n8 =>
      bif (n8 == 0) then
      ((bitmap_Map_Take [.s x3] r7.2).bind fun r9 =>
        asI .i64 r9.1 fun n10 =>
        bif (n10 == 1) then
        ((bitmap_Map_Count [.s x3] r9.2).bind fun r11 =>
          asI .i64 r11.1 fun n12 =>
          some (.s (.bool (n12 == 2)), r11.2))
        else
        (some (.s (.bool false), r9.2)))
      else
      (some (.s (.bool false), r7.2)))
    else
    (some (.s (.bool false), r1.2)))
  else
  (some (.s (.bool false), r1.2)) := by rw [← G12_8, ← G12_14, ← G12_16]; kernel_rfl

/-! ### overdub/overdublaw11.MapLevels -/
noncomputable def G3 : FuncId → FunA := fun g => bif Nat.beq g 7 then overdubkeep_Within else bif Nat.beq g 8 then bitmap_New else bif Nat.beq g 9 then bitmap_Map_Set else bif Nat.beq g 10 then bitmap_Map_Level else bif Nat.beq g 11 then bitmap_Map_Used else bif Nat.beq g 12 then overdublaw11_wakes else fun _ _ => none
theorem G3_7 : G3 7 = overdubkeep_Within := by kernel_rfl
theorem G3_8 : G3 8 = bitmap_New := by kernel_rfl
theorem G3_9 : G3 9 = bitmap_Map_Set := by kernel_rfl
theorem G3_10 : G3 10 = bitmap_Map_Level := by kernel_rfl
theorem G3_11 : G3 11 = bitmap_Map_Used := by kernel_rfl
theorem G3_12 : G3 12 = overdublaw11_wakes := by kernel_rfl
def A3 : Ann := .two (.leaf) (.two (.leaf) (.two (.leaf) (.two (.join [(29, .b)] [0, 1, 2, 7] [] (.leaf) (.two (.two (.leaf) (.leaf)) (.leaf))) (.two (.two (.leaf) (.join [(0, .i .i64), (1, .s), (7, .s)] [] [] (.loop [(9, .i .i64)] [0, 1, 2, 7] [0] (.two (.two (.leaf) (.two (.leaf) (.leaf))) (.two (.join [(0, .i .i64), (1, .s), (2, .i .i64), (7, .s), (9, .i .i64)] [] [] (.leaf) .leaf) (.leaf)))) .leaf)) (.two (.two (.leaf) (.join [(0, .i .i64), (7, .s)] [] [] (.loop [(10, .i .i64)] [0, 1, 7] [2] (.two (.join [(49, .b)] [0, 1, 7, 10] [] (.leaf) (.two (.leaf) (.leaf))) (.two (.join [(0, .i .i64), (1, .s), (7, .s), (10, .i .i64)] [] [] (.ord [0, 1, 2, 3, 4, 5, 7, 8, 9, 10, 6, 11, 12, 13]) .leaf) (.leaf)))) .leaf)) (.two (.leaf) (.two (.two (.leaf) (.two (.two (.leaf) (.leaf)) (.leaf))) (.two (.two (.leaf) (.join [(7, .s), (11, .s)] [] [] (.loop [(12, .i .i64)] [0, 7, 11] [4] (.two (.two (.leaf) (.two (.leaf) (.leaf))) (.two (.join [(0, .i .i64), (7, .s), (11, .s), (12, .i .i64)] [] [] (.two (.ord [0, 1, 2, 3, 4, 5, 6, 7, 8, 9, 10, 11, 12, 13, 14]) (.two (.two (.leaf) (.leaf)) (.leaf))) .leaf) (.leaf)))) .leaf)) (.two (.two (.leaf) (.join [(11, .s)] [] [] (.loop [(11, .s), (13, .i .i64)] [7] [6] (.two (.two (.leaf) (.two (.leaf) (.leaf))) (.two (.join [(7, .s), (11, .s), (13, .i .i64)] [] [] (.two (.leaf) (.two (.two (.leaf) (.two (.two (.leaf) (.leaf)) (.leaf))) (.two (.two (.leaf) (.join [(7, .s), (13, .i .i64), (14, .s)] [] [] (.loop [(111, .i .i64)] [7, 11, 13, 14, 110] [8] (.two (.leaf) (.two (.two (.leaf) (.leaf)) (.two (.join [(7, .s), (11, .s), (13, .i .i64), (14, .s), (110, .i .i64), (111, .i .i64)] [] [] (.two (.leaf) (.two (.ord [0, 1, 2, 3, 4, 5, 6, 7, 8, 9, 10, 11, 12, 13, 14, 15, 16]) (.two (.two (.leaf) (.leaf)) (.leaf)))) .leaf) (.leaf))))) .leaf)) (.leaf)))) .leaf) (.leaf)))) .leaf)) (.two (.leaf) (.leaf)))))))))))
def R3 : Slots := [(6, .b)]
noncomputable def overdublaw11_MapLevels : FunA := denF Try.prog G3 Try.f3 A3 R3
noncomputable def overdublaw11_MapLevels_L5_B (os vs : List AV) (μ : AMem) : Option Res := joinK [(111, .i .i64)] vs (envO [7, 11, 13, 14, 110] os) fun e => den Try.prog G3 Try.f3.ntmps (cL (cL (cR (cL (cR (cR (cL (cL (cR (cL (cL (cR (cL (cR (cR (cR (cR (cR (cR (cR (cR (cR (bodyOf Try.f3))))))))))))))))))))))) (aL (aL (aR (aL (aR (aR (aL (aL (aR (aL (aL (aR (aL (aR (aR (aR (aR (aR (aR (aR (aR (aR A3)))))))))))))))))))))) { ret := R3, exits := [(8, [(7, .s), (13, .i .i64), (14, .s)]), (7, [(7, .s), (11, .s), (13, .i .i64)]), (6, [(11, .s)])] } Res e μ fun ex e μ => some (ex, valsOf (Lv.at { ret := R3, exits := [(8, [(7, .s), (13, .i .i64), (14, .s)]), (7, [(7, .s), (11, .s), (13, .i .i64)]), (6, [(11, .s)])] } [(111, .i .i64)] ex) e, μ)
noncomputable def overdublaw11_MapLevels_L5 (os vs : List AV) (μ : AMem) : Option Res := loopA (overdublaw11_MapLevels_L5_B os) vs μ
noncomputable def overdublaw11_MapLevels_L4_B (os vs : List AV) (μ : AMem) : Option Res := joinK [(11, .s), (13, .i .i64)] vs (envO [7] os) fun e => den Try.prog G3 Try.f3.ntmps (cL (cL (cR (cL (cR (cR (cR (cR (cR (cR (cR (cR (cR (bodyOf Try.f3)))))))))))))) (aL (aL (aR (aL (aR (aR (aR (aR (aR (aR (aR (aR (aR A3))))))))))))) { ret := R3, exits := [(6, [(11, .s)])] } Res e μ fun ex e μ => some (ex, valsOf (Lv.at { ret := R3, exits := [(6, [(11, .s)])] } [(11, .s), (13, .i .i64)] ex) e, μ)
noncomputable def overdublaw11_MapLevels_L4 (os vs : List AV) (μ : AMem) : Option Res := loopA (overdublaw11_MapLevels_L4_B os) vs μ
noncomputable def overdublaw11_MapLevels_L3_B (os vs : List AV) (μ : AMem) : Option Res := joinK [(12, .i .i64)] vs (envO [0, 7, 11] os) fun e => den Try.prog G3 Try.f3.ntmps (cL (cL (cR (cL (cR (cR (cR (cR (cR (cR (cR (cR (bodyOf Try.f3))))))))))))) (aL (aL (aR (aL (aR (aR (aR (aR (aR (aR (aR (aR A3)))))))))))) { ret := R3, exits := [(4, [(7, .s), (11, .s)])] } Res e μ fun ex e μ => some (ex, valsOf (Lv.at { ret := R3, exits := [(4, [(7, .s), (11, .s)])] } [(12, .i .i64)] ex) e, μ)
noncomputable def overdublaw11_MapLevels_L3 (os vs : List AV) (μ : AMem) : Option Res := loopA (overdublaw11_MapLevels_L3_B os) vs μ
noncomputable def overdublaw11_MapLevels_L2_B (os vs : List AV) (μ : AMem) : Option Res := joinK [(10, .i .i64)] vs (envO [0, 1, 7] os) fun e => den Try.prog G3 Try.f3.ntmps (cL (cL (cR (cL (cR (cR (cR (cR (cR (bodyOf Try.f3)))))))))) (aL (aL (aR (aL (aR (aR (aR (aR (aR A3))))))))) { ret := R3, exits := [(2, [(0, .i .i64), (7, .s)])] } Res e μ fun ex e μ => some (ex, valsOf (Lv.at { ret := R3, exits := [(2, [(0, .i .i64), (7, .s)])] } [(10, .i .i64)] ex) e, μ)
noncomputable def overdublaw11_MapLevels_L2 (os vs : List AV) (μ : AMem) : Option Res := loopA (overdublaw11_MapLevels_L2_B os) vs μ
noncomputable def overdublaw11_MapLevels_L1_B (os vs : List AV) (μ : AMem) : Option Res := joinK [(9, .i .i64)] vs (envO [0, 1, 2, 7] os) fun e => den Try.prog G3 Try.f3.ntmps (cL (cL (cR (cL (cR (cR (cR (cR (bodyOf Try.f3))))))))) (aL (aL (aR (aL (aR (aR (aR (aR A3)))))))) { ret := R3, exits := [(0, [(0, .i .i64), (1, .s), (7, .s)])] } Res e μ fun ex e μ => some (ex, valsOf (Lv.at { ret := R3, exits := [(0, [(0, .i .i64), (1, .s), (7, .s)])] } [(9, .i .i64)] ex) e, μ)
noncomputable def overdublaw11_MapLevels_L1 (os vs : List AV) (μ : AMem) : Option Res := loopA (overdublaw11_MapLevels_L1_B os) vs μ
theorem overdublaw11_MapLevels_L5_B_eq (s7 : SV) (s11 : SV) (s13 : Int) (s14 : SV) (s110 : Int) (s111 : Int) (μ : AMem) : overdublaw11_MapLevels_L5_B [.s s7, .s s11, .s (.int .i64 s13), .s s14, .s (.int .i64 s110)] [.s (.int .i64 s111)] μ =
  bif decide (s111 < s110) then
  (indS 1 (.s s14) (IntKind.wrap .i64 (Int.tdiv s111 64)) fun p140 =>
    loadAt μ p140 fun v141 =>
    asI .u64 v141 fun n142 =>
    if (IntKind.wrap .u64 (Int.tmod s111 64)) < 0 then none else
    (indS 1 (.s s11) s111 fun p143 =>
      loadAt μ p143 fun v144 =>
      asI .u64 v144 fun n145 =>
      bif (!(((IntKind.wrap .u64 (BitVec.toNat ((BitVec.ofInt (IntKind.bits .u64) (Int.fdiv n142 (2 ^ (min (Int.toNat (IntKind.wrap .u64 (Int.tmod s111 64))) (IntKind.bits .u64))))) &&& (BitVec.ofInt (IntKind.bits .u64) 1)))) == 1) == (n145 == 18446744073709551615))) then
      (some (.ret, [.s (.bool false)], μ))
      else
      (some (.normal, [.s (.int .i64 (IntKind.wrap .i64 (s111 + 1)))], μ))))
  else
  (some (.exit 8, [.s s7, .s (.int .i64 s13), .s s14], μ)) := by kernel_rfl
theorem overdublaw11_MapLevels_L5_eq (os vs : List AV) (μ : AMem) : overdublaw11_MapLevels_L5 os vs μ = (overdublaw11_MapLevels_L5_B os vs μ).bind fun r => match r.1 with | .normal => overdublaw11_MapLevels_L5 os r.2.1 r.2.2 | _ => some r := loopA_eq _ _ _
theorem overdublaw11_MapLevels_L4_B_eq (s7 : SV) (s11 : SV) (s13 : Int) (μ : AMem) : overdublaw11_MapLevels_L4_B [.s s7] [.s s11, .s (.int .i64 s13)] μ =
  (lenS (.s s11)).bind fun l117 =>
  bif decide (((l117 : Nat) : Int) > 1) then
  ((bitmap_Map_Level [.s s7, .s (.int .i64 s13)] μ).bind fun r118 =>
    asS r118.1 fun x119 =>
    (lenS (.s x119)).bind fun l120 =>
    (lenS (.s s11)).bind fun l121 =>
    bif (((l120 : Nat) : Int) != (IntKind.wrap .i64 (Int.tdiv (IntKind.wrap .i64 (((l121 : Nat) : Int) + 63)) 64))) then
    (some (.ret, [.s (.bool false)], r118.2))
    else
    ((lenS (.s s11)).bind fun l122 =>
      seqJ (overdublaw11_MapLevels_L5 [.s s7, .s s11, .s (.int .i64 s13), .s x119, .s (.int .i64 ((l122 : Nat) : Int))] [.s (.int .i64 0)] r118.2)
      (fun _ _ => none)
      (fun vs123 m124 =>
        headK vs123 fun a128 r129 =>
        asB a128 fun b130 =>
        some (.ret, [.s (.bool b130)], m124))
      (fun d127 vs125 m126 =>
        bif Nat.beq 8 d127 then (headK vs125 fun a131 r132 =>
          asS a131 fun x133 =>
          headK r132 fun a134 r135 =>
          asI .i64 a134 fun n136 =>
          headK r135 fun a137 r138 =>
          asS a137 fun x139 =>
          some (.normal, [.s x139, .s (.int .i64 (IntKind.wrap .i64 (n136 + 1)))], m126)) else (none))))
  else
  (some (.exit 6, [.s s11], μ)) := by rw [← G3_10]; kernel_rfl
theorem overdublaw11_MapLevels_L4_eq (os vs : List AV) (μ : AMem) : overdublaw11_MapLevels_L4 os vs μ = (overdublaw11_MapLevels_L4_B os vs μ).bind fun r => match r.1 with | .normal => overdublaw11_MapLevels_L4 os r.2.1 r.2.2 | _ => some r := loopA_eq _ _ _
theorem overdublaw11_MapLevels_L3_B_eq (s0 : Int) (s7 : SV) (s11 : SV) (s12 : Int) (μ : AMem) : overdublaw11_MapLevels_L3_B [.s (.int .i64 s0), .s s7, .s s11] [.s (.int .i64 s12)] μ =
  bif decide (s12 < s0) then
  (indS 1 (.s s11) (IntKind.wrap .i64 (Int.tdiv s12 64)) fun p112 =>
    loadAt μ p112 fun v113 =>
    asI .u64 v113 fun n114 =>
    if (IntKind.wrap .u64 (Int.tmod s12 64)) < 0 then none else
    ((bitmap_Map_Used [.s s7, .s (.int .i64 s12)] μ).bind fun r115 =>
      asB r115.1 fun b116 =>
      checkA ((loadAt r115.2 p112 some) = some (.s (.int .u64 n114)))
      (bif (!(((IntKind.wrap .u64 (BitVec.toNat ((BitVec.ofInt (IntKind.bits .u64) (Int.fdiv n114 (2 ^ (min (Int.toNat (IntKind.wrap .u64 (Int.tmod s12 64))) (IntKind.bits .u64))))) &&& (BitVec.ofInt (IntKind.bits .u64) 1)))) == 1) == b116)) then
        (some (.ret, [.s (.bool false)], r115.2))
        else
        (some (.normal, [.s (.int .i64 (IntKind.wrap .i64 (s12 + 1)))], r115.2)))))
  else
  (some (.exit 4, [.s s7, .s s11], μ)) := by rw [← G3_11]; kernel_rfl
theorem overdublaw11_MapLevels_L3_eq (os vs : List AV) (μ : AMem) : overdublaw11_MapLevels_L3 os vs μ = (overdublaw11_MapLevels_L3_B os vs μ).bind fun r => match r.1 with | .normal => overdublaw11_MapLevels_L3 os r.2.1 r.2.2 | _ => some r := loopA_eq _ _ _
theorem overdublaw11_MapLevels_L2_B_eq (s0 : Int) (s1 : SV) (s7 : SV) (s10 : Int) (μ : AMem) : overdublaw11_MapLevels_L2_B [.s (.int .i64 s0), .s s1, .s s7] [.s (.int .i64 s10)] μ =
  seqJ
  ((lenS (.s s1)).bind fun l88 =>
    bif decide (s10 < ((l88 : Nat) : Int)) then
    (some (.normal, [.s (.bool (decide (s10 < 30)))], μ))
    else
    (some (.normal, [.s (.bool false)], μ)))
  (fun vs89 m90 =>
    headK vs89 fun a91 r92 =>
    asB a91 fun b93 =>
    bif b93 then
    (indS 1 (.s s1) s10 fun p94 =>
      loadAt m90 p94 fun v95 =>
      asI .i64 v95 fun n96 =>
      indS 1 (.s s1) s10 fun p97 =>
      loadAt m90 p97 fun v98 =>
      asI .i64 v98 fun n99 =>
      (overdubkeep_Within [.s (.int .i64 n96), .s (.int .i64 s0)] m90).bind fun r100 =>
      asI .i64 r100.1 fun n101 =>
      checkA ((loadAt r100.2 p97 some) = some (.s (.int .i64 n99)))
      ((bitmap_Map_Set [.s s7, .s (.int .i64 n101), .s (.bool ((Int.tmod n99 2) == 0))] r100.2).bind fun r102 =>
        asB r102.1 fun b103 =>
        some (.normal, [.s (.int .i64 (IntKind.wrap .i64 (s10 + 1)))], r102.2)))
    else
    (some (.exit 2, [.s (.int .i64 s0), .s s7], m90)))
  (fun vs104 m105 =>
    headK vs104 fun a109 r110 =>
    asB a109 fun b111 =>
    some (.ret, [.s (.bool b111)], m105))
  (fun d108 vs106 m107 =>
    none) := by rw [← G3_7, ← G3_9]; kernel_rfl
theorem overdublaw11_MapLevels_L2_eq (os vs : List AV) (μ : AMem) : overdublaw11_MapLevels_L2 os vs μ = (overdublaw11_MapLevels_L2_B os vs μ).bind fun r => match r.1 with | .normal => overdublaw11_MapLevels_L2 os r.2.1 r.2.2 | _ => some r := loopA_eq _ _ _
theorem overdublaw11_MapLevels_L1_B_eq (s0 : Int) (s1 : SV) (s2 : Int) (s7 : SV) (s9 : Int) (μ : AMem) : overdublaw11_MapLevels_L1_B [.s (.int .i64 s0), .s s1, .s (.int .i64 s2), .s s7] [.s (.int .i64 s9)] μ =
  (overdubkeep_Within [.s (.int .i64 s2), .s (.int .i64 3)] μ).bind fun r84 =>
  asI .i64 r84.1 fun n85 =>
  bif decide (s9 < (IntKind.wrap .i64 (Int.tdiv (IntKind.wrap .i64 (n85 * s0)) 2))) then
  ((bitmap_Map_Set [.s s7, .s (.int .i64 s9), .s (.bool true)] r84.2).bind fun r86 =>
    asB r86.1 fun b87 =>
    some (.normal, [.s (.int .i64 (IntKind.wrap .i64 (s9 + 1)))], r86.2))
  else
  (some (.exit 0, [.s (.int .i64 s0), .s s1, .s s7], r84.2)) := by rw [← G3_7, ← G3_9]; kernel_rfl
theorem overdublaw11_MapLevels_L1_eq (os vs : List AV) (μ : AMem) : overdublaw11_MapLevels_L1 os vs μ = (overdublaw11_MapLevels_L1_B os vs μ).bind fun r => match r.1 with | .normal => overdublaw11_MapLevels_L1 os r.2.1 r.2.2 | _ => some r := loopA_eq _ _ _
theorem overdublaw11_MapLevels_eq (p0 : Int) (p1 : SV) (p2 : Int) (μ : AMem) : overdublaw11_MapLevels [.s (.int .i64 p0), .s p1, .s (.int .i64 p2)] μ =
  (overdubkeep_Within [.s (.int .i64 p0), .s (.int .i64 4096)] μ).bind fun r1 =>
  asI .i64 r1.1 fun n2 =>
  (bitmap_New [.s (.int .i64 (IntKind.wrap .i64 (1 + n2)))] r1.2).bind fun r3 =>
  extrK 0 r3.1 fun t4 =>
  asS t4 fun x5 =>
  extrK 1 r3.1 fun t6 =>
  asI .i64 t6 fun n7 =>
  seqJ
  (bif !(n7 != 0) then
    ((isNil (.s x5)).bind fun b8 =>
      some (.normal, [.s (.bool b8)], r3.2))
    else
    (some (.normal, [.s (.bool true)], r3.2)))
  (fun vs9 m10 =>
    headK vs9 fun a11 r12 =>
    asB a11 fun b13 =>
    bif b13 then
    (some (.s (.bool false), m10))
    else
    (seqJ (overdublaw11_MapLevels_L1 [.s (.int .i64 (IntKind.wrap .i64 (1 + n2))), .s p1, .s (.int .i64 p2), .s x5] [.s (.int .i64 0)] m10)
      (fun _ _ => none)
      (fun vs14 m15 =>
        headK vs14 fun a19 r20 =>
        asB a19 fun b21 =>
        some (.s (.bool b21), m15))
      (fun d18 vs16 m17 =>
        bif Nat.beq 0 d18 then (headK vs16 fun a22 r23 =>
          asI .i64 a22 fun n24 =>
          headK r23 fun a25 r26 =>
          asS a25 fun x27 =>
          headK r26 fun a28 r29 =>
          asS a28 fun x30 =>
          seqJ (overdublaw11_MapLevels_L2 [.s (.int .i64 n24), .s x27, .s x30] [.s (.int .i64 0)] m17)
          (fun _ _ => none)
          (fun vs31 m32 =>
            headK vs31 fun a36 r37 =>
            asB a36 fun b38 =>
            some (.s (.bool b38), m32))
          (fun d35 vs33 m34 =>
            bif Nat.beq 2 d35 then (headK vs33 fun a39 r40 =>
              asI .i64 a39 fun n41 =>
              headK r40 fun a42 r43 =>
              asS a42 fun x44 =>
              (bitmap_Map_Level [.s x44, .s (.int .i64 0)] m34).bind fun r45 =>
              asS r45.1 fun x46 =>
              (lenS (.s x46)).bind fun l47 =>
              bif (((l47 : Nat) : Int) != (IntKind.wrap .i64 (Int.tdiv (IntKind.wrap .i64 (n41 + 63)) 64))) then
              (some (.s (.bool false), r45.2))
              else
              (seqJ (overdublaw11_MapLevels_L3 [.s (.int .i64 n41), .s x44, .s x46] [.s (.int .i64 0)] r45.2)
                (fun _ _ => none)
                (fun vs48 m49 =>
                  headK vs48 fun a53 r54 =>
                  asB a53 fun b55 =>
                  some (.s (.bool b55), m49))
                (fun d52 vs50 m51 =>
                  bif Nat.beq 4 d52 then (headK vs50 fun a56 r57 =>
                    asS a56 fun x58 =>
                    headK r57 fun a59 r60 =>
                    asS a59 fun x61 =>
                    seqJ (overdublaw11_MapLevels_L4 [.s x58] [.s x61, .s (.int .i64 1)] m51)
                    (fun _ _ => none)
                    (fun vs62 m63 =>
                      headK vs62 fun a67 r68 =>
                      asB a67 fun b69 =>
                      some (.s (.bool b69), m63))
                    (fun d66 vs64 m65 =>
                      bif Nat.beq 6 d66 then (headK vs64 fun a70 r71 =>
                        asS a70 fun x72 =>
                        (lenS (.s x72)).bind fun l73 =>
                        bif (((l73 : Nat) : Int) == 1) then
                        ((overdublaw11_wakes [] m65).bind fun r74 =>
                          asB r74.1 fun b75 =>
                          some (.s (.bool b75), r74.2))
                        else
                        (some (.s (.bool false), m65))) else (none))) else (none)))) else (none))) else (none))))
  (fun vs76 m77 =>
    headK vs76 fun a81 r82 =>
    asB a81 fun b83 =>
    some (.s (.bool b83), m77))
  (fun d80 vs78 m79 =>
    none) := by rw [← G3_7, ← G3_8, ← G3_10, ← G3_12]; kernel_rfl

/-! ### (*overdub/bitmap.Map).Run -/
noncomputable def G13 : FuncId → FunA := fun g => bif Nat.beq g 11 then bitmap_Map_Used else fun _ _ => none
theorem G13_11 : G13 11 = bitmap_Map_Used := by kernel_rfl
def A13 : Ann := .two (.leaf) (.two (.two (.leaf) (.two (.two (.leaf) (.leaf)) (.leaf))) (.two (.leaf) (.two (.two (.leaf) (.join [] [] [] (.loop [(5, .i .i64), (13, .i .i64)] [0, 1, 12] [0] (.two (.leaf) (.two (.two (.leaf) (.leaf)) (.two (.join [(0, .s), (1, .i .i64), (5, .i .i64), (12, .i .i64), (13, .i .i64)] [] [] (.two (.leaf) (.two (.leaf) (.join [(5, .i .i64)] [0, 1, 6, 12, 13] [] (.two (.leaf) (.two (.leaf) (.leaf))) (.two (.leaf) (.two (.two (.leaf) (.leaf)) (.leaf)))))) .leaf) (.leaf))))) .leaf)) (.two (.leaf) (.leaf)))))
def R13 : Slots := [(4, .i .i64)]
noncomputable def bitmap_Map_Run : FunA := denF Try.prog G13 Try.f13 A13 R13
noncomputable def bitmap_Map_Run_L1_B (os vs : List AV) (μ : AMem) : Option Res := joinK [(5, .i .i64), (13, .i .i64)] vs (envO [0, 1, 12] os) fun e => den Try.prog G13 Try.f13.ntmps (cL (cL (cR (cL (cR (cR (cR (bodyOf Try.f13)))))))) (aL (aL (aR (aL (aR (aR (aR A13))))))) { ret := R13, exits := [(0, [])] } Res e μ fun ex e μ => some (ex, valsOf (Lv.at { ret := R13, exits := [(0, [])] } [(5, .i .i64), (13, .i .i64)] ex) e, μ)
noncomputable def bitmap_Map_Run_L1 (os vs : List AV) (μ : AMem) : Option Res := loopA (bitmap_Map_Run_L1_B os) vs μ
theorem bitmap_Map_Run_L1_B_eq (s0 t0 u0 : Nat) (s1 : Int) (s12 : Int) (s5 : Int) (s13 : Int) (μ : AMem) : bitmap_Map_Run_L1_B [.s (.ptr s0 t0 u0), .s (.int .i64 s1), .s (.int .i64 s12)] [.s (.int .i64 s5), .s (.int .i64 s13)] μ =
  bif decide (s13 < s12) then
  (seqJ
    ((bitmap_Map_Used [.s (.ptr s0 t0 u0), .s (.int .i64 s13)] μ).bind fun r11 =>
      asB r11.1 fun b12 =>
      bif b12 then
      (some (.normal, [.s (.int .i64 0)], r11.2))
      else
      (some (.normal, [.s (.int .i64 (IntKind.wrap .i64 (s5 + 1)))], r11.2)))
    (fun vs13 m14 =>
      headK vs13 fun a15 r16 =>
      asI .i64 a15 fun n17 =>
      bif (n17 == s1) then
      (some (.ret, [.s (.int .i64 (IntKind.wrap .i64 ((IntKind.wrap .i64 (s13 - s1)) + 1)))], m14))
      else
      (some (.normal, [.s (.int .i64 n17), .s (.int .i64 (IntKind.wrap .i64 (s13 + 1)))], m14)))
    (fun vs18 m19 =>
      headK vs18 fun a23 r24 =>
      asI .i64 a23 fun n25 =>
      some (.ret, [.s (.int .i64 n25)], m19))
    (fun d22 vs20 m21 =>
      none))
  else
  (some (.exit 0, [], μ)) := by rw [← G13_11]; kernel_rfl
theorem bitmap_Map_Run_L1_eq (os vs : List AV) (μ : AMem) : bitmap_Map_Run_L1 os vs μ = (bitmap_Map_Run_L1_B os vs μ).bind fun r => match r.1 with | .normal => bitmap_Map_Run_L1 os r.2.1 r.2.2 | _ => some r := loopA_eq _ _ _
theorem bitmap_Map_Run_eq (p0 q0 o0 : Nat) (p1 : Int) (μ : AMem) : bitmap_Map_Run [.s (.ptr p0 q0 o0), .s (.int .i64 p1)] μ =
  bif decide (p1 < 1) then
  (some (.s (.int .i64 (-1)), μ))
  else
  ((μ.cell p0 q0 (o0 + 0)).bind fun x1 =>
    asI .i64 (.s x1) fun n2 =>
    seqJ (bitmap_Map_Run_L1 [.s (.ptr p0 q0 o0), .s (.int .i64 p1), .s (.int .i64 n2)] [.s (.int .i64 0), .s (.int .i64 0)] μ)
    (fun _ _ => none)
    (fun vs3 m4 =>
      headK vs3 fun a8 r9 =>
      asI .i64 a8 fun n10 =>
      some (.s (.int .i64 n10), m4))
    (fun d7 vs5 m6 =>
      bif Nat.beq 0 d7 then (some (.s (.int .i64 (-1)), m6)) else (none))) := by kernel_rfl

/-! ### overdub/overdublaw11.MapFills -/
noncomputable def G4 : FuncId → FunA := fun g => bif Nat.beq g 7 then overdubkeep_Within else bif Nat.beq g 8 then bitmap_New else bif Nat.beq g 13 then bitmap_Map_Run else bif Nat.beq g 14 then bitmap_Map_Take else bif Nat.beq g 15 then bitmap_Map_First else bif Nat.beq g 9 then bitmap_Map_Set else bif Nat.beq g 16 then bitmap_Map_Count else bif Nat.beq g 12 then overdublaw11_wakes else fun _ _ => none
theorem G4_7 : G4 7 = overdubkeep_Within := by kernel_rfl
theorem G4_8 : G4 8 = bitmap_New := by kernel_rfl
theorem G4_13 : G4 13 = bitmap_Map_Run := by kernel_rfl
theorem G4_14 : G4 14 = bitmap_Map_Take := by kernel_rfl
theorem G4_15 : G4 15 = bitmap_Map_First := by kernel_rfl
theorem G4_9 : G4 9 = bitmap_Map_Set := by kernel_rfl
theorem G4_16 : G4 16 = bitmap_Map_Count := by kernel_rfl
theorem G4_12 : G4 12 = overdublaw11_wakes := by kernel_rfl
def A4 : Ann := .two (.leaf) (.two (.leaf) (.two (.leaf) (.two (.join [(21, .b)] [0, 1, 5] [] (.leaf) (.two (.two (.leaf) (.leaf)) (.leaf))) (.two (.two (.leaf) (.join [(0, .i .i64), (1, .i .i64), (5, .s)] [] [] (.loop [(7, .i .i64)] [0, 1, 5] [0] (.two (.two (.leaf) (.two (.leaf) (.leaf))) (.two (.join [(0, .i .i64), (1, .i .i64), (5, .s), (7, .i .i64)] [] [] (.join [(39, .b)] [0, 1, 5, 7] [] (.leaf) (.two (.two (.leaf) (.leaf)) (.leaf))) .leaf) (.leaf)))) .leaf)) (.two (.leaf) (.two (.leaf) (.leaf)))))))
def R4 : Slots := [(4, .b)]
noncomputable def overdublaw11_MapFills : FunA := denF Try.prog G4 Try.f4 A4 R4
noncomputable def overdublaw11_MapFills_L1_B (os vs : List AV) (μ : AMem) : Option Res := joinK [(7, .i .i64)] vs (envO [0, 1, 5] os) fun e => den Try.prog G4 Try.f4.ntmps (cL (cL (cR (cL (cR (cR (cR (cR (bodyOf Try.f4))))))))) (aL (aL (aR (aL (aR (aR (aR (aR A4)))))))) { ret := R4, exits := [(0, [(0, .i .i64), (1, .i .i64), (5, .s)])] } Res e μ fun ex e μ => some (ex, valsOf (Lv.at { ret := R4, exits := [(0, [(0, .i .i64), (1, .i .i64), (5, .s)])] } [(7, .i .i64)] ex) e, μ)
noncomputable def overdublaw11_MapFills_L1 (os vs : List AV) (μ : AMem) : Option Res := loopA (overdublaw11_MapFills_L1_B os) vs μ
theorem overdublaw11_MapFills_L1_B_eq (s0 : Int) (s1 : Int) (s5 : SV) (s7 : Int) (μ : AMem) : overdublaw11_MapFills_L1_B [.s (.int .i64 s0), .s (.int .i64 s1), .s s5] [.s (.int .i64 s7)] μ =
  bif decide (s7 < s0) then
  (seqJ
    ((bitmap_Map_Run [.s s5, .s (.int .i64 (IntKind.wrap .i64 (s0 - s7)))] μ).bind fun r59 =>
      asI .i64 r59.1 fun n60 =>
      bif !(n60 != s7) then
      ((bitmap_Map_Take [.s s5] r59.2).bind fun r61 =>
        asI .i64 r61.1 fun n62 =>
        some (.normal, [.s (.bool (n62 != s7))], r61.2))
      else
      (some (.normal, [.s (.bool true)], r59.2)))
    (fun vs63 m64 =>
      headK vs63 fun a65 r66 =>
      asB a65 fun b67 =>
      bif b67 then
      (some (.ret, [.s (.bool false)], m64))
      else
      (some (.normal, [.s (.int .i64 (IntKind.wrap .i64 (s7 + 1)))], m64)))
    (fun vs68 m69 =>
      headK vs68 fun a73 r74 =>
      asB a73 fun b75 =>
      some (.ret, [.s (.bool b75)], m69))
    (fun d72 vs70 m71 =>
      none))
  else
  (some (.exit 0, [.s (.int .i64 s0), .s (.int .i64 s1), .s s5], μ)) := by rw [← G4_13, ← G4_14]; kernel_rfl
theorem overdublaw11_MapFills_L1_eq (os vs : List AV) (μ : AMem) : overdublaw11_MapFills_L1 os vs μ = (overdublaw11_MapFills_L1_B os vs μ).bind fun r => match r.1 with | .normal => overdublaw11_MapFills_L1 os r.2.1 r.2.2 | _ => some r := loopA_eq _ _ _
theorem overdublaw11_MapFills_eq (p0 : Int) (p1 : Int) (μ : AMem) : overdublaw11_MapFills [.s (.int .i64 p0), .s (.int .i64 p1)] μ =
  (overdubkeep_Within [.s (.int .i64 p0), .s (.int .i64 300)] μ).bind fun r1 =>
  asI .i64 r1.1 fun n2 =>
  (bitmap_New [.s (.int .i64 (IntKind.wrap .i64 (1 + n2)))] r1.2).bind fun r3 =>
  extrK 0 r3.1 fun t4 =>
  asS t4 fun x5 =>
  extrK 1 r3.1 fun t6 =>
  asI .i64 t6 fun n7 =>
  seqJ
  (bif !(n7 != 0) then
    ((isNil (.s x5)).bind fun b8 =>
      some (.normal, [.s (.bool b8)], r3.2))
    else
    (some (.normal, [.s (.bool true)], r3.2)))
  (fun vs9 m10 =>
    headK vs9 fun a11 r12 =>
    asB a11 fun b13 =>
    bif b13 then
    (some (.s (.bool false), m10))
    else
    (seqJ (overdublaw11_MapFills_L1 [.s (.int .i64 (IntKind.wrap .i64 (1 + n2))), .s (.int .i64 p1), .s x5] [.s (.int .i64 0)] m10)
      (fun _ _ => none)
      (fun vs14 m15 =>
        headK vs14 fun a19 r20 =>
        asB a19 fun b21 =>
        some (.s (.bool b21), m15))
      (fun d18 vs16 m17 =>
        bif Nat.beq 0 d18 then (headK vs16 fun a22 r23 =>
          asI .i64 a22 fun n24 =>
          headK r23 fun a25 r26 =>
          asI .i64 a25 fun n27 =>
          headK r26 fun a28 r29 =>
          asS a28 fun x30 =>
          (overdubkeep_Within [.s (.int .i64 n27), .s (.int .i64 n24)] m17).bind fun r31 =>
          asI .i64 r31.1 fun n32 =>
          (bitmap_Map_Take [.s x30] r31.2).bind fun r33 =>
          asI .i64 r33.1 fun n34 =>
          bif (n34 == (-1)) then
          ((bitmap_Map_First [.s x30, .s (.int .i64 0)] r33.2).bind fun r35 =>
            asI .i64 r35.1 fun n36 =>
            bif (n36 == (-1)) then
            ((bitmap_Map_Run [.s x30, .s (.int .i64 1)] r35.2).bind fun r37 =>
              asI .i64 r37.1 fun n38 =>
              bif (n38 == (-1)) then
              ((bitmap_Map_Set [.s x30, .s (.int .i64 n32), .s (.bool false)] r37.2).bind fun r39 =>
                asB r39.1 fun b40 =>
                bif b40 then
                ((bitmap_Map_First [.s x30, .s (.int .i64 0)] r39.2).bind fun r41 =>
                  asI .i64 r41.1 fun n42 =>
                  bif (n42 == n32) then
                  ((bitmap_Map_Take [.s x30] r41.2).bind fun r43 =>
                    asI .i64 r43.1 fun n44 =>
                    bif (n44 == n32) then
                    ((bitmap_Map_Count [.s x30] r43.2).bind fun r45 =>
                      asI .i64 r45.1 fun n46 =>
                      bif (n46 == n24) then
                      ((bitmap_Map_Set [.s x30, .s (.int .i64 n32), .s (.bool true)] r45.2).bind fun r47 =>
                        asB r47.1 fun b48 =>
                        bif (!b48) then
                        ((overdublaw11_wakes [] r47.2).bind fun r49 =>
                          asB r49.1 fun b50 =>
                          some (.s (.bool b50), r49.2))
                        else
                        (some (.s (.bool false), r47.2)))
                      else
                      (some (.s (.bool false), r45.2)))
                    else
                    (some (.s (.bool false), r43.2)))
                  else
                  (some (.s (.bool false), r41.2)))
                else
                (some (.s (.bool false), r39.2)))
              else
              (some (.s (.bool false), r37.2)))
            else
            (some (.s (.bool false), r35.2)))
          else
          (some (.s (.bool false), r33.2))) else (none))))
  (fun vs51 m52 =>
    headK vs51 fun a56 r57 =>
    asB a56 fun b58 =>
    some (.s (.bool b58), m52))
  (fun d55 vs53 m54 =>
    none) := by rw [← G4_7, ← G4_8, ← G4_13, ← G4_14, ← G4_15, ← G4_9, ← G4_16, ← G4_12]; kernel_rfl

/-! ### overdub/overdublaw11.MapRuns -/
noncomputable def G5 : FuncId → FunA := fun g => bif Nat.beq g 7 then overdubkeep_Within else bif Nat.beq g 8 then bitmap_New else bif Nat.beq g 9 then bitmap_Map_Set else bif Nat.beq g 13 then bitmap_Map_Run else bif Nat.beq g 11 then bitmap_Map_Used else bif Nat.beq g 15 then bitmap_Map_First else bif Nat.beq g 12 then overdublaw11_wakes else fun _ _ => none
theorem G5_7 : G5 7 = overdubkeep_Within := by kernel_rfl
theorem G5_8 : G5 8 = bitmap_New := by kernel_rfl
theorem G5_9 : G5 9 = bitmap_Map_Set := by kernel_rfl
theorem G5_13 : G5 13 = bitmap_Map_Run := by kernel_rfl
theorem G5_11 : G5 11 = bitmap_Map_Used := by kernel_rfl
theorem G5_15 : G5 15 = bitmap_Map_First := by kernel_rfl
theorem G5_12 : G5 12 = overdublaw11_wakes := by kernel_rfl
def A5 : Ann := .two (.leaf) (.two (.leaf) (.two (.leaf) (.two (.join [(26, .b)] [0, 1, 2, 7] [] (.leaf) (.two (.two (.leaf) (.leaf)) (.leaf))) (.two (.two (.leaf) (.join [(0, .i .i64), (2, .i .i64), (7, .s)] [] [] (.loop [(9, .i .i64)] [0, 1, 2, 7] [0] (.two (.join [(34, .b)] [0, 1, 2, 7, 9] [] (.leaf) (.two (.leaf) (.leaf))) (.two (.join [(0, .i .i64), (1, .s), (2, .i .i64), (7, .s), (9, .i .i64)] [] [] (.leaf) .leaf) (.leaf)))) .leaf)) (.two (.leaf) (.two (.leaf) (.two (.leaf) (.two (.two (.leaf) (.join [(7, .s), (10, .i .i64)] [] [] (.loop [(11, .i .i64), (12, .i .i64)] [0, 2, 7, 10] [2] (.two (.two (.leaf) (.two (.leaf) (.leaf))) (.join [(11, .i .i64)] [0, 2, 7, 10, 12] [] (.join [(0, .i .i64), (2, .i .i64), (7, .s), (10, .i .i64), (11, .i .i64), (12, .i .i64)] [] [] (.two (.two (.leaf) (.two (.two (.leaf) (.leaf)) (.leaf))) (.two (.leaf) (.two (.leaf) (.two (.two (.leaf) (.leaf)) (.leaf))))) .leaf) (.leaf)))) .leaf)) (.two (.leaf) (.leaf))))))))))
def R5 : Slots := [(6, .b)]
noncomputable def overdublaw11_MapRuns : FunA := denF Try.prog G5 Try.f5 A5 R5
noncomputable def overdublaw11_MapRuns_L2_B (os vs : List AV) (μ : AMem) : Option Res := joinK [(11, .i .i64), (12, .i .i64)] vs (envO [0, 2, 7, 10] os) fun e => den Try.prog G5 Try.f5.ntmps (cL (cL (cR (cL (cR (cR (cR (cR (cR (cR (cR (cR (bodyOf Try.f5))))))))))))) (aL (aL (aR (aL (aR (aR (aR (aR (aR (aR (aR (aR A5)))))))))))) { ret := R5, exits := [(2, [(7, .s), (10, .i .i64)])] } Res e μ fun ex e μ => some (ex, valsOf (Lv.at { ret := R5, exits := [(2, [(7, .s), (10, .i .i64)])] } [(11, .i .i64), (12, .i .i64)] ex) e, μ)
noncomputable def overdublaw11_MapRuns_L2 (os vs : List AV) (μ : AMem) : Option Res := loopA (overdublaw11_MapRuns_L2_B os) vs μ
noncomputable def overdublaw11_MapRuns_L1_B (os vs : List AV) (μ : AMem) : Option Res := joinK [(9, .i .i64)] vs (envO [0, 1, 2, 7] os) fun e => den Try.prog G5 Try.f5.ntmps (cL (cL (cR (cL (cR (cR (cR (cR (bodyOf Try.f5))))))))) (aL (aL (aR (aL (aR (aR (aR (aR A5)))))))) { ret := R5, exits := [(0, [(0, .i .i64), (2, .i .i64), (7, .s)])] } Res e μ fun ex e μ => some (ex, valsOf (Lv.at { ret := R5, exits := [(0, [(0, .i .i64), (2, .i .i64), (7, .s)])] } [(9, .i .i64)] ex) e, μ)
noncomputable def overdublaw11_MapRuns_L1 (os vs : List AV) (μ : AMem) : Option Res := loopA (overdublaw11_MapRuns_L1_B os) vs μ
theorem overdublaw11_MapRuns_L2_B_eq (s0 : Int) (s2 : Int) (s7 : SV) (s10 : Int) (s11 : Int) (s12 : Int) (μ : AMem) : overdublaw11_MapRuns_L2_B [.s (.int .i64 s0), .s (.int .i64 s2), .s s7, .s (.int .i64 s10)] [.s (.int .i64 s11), .s (.int .i64 s12)] μ =
  bif decide (s12 < s0) then
  (seqJ
    ((bitmap_Map_Used [.s s7, .s (.int .i64 s12)] μ).bind fun r84 =>
      asB r84.1 fun b85 =>
      bif b85 then
      (some (.normal, [.s (.int .i64 0)], r84.2))
      else
      (bif ((IntKind.wrap .i64 (s11 + 1)) == s2) then
        (bif (s10 == (IntKind.wrap .i64 ((IntKind.wrap .i64 (s12 - s2)) + 1))) then
          ((bitmap_Map_First [.s s7, .s (.int .i64 0)] r84.2).bind fun r86 =>
            asI .i64 r86.1 fun n87 =>
            (bitmap_Map_Run [.s s7, .s (.int .i64 1)] r86.2).bind fun r88 =>
            asI .i64 r88.1 fun n89 =>
            bif (n87 == n89) then
            ((overdublaw11_wakes [] r88.2).bind fun r90 =>
              asB r90.1 fun b91 =>
              some (.ret, [.s (.bool b91)], r90.2))
            else
            (some (.ret, [.s (.bool false)], r88.2)))
          else
          (some (.ret, [.s (.bool false)], r84.2)))
        else
        (some (.normal, [.s (.int .i64 (IntKind.wrap .i64 (s11 + 1)))], r84.2))))
    (fun vs92 m93 =>
      headK vs92 fun a94 r95 =>
      asI .i64 a94 fun n96 =>
      some (.normal, [.s (.int .i64 n96), .s (.int .i64 (IntKind.wrap .i64 (s12 + 1)))], m93))
    (fun vs97 m98 =>
      headK vs97 fun a102 r103 =>
      asB a102 fun b104 =>
      some (.ret, [.s (.bool b104)], m98))
    (fun d101 vs99 m100 =>
      none))
  else
  (some (.exit 2, [.s s7, .s (.int .i64 s10)], μ)) := by rw [← G5_13, ← G5_11, ← G5_15, ← G5_12]; kernel_rfl
theorem overdublaw11_MapRuns_L2_eq (os vs : List AV) (μ : AMem) : overdublaw11_MapRuns_L2 os vs μ = (overdublaw11_MapRuns_L2_B os vs μ).bind fun r => match r.1 with | .normal => overdublaw11_MapRuns_L2 os r.2.1 r.2.2 | _ => some r := loopA_eq _ _ _
theorem overdublaw11_MapRuns_L1_B_eq (s0 : Int) (s1 : SV) (s2 : Int) (s7 : SV) (s9 : Int) (μ : AMem) : overdublaw11_MapRuns_L1_B [.s (.int .i64 s0), .s s1, .s (.int .i64 s2), .s s7] [.s (.int .i64 s9)] μ =
  seqJ
  ((lenS (.s s1)).bind fun l63 =>
    bif decide (s9 < ((l63 : Nat) : Int)) then
    (some (.normal, [.s (.bool (decide (s9 < 60)))], μ))
    else
    (some (.normal, [.s (.bool false)], μ)))
  (fun vs64 m65 =>
    headK vs64 fun a66 r67 =>
    asB a66 fun b68 =>
    bif b68 then
    (indS 1 (.s s1) s9 fun p69 =>
      loadAt m65 p69 fun v70 =>
      asI .i64 v70 fun n71 =>
      (overdubkeep_Within [.s (.int .i64 n71), .s (.int .i64 s0)] m65).bind fun r72 =>
      asI .i64 r72.1 fun n73 =>
      (bitmap_Map_Set [.s s7, .s (.int .i64 n73), .s (.bool true)] r72.2).bind fun r74 =>
      asB r74.1 fun b75 =>
      some (.normal, [.s (.int .i64 (IntKind.wrap .i64 (s9 + 1)))], r74.2))
    else
    (some (.exit 0, [.s (.int .i64 s0), .s (.int .i64 s2), .s s7], m65)))
  (fun vs76 m77 =>
    headK vs76 fun a81 r82 =>
    asB a81 fun b83 =>
    some (.ret, [.s (.bool b83)], m77))
  (fun d80 vs78 m79 =>
    none) := by rw [← G5_7, ← G5_9]; kernel_rfl
theorem overdublaw11_MapRuns_L1_eq (os vs : List AV) (μ : AMem) : overdublaw11_MapRuns_L1 os vs μ = (overdublaw11_MapRuns_L1_B os vs μ).bind fun r => match r.1 with | .normal => overdublaw11_MapRuns_L1 os r.2.1 r.2.2 | _ => some r := loopA_eq _ _ _
theorem overdublaw11_MapRuns_eq (p0 : Int) (p1 : SV) (p2 : Int) (μ : AMem) : overdublaw11_MapRuns [.s (.int .i64 p0), .s p1, .s (.int .i64 p2)] μ =
  (overdubkeep_Within [.s (.int .i64 p0), .s (.int .i64 200)] μ).bind fun r1 =>
  asI .i64 r1.1 fun n2 =>
  (bitmap_New [.s (.int .i64 (IntKind.wrap .i64 (1 + n2)))] r1.2).bind fun r3 =>
  extrK 0 r3.1 fun t4 =>
  asS t4 fun x5 =>
  extrK 1 r3.1 fun t6 =>
  asI .i64 t6 fun n7 =>
  seqJ
  (bif !(n7 != 0) then
    ((isNil (.s x5)).bind fun b8 =>
      some (.normal, [.s (.bool b8)], r3.2))
    else
    (some (.normal, [.s (.bool true)], r3.2)))
  (fun vs9 m10 =>
    headK vs9 fun a11 r12 =>
    asB a11 fun b13 =>
    bif b13 then
    (some (.s (.bool false), m10))
    else
    (seqJ (overdublaw11_MapRuns_L1 [.s (.int .i64 (IntKind.wrap .i64 (1 + n2))), .s p1, .s (.int .i64 p2), .s x5] [.s (.int .i64 0)] m10)
      (fun _ _ => none)
      (fun vs14 m15 =>
        headK vs14 fun a19 r20 =>
        asB a19 fun b21 =>
        some (.s (.bool b21), m15))
      (fun d18 vs16 m17 =>
        bif Nat.beq 0 d18 then (headK vs16 fun a22 r23 =>
          asI .i64 a22 fun n24 =>
          headK r23 fun a25 r26 =>
          asI .i64 a25 fun n27 =>
          headK r26 fun a28 r29 =>
          asS a28 fun x30 =>
          (overdubkeep_Within [.s (.int .i64 n27), .s (.int .i64 30)] m17).bind fun r31 =>
          asI .i64 r31.1 fun n32 =>
          (bitmap_Map_Run [.s x30, .s (.int .i64 (IntKind.wrap .i64 (1 + n32)))] r31.2).bind fun r33 =>
          asI .i64 r33.1 fun n34 =>
          seqJ (overdublaw11_MapRuns_L2 [.s (.int .i64 n24), .s (.int .i64 (IntKind.wrap .i64 (1 + n32))), .s x30, .s (.int .i64 n34)] [.s (.int .i64 0), .s (.int .i64 0)] r33.2)
          (fun _ _ => none)
          (fun vs35 m36 =>
            headK vs35 fun a40 r41 =>
            asB a40 fun b42 =>
            some (.s (.bool b42), m36))
          (fun d39 vs37 m38 =>
            bif Nat.beq 2 d39 then (headK vs37 fun a43 r44 =>
              asS a43 fun x45 =>
              headK r44 fun a46 r47 =>
              asI .i64 a46 fun n48 =>
              bif (n48 == (-1)) then
              ((bitmap_Map_First [.s x45, .s (.int .i64 0)] m38).bind fun r49 =>
                asI .i64 r49.1 fun n50 =>
                (bitmap_Map_Run [.s x45, .s (.int .i64 1)] r49.2).bind fun r51 =>
                asI .i64 r51.1 fun n52 =>
                bif (n50 == n52) then
                ((overdublaw11_wakes [] r51.2).bind fun r53 =>
                  asB r53.1 fun b54 =>
                  some (.s (.bool b54), r53.2))
                else
                (some (.s (.bool false), r51.2)))
              else
              (some (.s (.bool false), m38))) else (none))) else (none))))
  (fun vs55 m56 =>
    headK vs55 fun a60 r61 =>
    asB a60 fun b62 =>
    some (.s (.bool b62), m56))
  (fun d59 vs57 m58 =>
    none) := by rw [← G5_7, ← G5_8, ← G5_13, ← G5_15, ← G5_12]; kernel_rfl

/-! ### overdub/overdubref10.NewMap -/
noncomputable def G17 : FuncId → FunA := fun _ _ _ => none
def A17 : Ann := .two (.leaf) (.two (.join [(9, .b)] [0] [] (.leaf) (.two (.two (.leaf) (.leaf)) (.leaf))) (.two (.leaf) (.leaf)))
def R17 : Slots := [(2, .s), (3, .b)]
noncomputable def overdubref10_NewMap : FunA := denF Try.prog G17 Try.f17 A17 R17
theorem overdubref10_NewMap_eq (p0 : Int) (μ : AMem) : overdubref10_NewMap [.s (.int .i64 p0)] μ =
  seqJ
  (bif !(decide (p0 < 1)) then
    (some (.normal, [.s (.bool (decide (p0 > 4096)))], μ))
    else
    (some (.normal, [.s (.bool true)], μ)))
  (fun vs1 m2 =>
    headK vs1 fun a3 r4 =>
    asB a3 fun b5 =>
    bif b5 then
    (some (.tuple [.s .nilSlice, .s (.bool false)], m2))
    else
    (if 0 ≤ p0 ∧ p0 ≤ p0 ∧ p0 ≤ 9223372036854775807 ∧ (1 : Nat) * p0 ≤ 140737488355328 then
      (some (.tuple [.s (.slice (m2.next + 1) 0 0 (Int.toNat p0)), .s (.bool true)], ((m2.bump 4).set (m2.next + 1) (rowObj (zerosA [.bool false] (Int.toNat p0)) 1 4 (some (Int.toNat p0)))))) else none))
  (fun vs6 m7 =>
    headK vs6 fun a11 r12 =>
    asS a11 fun x13 =>
    headK r12 fun a14 r15 =>
    asB a14 fun b16 =>
    some (.tuple [.s x13, .s (.bool b16)], m7))
  (fun d10 vs8 m9 =>
    none) := by kernel_rfl

/-! ### (overdub/overdubref10.Map).Level -/
noncomputable def G24 : FuncId → FunA := fun _ _ _ => none
def A24 : Ann := .two (.leaf) (.two (.leaf) (.two (.leaf) (.join [(4, .s)] [] [] (.loop [(5, .s), (6, .i .i64)] [1] [] (.two (.join [(1, .i .i64), (5, .s), (6, .i .i64)] [] [] (.two (.leaf) (.two (.two (.leaf) (.join [(1, .i .i64), (6, .i .i64), (7, .s)] [] [] (.loop [(7, .s), (8, .i .i64)] [1, 5, 6] [2] (.two (.two (.leaf) (.two (.leaf) (.leaf))) (.two (.join [(1, .i .i64), (5, .s), (6, .i .i64), (7, .s), (8, .i .i64)] [] [] (.two (.leaf) (.two (.two (.leaf) (.join [(1, .i .i64), (5, .s), (6, .i .i64), (7, .s), (8, .i .i64), (9, .i .u64)] [] [] (.loop [(9, .i .u64), (10, .i .i64)] [1, 5, 6, 7, 8] [4] (.two (.join [(31, .b)] [1, 5, 6, 7, 8, 9, 10] [] (.leaf) (.two (.leaf) (.leaf))) (.join [(9, .i .u64)] [1, 5, 6, 7, 8, 10] [] (.join [(1, .i .i64), (5, .s), (6, .i .i64), (7, .s), (8, .i .i64), (9, .i .u64), (10, .i .i64)] [] [] (.two (.leaf) (.two (.leaf) (.leaf))) .leaf) (.leaf)))) .leaf)) (.leaf))) .leaf) (.leaf)))) .leaf)) (.two (.two (.leaf) (.two (.two (.leaf) (.leaf)) (.leaf))) (.two (.join [(60, .b)] [1, 6, 7] [] (.leaf) (.two (.two (.leaf) (.leaf)) (.leaf))) (.two (.leaf) (.two (.leaf) (.join [(1, .i .i64), (5, .s), (6, .i .i64)] [] [] (.loop [(5, .s), (63, .i .i64)] [1, 6, 7, 62] [6] (.two (.leaf) (.two (.two (.leaf) (.leaf)) (.two (.join [(1, .i .i64), (5, .s), (6, .i .i64), (7, .s), (62, .i .i64), (63, .i .i64)] [] [] (.two (.leaf) (.leaf)) .leaf) (.leaf))))) .leaf))))))) .leaf) (.leaf))) .leaf)))
def R24 : Slots := [(4, .s)]
noncomputable def overdubref10_Map_Level : FunA := denF Try.prog G24 Try.f24 A24 R24
noncomputable def overdubref10_Map_Level_L4_B (os vs : List AV) (μ : AMem) : Option Res := joinK [(9, .i .u64), (10, .i .i64)] vs (envO [1, 5, 6, 7, 8] os) fun e => den Try.prog G24 Try.f24.ntmps (cL (cL (cR (cL (cR (cL (cL (cR (cL (cL (cR (cL (cR (cL (cL (cL (cL (cR (cR (cR (bodyOf Try.f24))))))))))))))))))))) (aL (aL (aR (aL (aR (aL (aL (aR (aL (aL (aR (aL (aR (aL (aL (aL (aL (aR (aR (aR A24)))))))))))))))))))) { ret := R24, exits := [(4, [(1, .i .i64), (5, .s), (6, .i .i64), (7, .s), (8, .i .i64), (9, .i .u64)]), (3, [(1, .i .i64), (5, .s), (6, .i .i64), (7, .s), (8, .i .i64)]), (2, [(1, .i .i64), (6, .i .i64), (7, .s)]), (1, [(1, .i .i64), (5, .s), (6, .i .i64)]), (0, [(4, .s)])] } Res e μ fun ex e μ => some (ex, valsOf (Lv.at { ret := R24, exits := [(4, [(1, .i .i64), (5, .s), (6, .i .i64), (7, .s), (8, .i .i64), (9, .i .u64)]), (3, [(1, .i .i64), (5, .s), (6, .i .i64), (7, .s), (8, .i .i64)]), (2, [(1, .i .i64), (6, .i .i64), (7, .s)]), (1, [(1, .i .i64), (5, .s), (6, .i .i64)]), (0, [(4, .s)])] } [(9, .i .u64), (10, .i .i64)] ex) e, μ)
noncomputable def overdubref10_Map_Level_L4 (os vs : List AV) (μ : AMem) : Option Res := loopA (overdubref10_Map_Level_L4_B os) vs μ
noncomputable def overdubref10_Map_Level_L3_B (os vs : List AV) (μ : AMem) : Option Res := joinK [(5, .s), (63, .i .i64)] vs (envO [1, 6, 7, 62] os) fun e => den Try.prog G24 Try.f24.ntmps (cL (cL (cR (cR (cR (cR (cR (cR (cL (cL (cL (cL (cR (cR (cR (bodyOf Try.f24)))))))))))))))) (aL (aL (aR (aR (aR (aR (aR (aR (aL (aL (aL (aL (aR (aR (aR A24))))))))))))))) { ret := R24, exits := [(6, [(1, .i .i64), (5, .s), (6, .i .i64)]), (1, [(1, .i .i64), (5, .s), (6, .i .i64)]), (0, [(4, .s)])] } Res e μ fun ex e μ => some (ex, valsOf (Lv.at { ret := R24, exits := [(6, [(1, .i .i64), (5, .s), (6, .i .i64)]), (1, [(1, .i .i64), (5, .s), (6, .i .i64)]), (0, [(4, .s)])] } [(5, .s), (63, .i .i64)] ex) e, μ)
noncomputable def overdubref10_Map_Level_L3 (os vs : List AV) (μ : AMem) : Option Res := loopA (overdubref10_Map_Level_L3_B os) vs μ
noncomputable def overdubref10_Map_Level_L2_B (os vs : List AV) (μ : AMem) : Option Res := joinK [(7, .s), (8, .i .i64)] vs (envO [1, 5, 6] os) fun e => den Try.prog G24 Try.f24.ntmps (cL (cL (cR (cL (cR (cL (cL (cL (cL (cR (cR (cR (bodyOf Try.f24))))))))))))) (aL (aL (aR (aL (aR (aL (aL (aL (aL (aR (aR (aR A24)))))))))))) { ret := R24, exits := [(2, [(1, .i .i64), (6, .i .i64), (7, .s)]), (1, [(1, .i .i64), (5, .s), (6, .i .i64)]), (0, [(4, .s)])] } Res e μ fun ex e μ => some (ex, valsOf (Lv.at { ret := R24, exits := [(2, [(1, .i .i64), (6, .i .i64), (7, .s)]), (1, [(1, .i .i64), (5, .s), (6, .i .i64)]), (0, [(4, .s)])] } [(7, .s), (8, .i .i64)] ex) e, μ)
noncomputable def overdubref10_Map_Level_L2 (os vs : List AV) (μ : AMem) : Option Res := loopA (overdubref10_Map_Level_L2_B os) vs μ
noncomputable def overdubref10_Map_Level_L1_B (os vs : List AV) (μ : AMem) : Option Res := joinK [(5, .s), (6, .i .i64)] vs (envO [1] os) fun e => den Try.prog G24 Try.f24.ntmps (cL (cL (cR (cR (cR (bodyOf Try.f24)))))) (aL (aL (aR (aR (aR A24))))) { ret := R24, exits := [(0, [(4, .s)])] } Res e μ fun ex e μ => some (ex, valsOf (Lv.at { ret := R24, exits := [(0, [(4, .s)])] } [(5, .s), (6, .i .i64)] ex) e, μ)
noncomputable def overdubref10_Map_Level_L1 (os vs : List AV) (μ : AMem) : Option Res := loopA (overdubref10_Map_Level_L1_B os) vs μ
theorem overdubref10_Map_Level_L4_B_eq (s1 : Int) (s5 : SV) (s6 : Int) (s7 : SV) (s8 : Int) (s9 : Int) (s10 : Int) (μ : AMem) : overdubref10_Map_Level_L4_B [.s (.int .i64 s1), .s s5, .s (.int .i64 s6), .s s7, .s (.int .i64 s8)] [.s (.int .u64 s9), .s (.int .i64 s10)] μ =
  seqJ
  (bif decide (s10 < 64) then
    ((lenS (.s s5)).bind fun l97 =>
      some (.normal, [.s (.bool (decide ((IntKind.wrap .i64 (s8 + s10)) < ((l97 : Nat) : Int))))], μ))
    else
    (some (.normal, [.s (.bool false)], μ)))
  (fun vs98 m99 =>
    headK vs98 fun a100 r101 =>
    asB a100 fun b102 =>
    bif b102 then
    (seqJ
      (indS 1 (.s s5) (IntKind.wrap .i64 (s8 + s10)) fun p103 =>
        loadAt m99 p103 fun v104 =>
        asB v104 fun b105 =>
        bif (!b105) then
        (if (IntKind.wrap .u64 s10) < 0 then none else
          (some (.normal, [.s (.int .u64 (IntKind.wrap .u64 (BitVec.toNat ((BitVec.ofInt (IntKind.bits .u64) s9) &&& ~~~ (BitVec.ofInt (IntKind.bits .u64) (IntKind.wrap .u64 (1 * 2 ^ (min (Int.toNat (IntKind.wrap .u64 s10)) (IntKind.bits .u64)))))))))], m99)))
        else
        (some (.normal, [.s (.int .u64 s9)], m99)))
      (fun vs106 m107 =>
        headK vs106 fun a108 r109 =>
        asI .u64 a108 fun n110 =>
        some (.normal, [.s (.int .u64 n110), .s (.int .i64 (IntKind.wrap .i64 (s10 + 1)))], m107))
      (fun vs111 m112 =>
        headK vs111 fun a116 r117 =>
        asS a116 fun x118 =>
        some (.ret, [.s x118], m112))
      (fun d115 vs113 m114 =>
        none))
    else
    (some (.exit 4, [.s (.int .i64 s1), .s s5, .s (.int .i64 s6), .s s7, .s (.int .i64 s8), .s (.int .u64 s9)], m99)))
  (fun vs119 m120 =>
    headK vs119 fun a124 r125 =>
    asS a124 fun x126 =>
    some (.ret, [.s x126], m120))
  (fun d123 vs121 m122 =>
    none) := by kernel_rfl
theorem overdubref10_Map_Level_L4_eq (os vs : List AV) (μ : AMem) : overdubref10_Map_Level_L4 os vs μ = (overdubref10_Map_Level_L4_B os vs μ).bind fun r => match r.1 with | .normal => overdubref10_Map_Level_L4 os r.2.1 r.2.2 | _ => some r := loopA_eq _ _ _
theorem overdubref10_Map_Level_L3_B_eq (s1 : Int) (s6 : Int) (s7 : SV) (s62 : Int) (s5 : SV) (s63 : Int) (μ : AMem) : overdubref10_Map_Level_L3_B [.s (.int .i64 s1), .s (.int .i64 s6), .s s7, .s (.int .i64 s62)] [.s s5, .s (.int .i64 s63)] μ =
  bif decide (s63 < s62) then
  (indS 1 (.s s7) s63 fun p91 =>
    loadAt (μ.bump 9) p91 fun v92 =>
    asI .u64 v92 fun n93 =>
    appendA 4 1 1 (μ.next + 7) ((μ.bump 9).set (μ.next + 6) (rowObj [.bool (n93 == 18446744073709551615)] 1 4 (some 1))) (.s s5) (.s (.slice (μ.next + 6) 0 0 1)) fun x94 m95 =>
    asS x94 fun x96 =>
    some (.normal, [.s x96, .s (.int .i64 (IntKind.wrap .i64 (s63 + 1)))], m95))
  else
  (some (.exit 6, [.s (.int .i64 s1), .s s5, .s (.int .i64 s6)], μ)) := by kernel_rfl
theorem overdubref10_Map_Level_L3_eq (os vs : List AV) (μ : AMem) : overdubref10_Map_Level_L3 os vs μ = (overdubref10_Map_Level_L3_B os vs μ).bind fun r => match r.1 with | .normal => overdubref10_Map_Level_L3 os r.2.1 r.2.2 | _ => some r := loopA_eq _ _ _
theorem overdubref10_Map_Level_L2_B_eq (s1 : Int) (s5 : SV) (s6 : Int) (s7 : SV) (s8 : Int) (μ : AMem) : overdubref10_Map_Level_L2_B [.s (.int .i64 s1), .s s5, .s (.int .i64 s6)] [.s s7, .s (.int .i64 s8)] μ =
  (lenS (.s s5)).bind fun l61 =>
  bif decide (s8 < ((l61 : Nat) : Int)) then
  (seqJ (overdubref10_Map_Level_L4 [.s (.int .i64 s1), .s s5, .s (.int .i64 s6), .s s7, .s (.int .i64 s8)] [.s (.int .u64 18446744073709551615), .s (.int .i64 0)] μ)
    (fun _ _ => none)
    (fun vs62 m63 =>
      headK vs62 fun a67 r68 =>
      asS a67 fun x69 =>
      some (.ret, [.s x69], m63))
    (fun d66 vs64 m65 =>
      bif Nat.beq 4 d66 then (headK vs64 fun a70 r71 =>
        asI .i64 a70 fun n72 =>
        headK r71 fun a73 r74 =>
        asS a73 fun x75 =>
        headK r74 fun a76 r77 =>
        asI .i64 a76 fun n78 =>
        headK r77 fun a79 r80 =>
        asS a79 fun x81 =>
        headK r80 fun a82 r83 =>
        asI .i64 a82 fun n84 =>
        headK r83 fun a85 r86 =>
        asI .u64 a85 fun n87 =>
        appendA 31 1 8 (m65.next + 3) ((m65.bump 5).set (m65.next + 2) (rowObj [.int .u64 n87] 1 31 (some 1))) (.s x81) (.s (.slice (m65.next + 2) 0 0 1)) fun x88 m89 =>
        asS x88 fun x90 =>
        some (.normal, [.s x90, .s (.int .i64 (IntKind.wrap .i64 (n84 + 64)))], m89)) else (none)))
  else
  (some (.exit 2, [.s (.int .i64 s1), .s (.int .i64 s6), .s s7], μ)) := by kernel_rfl
theorem overdubref10_Map_Level_L2_eq (os vs : List AV) (μ : AMem) : overdubref10_Map_Level_L2 os vs μ = (overdubref10_Map_Level_L2_B os vs μ).bind fun r => match r.1 with | .normal => overdubref10_Map_Level_L2 os r.2.1 r.2.2 | _ => some r := loopA_eq _ _ _
theorem overdubref10_Map_Level_L1_B_eq (s1 : Int) (s5 : SV) (s6 : Int) (μ : AMem) : overdubref10_Map_Level_L1_B [.s (.int .i64 s1)] [.s s5, .s (.int .i64 s6)] μ =
  seqJ (overdubref10_Map_Level_L2 [.s (.int .i64 s1), .s s5, .s (.int .i64 s6)] [.s .nilSlice, .s (.int .i64 0)] μ)
  (fun _ _ => none)
  (fun vs12 m13 =>
    headK vs12 fun a17 r18 =>
    asS a17 fun x19 =>
    some (.ret, [.s x19], m13))
  (fun d16 vs14 m15 =>
    bif Nat.beq 2 d16 then (headK vs14 fun a20 r21 =>
      asI .i64 a20 fun n22 =>
      headK r21 fun a23 r24 =>
      asI .i64 a23 fun n25 =>
      headK r24 fun a26 r27 =>
      asS a26 fun x28 =>
      bif (n25 == n22) then
      (some (.ret, [.s x28], m15))
      else
      (seqJ
        ((lenS (.s x28)).bind fun l29 =>
          bif !(((l29 : Nat) : Int) == 1) then
          (some (.normal, [.s (.bool (decide (n22 < 0)))], m15))
          else
          (some (.normal, [.s (.bool true)], m15)))
        (fun vs30 m31 =>
          headK vs30 fun a32 r33 =>
          asB a32 fun b34 =>
          bif b34 then
          (some (.ret, [.s .nilSlice], m31))
          else
          ((lenS (.s x28)).bind fun l35 =>
            seqJ (overdubref10_Map_Level_L3 [.s (.int .i64 n22), .s (.int .i64 n25), .s x28, .s (.int .i64 ((l35 : Nat) : Int))] [.s .nilSlice, .s (.int .i64 0)] m31)
            (fun _ _ => none)
            (fun vs36 m37 =>
              headK vs36 fun a41 r42 =>
              asS a41 fun x43 =>
              some (.ret, [.s x43], m37))
            (fun d40 vs38 m39 =>
              bif Nat.beq 6 d40 then (headK vs38 fun a44 r45 =>
                asI .i64 a44 fun n46 =>
                headK r45 fun a47 r48 =>
                asS a47 fun x49 =>
                headK r48 fun a50 r51 =>
                asI .i64 a50 fun n52 =>
                some (.normal, [.s x49, .s (.int .i64 (IntKind.wrap .i64 (n52 + 1)))], m39)) else (none))))
        (fun vs53 m54 =>
          headK vs53 fun a58 r59 =>
          asS a58 fun x60 =>
          some (.ret, [.s x60], m54))
        (fun d57 vs55 m56 =>
          none))) else (none)) := by kernel_rfl
theorem overdubref10_Map_Level_L1_eq (os vs : List AV) (μ : AMem) : overdubref10_Map_Level_L1 os vs μ = (overdubref10_Map_Level_L1_B os vs μ).bind fun r => match r.1 with | .normal => overdubref10_Map_Level_L1 os r.2.1 r.2.2 | _ => some r := loopA_eq _ _ _
theorem overdubref10_Map_Level_eq (p0 : SV) (p1 : Int) (μ : AMem) : overdubref10_Map_Level [.s p0, .s (.int .i64 p1)] μ =
  appendA 4 1 1 (μ.next + 1) (μ.bump 3) (.s .nilSlice) (.s p0) fun x1 m2 =>
  asS x1 fun x3 =>
  seqJ (overdubref10_Map_Level_L1 [.s (.int .i64 p1)] [.s x3, .s (.int .i64 0)] m2)
  (fun _ _ => none)
  (fun vs4 m5 =>
    headK vs4 fun a9 r10 =>
    asS a9 fun x11 =>
    some (.s x11, m5))
  (fun d8 vs6 m7 =>
    none) := by kernel_rfl

/-! ### overdub/overdubkeep.Same[uint64] -/
noncomputable def G23 : FuncId → FunA := fun _ _ _ => none
def A23 : Ann := .two (.leaf) (.two (.two (.leaf) (.two (.two (.leaf) (.leaf)) (.leaf))) (.two (.two (.leaf) (.join [] [] [] (.loop [(5, .i .i64)] [0, 1] [0] (.two (.two (.leaf) (.two (.leaf) (.leaf))) (.two (.join [(0, .s), (1, .s), (5, .i .i64)] [] [] (.two (.ord [0, 1, 2, 3, 4, 5, 6, 7, 8]) (.two (.two (.leaf) (.leaf)) (.leaf))) .leaf) (.leaf)))) .leaf)) (.two (.leaf) (.leaf))))
def R23 : Slots := [(4, .b)]
noncomputable def overdubkeep_Same_uint64 : FunA := denF Try.prog G23 Try.f23 A23 R23
noncomputable def overdubkeep_Same_uint64_L1_B (os vs : List AV) (μ : AMem) : Option Res := joinK [(5, .i .i64)] vs (envO [0, 1] os) fun e => den Try.prog G23 Try.f23.ntmps (cL (cL (cR (cL (cR (cR (bodyOf Try.f23))))))) (aL (aL (aR (aL (aR (aR A23)))))) { ret := R23, exits := [(0, [])] } Res e μ fun ex e μ => some (ex, valsOf (Lv.at { ret := R23, exits := [(0, [])] } [(5, .i .i64)] ex) e, μ)
noncomputable def overdubkeep_Same_uint64_L1 (os vs : List AV) (μ : AMem) : Option Res := loopA (overdubkeep_Same_uint64_L1_B os) vs μ
theorem overdubkeep_Same_uint64_L1_B_eq (s0 : SV) (s1 : SV) (s5 : Int) (μ : AMem) : overdubkeep_Same_uint64_L1_B [.s s0, .s s1] [.s (.int .i64 s5)] μ =
  (lenS (.s s0)).bind fun l11 =>
  bif decide (s5 < ((l11 : Nat) : Int)) then
  (indS 1 (.s s0) s5 fun p12 =>
    loadAt μ p12 fun v13 =>
    asI .u64 v13 fun n14 =>
    indS 1 (.s s1) s5 fun p15 =>
    loadAt μ p15 fun v16 =>
    asI .u64 v16 fun n17 =>
    bif (n14 != n17) then
    (some (.ret, [.s (.bool false)], μ))
    else
    (some (.normal, [.s (.int .i64 (IntKind.wrap .i64 (s5 + 1)))], μ)))
  else
  (some (.exit 0, [], μ)) := by kernel_rfl
theorem overdubkeep_Same_uint64_L1_eq (os vs : List AV) (μ : AMem) : overdubkeep_Same_uint64_L1 os vs μ = (overdubkeep_Same_uint64_L1_B os vs μ).bind fun r => match r.1 with | .normal => overdubkeep_Same_uint64_L1 os r.2.1 r.2.2 | _ => some r := loopA_eq _ _ _
theorem overdubkeep_Same_uint64_eq (p0 : SV) (p1 : SV) (μ : AMem) : overdubkeep_Same_uint64 [.s p0, .s p1] μ =
  (lenS (.s p0)).bind fun l1 =>
  (lenS (.s p1)).bind fun l2 =>
  bif (((l1 : Nat) : Int) != ((l2 : Nat) : Int)) then
  (some (.s (.bool false), μ))
  else
  (seqJ (overdubkeep_Same_uint64_L1 [.s p0, .s p1] [.s (.int .i64 0)] μ)
    (fun _ _ => none)
    (fun vs3 m4 =>
      headK vs3 fun a8 r9 =>
      asB a8 fun b10 =>
      some (.s (.bool b10), m4))
    (fun d7 vs5 m6 =>
      bif Nat.beq 0 d7 then (some (.s (.bool true), m6)) else (none))) := by kernel_rfl

/-! ### (*overdub/bitmap.Map).Len -/
noncomputable def G25 : FuncId → FunA := fun _ _ _ => none
def A25 : Ann := .two (.leaf) (.two (.leaf) (.leaf))
def R25 : Slots := [(2, .i .i64)]
noncomputable def bitmap_Map_Len : FunA := denF Try.prog G25 Try.f25 A25 R25
theorem bitmap_Map_Len_eq (p0 q0 o0 : Nat) (μ : AMem) : bitmap_Map_Len [.s (.ptr p0 q0 o0)] μ =
  (μ.cell p0 q0 (o0 + 0)).bind fun x1 =>
  asI .i64 (.s x1) fun n2 =>
  some (.s (.int .i64 n2), μ) := by kernel_rfl

/-! ### (overdub/overdubref10.Map).Count -/
noncomputable def G26 : FuncId → FunA := fun _ _ _ => none
def A26 : Ann := .two (.leaf) (.two (.leaf) (.two (.two (.leaf) (.join [(3, .i .i64)] [] [] (.loop [(3, .i .i64), (7, .i .i64)] [0, 6] [0] (.two (.leaf) (.two (.two (.leaf) (.leaf)) (.join [(3, .i .i64)] [0, 6, 7] [] (.join [(0, .s), (3, .i .i64), (6, .i .i64), (7, .i .i64)] [] [] (.two (.leaf) (.two (.leaf) (.two (.leaf) (.leaf)))) .leaf) (.leaf))))) .leaf)) (.two (.leaf) (.leaf))))
def R26 : Slots := [(2, .i .i64)]
noncomputable def overdubref10_Map_Count : FunA := denF Try.prog G26 Try.f26 A26 R26
noncomputable def overdubref10_Map_Count_L1_B (os vs : List AV) (μ : AMem) : Option Res := joinK [(3, .i .i64), (7, .i .i64)] vs (envO [0, 6] os) fun e => den Try.prog G26 Try.f26.ntmps (cL (cL (cR (cL (cR (cR (bodyOf Try.f26))))))) (aL (aL (aR (aL (aR (aR A26)))))) { ret := R26, exits := [(0, [(3, .i .i64)])] } Res e μ fun ex e μ => some (ex, valsOf (Lv.at { ret := R26, exits := [(0, [(3, .i .i64)])] } [(3, .i .i64), (7, .i .i64)] ex) e, μ)
noncomputable def overdubref10_Map_Count_L1 (os vs : List AV) (μ : AMem) : Option Res := loopA (overdubref10_Map_Count_L1_B os) vs μ
theorem overdubref10_Map_Count_L1_B_eq (s0 : SV) (s6 : Int) (s3 : Int) (s7 : Int) (μ : AMem) : overdubref10_Map_Count_L1_B [.s s0, .s (.int .i64 s6)] [.s (.int .i64 s3), .s (.int .i64 s7)] μ =
  bif decide (s7 < s6) then
  (seqJ
    (indS 1 (.s s0) s7 fun p13 =>
      loadAt μ p13 fun v14 =>
      asB v14 fun b15 =>
      bif b15 then
      (some (.normal, [.s (.int .i64 (IntKind.wrap .i64 (s3 + 1)))], μ))
      else
      (some (.normal, [.s (.int .i64 s3)], μ)))
    (fun vs16 m17 =>
      headK vs16 fun a18 r19 =>
      asI .i64 a18 fun n20 =>
      some (.normal, [.s (.int .i64 n20), .s (.int .i64 (IntKind.wrap .i64 (s7 + 1)))], m17))
    (fun vs21 m22 =>
      headK vs21 fun a26 r27 =>
      asI .i64 a26 fun n28 =>
      some (.ret, [.s (.int .i64 n28)], m22))
    (fun d25 vs23 m24 =>
      none))
  else
  (some (.exit 0, [.s (.int .i64 s3)], μ)) := by kernel_rfl
theorem overdubref10_Map_Count_L1_eq (os vs : List AV) (μ : AMem) : overdubref10_Map_Count_L1 os vs μ = (overdubref10_Map_Count_L1_B os vs μ).bind fun r => match r.1 with | .normal => overdubref10_Map_Count_L1 os r.2.1 r.2.2 | _ => some r := loopA_eq _ _ _
theorem overdubref10_Map_Count_eq (p0 : SV) (μ : AMem) : overdubref10_Map_Count [.s p0] μ =
  (lenS (.s p0)).bind fun l1 =>
  seqJ (overdubref10_Map_Count_L1 [.s p0, .s (.int .i64 ((l1 : Nat) : Int))] [.s (.int .i64 0), .s (.int .i64 0)] μ)
  (fun _ _ => none)
  (fun vs2 m3 =>
    headK vs2 fun a7 r8 =>
    asI .i64 a7 fun n9 =>
    some (.s (.int .i64 n9), m3))
  (fun d6 vs4 m5 =>
    bif Nat.beq 0 d6 then (headK vs4 fun a10 r11 =>
      asI .i64 a10 fun n12 =>
      some (.s (.int .i64 n12), m5)) else (none)) := by kernel_rfl

/-! ### (overdub/overdubref10.Map).First -/
noncomputable def G27 : FuncId → FunA := fun _ _ _ => none
def A27 : Ann := .two (.leaf) (.two (.two (.leaf) (.join [] [] [] (.loop [(5, .i .i64)] [0] [0] (.two (.two (.leaf) (.two (.leaf) (.leaf))) (.two (.join [(0, .s), (5, .i .i64)] [] [] (.two (.leaf) (.two (.two (.leaf) (.leaf)) (.leaf))) .leaf) (.leaf)))) .leaf)) (.two (.leaf) (.leaf)))
def R27 : Slots := [(4, .i .i64)]
noncomputable def overdubref10_Map_First : FunA := denF Try.prog G27 Try.f27 A27 R27
noncomputable def overdubref10_Map_First_L1_B (os vs : List AV) (μ : AMem) : Option Res := joinK [(5, .i .i64)] vs (envO [0] os) fun e => den Try.prog G27 Try.f27.ntmps (cL (cL (cR (cL (cR (bodyOf Try.f27)))))) (aL (aL (aR (aL (aR A27))))) { ret := R27, exits := [(0, [])] } Res e μ fun ex e μ => some (ex, valsOf (Lv.at { ret := R27, exits := [(0, [])] } [(5, .i .i64)] ex) e, μ)
noncomputable def overdubref10_Map_First_L1 (os vs : List AV) (μ : AMem) : Option Res := loopA (overdubref10_Map_First_L1_B os) vs μ
theorem overdubref10_Map_First_L1_B_eq (s0 : SV) (s5 : Int) (μ : AMem) : overdubref10_Map_First_L1_B [.s s0] [.s (.int .i64 s5)] μ =
  (lenS (.s s0)).bind fun l9 =>
  bif decide (s5 < ((l9 : Nat) : Int)) then
  (indS 1 (.s s0) s5 fun p10 =>
    loadAt μ p10 fun v11 =>
    asB v11 fun b12 =>
    bif (!b12) then
    (some (.ret, [.s (.int .i64 s5)], μ))
    else
    (some (.normal, [.s (.int .i64 (IntKind.wrap .i64 (s5 + 1)))], μ)))
  else
  (some (.exit 0, [], μ)) := by kernel_rfl
theorem overdubref10_Map_First_L1_eq (os vs : List AV) (μ : AMem) : overdubref10_Map_First_L1 os vs μ = (overdubref10_Map_First_L1_B os vs μ).bind fun r => match r.1 with | .normal => overdubref10_Map_First_L1 os r.2.1 r.2.2 | _ => some r := loopA_eq _ _ _
theorem overdubref10_Map_First_eq (p0 : SV) (p1 : Int) (μ : AMem) : overdubref10_Map_First [.s p0, .s (.int .i64 p1)] μ =
  seqJ (overdubref10_Map_First_L1 [.s p0] [.s (.int .i64 (if 0 > p1 then 0 else p1))] μ)
  (fun _ _ => none)
  (fun vs1 m2 =>
    headK vs1 fun a6 r7 =>
    asI .i64 a6 fun n8 =>
    some (.s (.int .i64 n8), m2))
  (fun d5 vs3 m4 =>
    bif Nat.beq 0 d5 then (some (.s (.int .i64 (-1)), m4)) else (none)) := by kernel_rfl

/-! ### (overdub/overdubref10.Map).Run -/
noncomputable def G28 : FuncId → FunA := fun _ _ _ => none
def A28 : Ann := .two (.leaf) (.two (.two (.leaf) (.join [] [] [] (.loop [(5, .i .i64)] [0, 1] [0] (.two (.join [(23, .b)] [0, 1, 5] [] (.leaf) (.two (.leaf) (.leaf))) (.two (.join [(0, .s), (1, .i .i64), (5, .i .i64)] [] [] (.two (.leaf) (.two (.two (.leaf) (.join [(0, .s), (1, .i .i64), (5, .i .i64), (6, .b)] [] [] (.loop [(6, .b), (7, .i .i64)] [0, 1, 5] [2] (.two (.two (.leaf) (.two (.leaf) (.leaf))) (.join [(6, .b)] [0, 1, 5, 7] [] (.join [(0, .s), (1, .i .i64), (5, .i .i64), (6, .b), (7, .i .i64)] [] [] (.leaf) .leaf) (.leaf)))) .leaf)) (.two (.leaf) (.two (.two (.leaf) (.leaf)) (.leaf))))) .leaf) (.leaf)))) .leaf)) (.two (.leaf) (.leaf)))
def R28 : Slots := [(4, .i .i64)]
noncomputable def overdubref10_Map_Run : FunA := denF Try.prog G28 Try.f28 A28 R28
noncomputable def overdubref10_Map_Run_L2_B (os vs : List AV) (μ : AMem) : Option Res := joinK [(6, .b), (7, .i .i64)] vs (envO [0, 1, 5] os) fun e => den Try.prog G28 Try.f28.ntmps (cL (cL (cR (cL (cR (cL (cL (cR (cL (cL (cR (cL (cR (bodyOf Try.f28)))))))))))))) (aL (aL (aR (aL (aR (aL (aL (aR (aL (aL (aR (aL (aR A28))))))))))))) { ret := R28, exits := [(2, [(0, .s), (1, .i .i64), (5, .i .i64), (6, .b)]), (1, [(0, .s), (1, .i .i64), (5, .i .i64)]), (0, [])] } Res e μ fun ex e μ => some (ex, valsOf (Lv.at { ret := R28, exits := [(2, [(0, .s), (1, .i .i64), (5, .i .i64), (6, .b)]), (1, [(0, .s), (1, .i .i64), (5, .i .i64)]), (0, [])] } [(6, .b), (7, .i .i64)] ex) e, μ)
noncomputable def overdubref10_Map_Run_L2 (os vs : List AV) (μ : AMem) : Option Res := loopA (overdubref10_Map_Run_L2_B os) vs μ
noncomputable def overdubref10_Map_Run_L1_B (os vs : List AV) (μ : AMem) : Option Res := joinK [(5, .i .i64)] vs (envO [0, 1] os) fun e => den Try.prog G28 Try.f28.ntmps (cL (cL (cR (cL (cR (bodyOf Try.f28)))))) (aL (aL (aR (aL (aR A28))))) { ret := R28, exits := [(0, [])] } Res e μ fun ex e μ => some (ex, valsOf (Lv.at { ret := R28, exits := [(0, [])] } [(5, .i .i64)] ex) e, μ)
noncomputable def overdubref10_Map_Run_L1 (os vs : List AV) (μ : AMem) : Option Res := loopA (overdubref10_Map_Run_L1_B os) vs μ
theorem overdubref10_Map_Run_L2_B_eq (s0 : SV) (s1 : Int) (s5 : Int) (s6 : Bool) (s7 : Int) (μ : AMem) : overdubref10_Map_Run_L2_B [.s s0, .s (.int .i64 s1), .s (.int .i64 s5)] [.s (.bool s6), .s (.int .i64 s7)] μ =
  bif decide (s7 < (IntKind.wrap .i64 (s5 + s1))) then
  (seqJ
    (bif s6 then
      (indS 1 (.s s0) s7 fun p44 =>
        loadAt μ p44 fun v45 =>
        asB v45 fun b46 =>
        some (.normal, [.s (.bool (!b46))], μ))
      else
      (some (.normal, [.s (.bool false)], μ)))
    (fun vs47 m48 =>
      headK vs47 fun a49 r50 =>
      asB a49 fun b51 =>
      some (.normal, [.s (.bool b51), .s (.int .i64 (IntKind.wrap .i64 (s7 + 1)))], m48))
    (fun vs52 m53 =>
      headK vs52 fun a57 r58 =>
      asI .i64 a57 fun n59 =>
      some (.ret, [.s (.int .i64 n59)], m53))
    (fun d56 vs54 m55 =>
      none))
  else
  (some (.exit 2, [.s s0, .s (.int .i64 s1), .s (.int .i64 s5), .s (.bool s6)], μ)) := by kernel_rfl
theorem overdubref10_Map_Run_L2_eq (os vs : List AV) (μ : AMem) : overdubref10_Map_Run_L2 os vs μ = (overdubref10_Map_Run_L2_B os vs μ).bind fun r => match r.1 with | .normal => overdubref10_Map_Run_L2 os r.2.1 r.2.2 | _ => some r := loopA_eq _ _ _
theorem overdubref10_Map_Run_L1_B_eq (s0 : SV) (s1 : Int) (s5 : Int) (μ : AMem) : overdubref10_Map_Run_L1_B [.s s0, .s (.int .i64 s1)] [.s (.int .i64 s5)] μ =
  seqJ
  (bif decide (s1 ≥ 1) then
    ((lenS (.s s0)).bind fun l9 =>
      bif decide ((IntKind.wrap .i64 (s5 + s1)) ≤ ((l9 : Nat) : Int)) then
      ((lenS (.s s0)).bind fun l10 =>
        some (.normal, [.s (.bool (decide (s1 ≤ ((l10 : Nat) : Int))))], μ))
      else
      (some (.normal, [.s (.bool false)], μ)))
    else
    (some (.normal, [.s (.bool false)], μ)))
  (fun vs11 m12 =>
    headK vs11 fun a13 r14 =>
    asB a13 fun b15 =>
    bif b15 then
    (seqJ (overdubref10_Map_Run_L2 [.s s0, .s (.int .i64 s1), .s (.int .i64 s5)] [.s (.bool true), .s (.int .i64 s5)] m12)
      (fun _ _ => none)
      (fun vs16 m17 =>
        headK vs16 fun a21 r22 =>
        asI .i64 a21 fun n23 =>
        some (.ret, [.s (.int .i64 n23)], m17))
      (fun d20 vs18 m19 =>
        bif Nat.beq 2 d20 then (headK vs18 fun a24 r25 =>
          asS a24 fun x26 =>
          headK r25 fun a27 r28 =>
          asI .i64 a27 fun n29 =>
          headK r28 fun a30 r31 =>
          asI .i64 a30 fun n32 =>
          headK r31 fun a33 r34 =>
          asB a33 fun b35 =>
          bif b35 then
          (some (.ret, [.s (.int .i64 n32)], m19))
          else
          (some (.normal, [.s (.int .i64 (IntKind.wrap .i64 (n32 + 1)))], m19))) else (none)))
    else
    (some (.exit 0, [], m12)))
  (fun vs36 m37 =>
    headK vs36 fun a41 r42 =>
    asI .i64 a41 fun n43 =>
    some (.ret, [.s (.int .i64 n43)], m37))
  (fun d40 vs38 m39 =>
    none) := by kernel_rfl
theorem overdubref10_Map_Run_L1_eq (os vs : List AV) (μ : AMem) : overdubref10_Map_Run_L1 os vs μ = (overdubref10_Map_Run_L1_B os vs μ).bind fun r => match r.1 with | .normal => overdubref10_Map_Run_L1 os r.2.1 r.2.2 | _ => some r := loopA_eq _ _ _
theorem overdubref10_Map_Run_eq (p0 : SV) (p1 : Int) (μ : AMem) : overdubref10_Map_Run [.s p0, .s (.int .i64 p1)] μ =
  seqJ (overdubref10_Map_Run_L1 [.s p0, .s (.int .i64 p1)] [.s (.int .i64 0)] μ)
  (fun _ _ => none)
  (fun vs1 m2 =>
    headK vs1 fun a6 r7 =>
    asI .i64 a6 fun n8 =>
    some (.s (.int .i64 n8), m2))
  (fun d5 vs3 m4 =>
    bif Nat.beq 0 d5 then (some (.s (.int .i64 (-1)), m4)) else (none)) := by kernel_rfl

/-! ### (*overdub/bitmap.Map).Bytes -/
noncomputable def G30 : FuncId → FunA := fun g => bif Nat.beq g 11 then bitmap_Map_Used else fun _ _ => none
theorem G30_11 : G30 11 = bitmap_Map_Used := by kernel_rfl
def A30 : Ann := .two (.leaf) (.two (.leaf) (.two (.two (.leaf) (.join [(3, .s)] [] [] (.loop [(16, .i .i64)] [0, 3, 15] [0] (.two (.leaf) (.two (.two (.leaf) (.leaf)) (.join [] [0, 3, 15, 16] [] (.join [(0, .s), (3, .s), (15, .i .i64), (16, .i .i64)] [] [] (.two (.leaf) (.two (.leaf) (.two (.ord [0, 1, 2, 3, 4, 5, 6, 7, 8, 9, 10]) (.leaf)))) .leaf) (.leaf))))) .leaf)) (.two (.leaf) (.leaf))))
def R30 : Slots := [(2, .s)]
noncomputable def bitmap_Map_Bytes : FunA := denF Try.prog G30 Try.f30 A30 R30
noncomputable def bitmap_Map_Bytes_L1_B (os vs : List AV) (μ : AMem) : Option Res := joinK [(16, .i .i64)] vs (envO [0, 3, 15] os) fun e => den Try.prog G30 Try.f30.ntmps (cL (cL (cR (cL (cR (cR (bodyOf Try.f30))))))) (aL (aL (aR (aL (aR (aR A30)))))) { ret := R30, exits := [(0, [(3, .s)])] } Res e μ fun ex e μ => some (ex, valsOf (Lv.at { ret := R30, exits := [(0, [(3, .s)])] } [(16, .i .i64)] ex) e, μ)
noncomputable def bitmap_Map_Bytes_L1 (os vs : List AV) (μ : AMem) : Option Res := loopA (bitmap_Map_Bytes_L1_B os) vs μ
theorem bitmap_Map_Bytes_L1_B_eq (s0 t0 u0 : Nat) (s3 : SV) (s15 : Int) (s16 : Int) (μ : AMem) : bitmap_Map_Bytes_L1_B [.s (.ptr s0 t0 u0), .s s3, .s (.int .i64 s15)] [.s (.int .i64 s16)] μ =
  bif decide (s16 < s15) then
  (seqJ
    ((bitmap_Map_Used [.s (.ptr s0 t0 u0), .s (.int .i64 s16)] μ).bind fun r16 =>
      asB r16.1 fun b17 =>
      bif b17 then
      (indS 1 (.s s3) (IntKind.wrap .i64 (Int.tdiv s16 8)) fun p18 =>
        loadAt r16.2 p18 fun v19 =>
        asI .u8 v19 fun n20 =>
        if (Int.tmod s16 8) < 0 then none else
        (indS 1 (.s s3) (IntKind.wrap .i64 (Int.tdiv s16 8)) fun p21 =>
          storeAt 1 r16.2 p21 (.s (.int .u8 (IntKind.wrap .u8 (BitVec.toNat ((BitVec.ofInt (IntKind.bits .u8) n20) ||| (BitVec.ofInt (IntKind.bits .u8) (Int.fdiv 128 (2 ^ (min (Int.toNat (Int.tmod s16 8)) (IntKind.bits .u8)))))))))) fun m22 =>
          some (.normal, [], m22)))
      else
      (some (.normal, [], r16.2)))
    (fun vs23 m24 =>
      some (.normal, [.s (.int .i64 (IntKind.wrap .i64 (s16 + 1)))], m24))
    (fun vs25 m26 =>
      headK vs25 fun a30 r31 =>
      asS a30 fun x32 =>
      some (.ret, [.s x32], m26))
    (fun d29 vs27 m28 =>
      none))
  else
  (some (.exit 0, [.s s3], μ)) := by rw [← G30_11]; kernel_rfl
theorem bitmap_Map_Bytes_L1_eq (os vs : List AV) (μ : AMem) : bitmap_Map_Bytes_L1 os vs μ = (bitmap_Map_Bytes_L1_B os vs μ).bind fun r => match r.1 with | .normal => bitmap_Map_Bytes_L1 os r.2.1 r.2.2 | _ => some r := loopA_eq _ _ _
theorem bitmap_Map_Bytes_eq (p0 q0 o0 : Nat) (μ : AMem) : bitmap_Map_Bytes [.s (.ptr p0 q0 o0)] μ =
  ((μ.bump 8).cell p0 q0 (o0 + 0)).bind fun x1 =>
  asI .i64 (.s x1) fun n2 =>
  if 0 ≤ (IntKind.wrap .i64 (Int.tdiv (IntKind.wrap .i64 (n2 + 7)) 8)) ∧ (IntKind.wrap .i64 (Int.tdiv (IntKind.wrap .i64 (n2 + 7)) 8)) ≤ (IntKind.wrap .i64 (Int.tdiv (IntKind.wrap .i64 (n2 + 7)) 8)) ∧ (IntKind.wrap .i64 (Int.tdiv (IntKind.wrap .i64 (n2 + 7)) 8)) ≤ 9223372036854775807 ∧ (1 : Nat) * (IntKind.wrap .i64 (Int.tdiv (IntKind.wrap .i64 (n2 + 7)) 8)) ≤ 140737488355328 then
  ((((μ.bump 8).set (μ.next + 6) (rowObj (zerosA [.int .u8 0] (Int.toNat (IntKind.wrap .i64 (Int.tdiv (IntKind.wrap .i64 (n2 + 7)) 8)))) 1 5 (some (Int.toNat (IntKind.wrap .i64 (Int.tdiv (IntKind.wrap .i64 (n2 + 7)) 8)))))).cell p0 q0 (o0 + 0)).bind fun x3 =>
    asI .i64 (.s x3) fun n4 =>
    seqJ (bitmap_Map_Bytes_L1 [.s (.ptr p0 q0 o0), .s (.slice (μ.next + 6) 0 0 (Int.toNat (IntKind.wrap .i64 (Int.tdiv (IntKind.wrap .i64 (n2 + 7)) 8)))), .s (.int .i64 n4)] [.s (.int .i64 0)] ((μ.bump 8).set (μ.next + 6) (rowObj (zerosA [.int .u8 0] (Int.toNat (IntKind.wrap .i64 (Int.tdiv (IntKind.wrap .i64 (n2 + 7)) 8)))) 1 5 (some (Int.toNat (IntKind.wrap .i64 (Int.tdiv (IntKind.wrap .i64 (n2 + 7)) 8)))))))
    (fun _ _ => none)
    (fun vs5 m6 =>
      headK vs5 fun a10 r11 =>
      asS a10 fun x12 =>
      some (.s x12, m6))
    (fun d9 vs7 m8 =>
      bif Nat.beq 0 d9 then (headK vs7 fun a13 r14 =>
        asS a13 fun x15 =>
        some (.s x15, m8)) else (none))) else none := by kernel_rfl

/-! ### (overdub/overdubref10.Map).Bytes -/
noncomputable def G31 : FuncId → FunA := fun _ _ _ => none
def A31 : Ann := .two (.leaf) (.two (.leaf) (.two (.two (.leaf) (.join [(3, .s)] [] [] (.loop [(12, .i .i64)] [0, 3, 11] [0] (.two (.leaf) (.two (.two (.leaf) (.leaf)) (.join [] [0, 3, 11, 12] [] (.join [(0, .s), (3, .s), (11, .i .i64), (12, .i .i64)] [] [] (.two (.leaf) (.two (.leaf) (.two (.leaf) (.leaf)))) .leaf) (.leaf))))) .leaf)) (.two (.leaf) (.leaf))))
def R31 : Slots := [(2, .s)]
noncomputable def overdubref10_Map_Bytes : FunA := denF Try.prog G31 Try.f31 A31 R31
noncomputable def overdubref10_Map_Bytes_L1_B (os vs : List AV) (μ : AMem) : Option Res := joinK [(12, .i .i64)] vs (envO [0, 3, 11] os) fun e => den Try.prog G31 Try.f31.ntmps (cL (cL (cR (cL (cR (cR (bodyOf Try.f31))))))) (aL (aL (aR (aL (aR (aR A31)))))) { ret := R31, exits := [(0, [(3, .s)])] } Res e μ fun ex e μ => some (ex, valsOf (Lv.at { ret := R31, exits := [(0, [(3, .s)])] } [(12, .i .i64)] ex) e, μ)
noncomputable def overdubref10_Map_Bytes_L1 (os vs : List AV) (μ : AMem) : Option Res := loopA (overdubref10_Map_Bytes_L1_B os) vs μ
theorem overdubref10_Map_Bytes_L1_B_eq (s0 : SV) (s3 : SV) (s11 : Int) (s12 : Int) (μ : AMem) : overdubref10_Map_Bytes_L1_B [.s s0, .s s3, .s (.int .i64 s11)] [.s (.int .i64 s12)] μ =
  bif decide (s12 < s11) then
  (seqJ
    (indS 1 (.s s0) s12 fun p14 =>
      loadAt μ p14 fun v15 =>
      asB v15 fun b16 =>
      bif b16 then
      (indS 1 (.s s3) (IntKind.wrap .i64 (Int.tdiv s12 8)) fun p17 =>
        loadAt μ p17 fun v18 =>
        asI .u8 v18 fun n19 =>
        if (IntKind.wrap .u64 (Int.tmod s12 8)) < 0 then none else
        (indS 1 (.s s3) (IntKind.wrap .i64 (Int.tdiv s12 8)) fun p20 =>
          storeAt 1 μ p20 (.s (.int .u8 (IntKind.wrap .u8 (BitVec.toNat ((BitVec.ofInt (IntKind.bits .u8) n19) ||| (BitVec.ofInt (IntKind.bits .u8) (Int.fdiv 128 (2 ^ (min (Int.toNat (IntKind.wrap .u64 (Int.tmod s12 8))) (IntKind.bits .u8)))))))))) fun m21 =>
          some (.normal, [], m21)))
      else
      (some (.normal, [], μ)))
    (fun vs22 m23 =>
      some (.normal, [.s (.int .i64 (IntKind.wrap .i64 (s12 + 1)))], m23))
    (fun vs24 m25 =>
      headK vs24 fun a29 r30 =>
      asS a29 fun x31 =>
      some (.ret, [.s x31], m25))
    (fun d28 vs26 m27 =>
      none))
  else
  (some (.exit 0, [.s s3], μ)) := by kernel_rfl
theorem overdubref10_Map_Bytes_L1_eq (os vs : List AV) (μ : AMem) : overdubref10_Map_Bytes_L1 os vs μ = (overdubref10_Map_Bytes_L1_B os vs μ).bind fun r => match r.1 with | .normal => overdubref10_Map_Bytes_L1 os r.2.1 r.2.2 | _ => some r := loopA_eq _ _ _
theorem overdubref10_Map_Bytes_eq (p0 : SV) (μ : AMem) : overdubref10_Map_Bytes [.s p0] μ =
  (lenS (.s p0)).bind fun l1 =>
  if 0 ≤ (IntKind.wrap .i64 (Int.tdiv (IntKind.wrap .i64 (((l1 : Nat) : Int) + 7)) 8)) ∧ (IntKind.wrap .i64 (Int.tdiv (IntKind.wrap .i64 (((l1 : Nat) : Int) + 7)) 8)) ≤ (IntKind.wrap .i64 (Int.tdiv (IntKind.wrap .i64 (((l1 : Nat) : Int) + 7)) 8)) ∧ (IntKind.wrap .i64 (Int.tdiv (IntKind.wrap .i64 (((l1 : Nat) : Int) + 7)) 8)) ≤ 9223372036854775807 ∧ (1 : Nat) * (IntKind.wrap .i64 (Int.tdiv (IntKind.wrap .i64 (((l1 : Nat) : Int) + 7)) 8)) ≤ 140737488355328 then
  ((lenS (.s p0)).bind fun l2 =>
    seqJ (overdubref10_Map_Bytes_L1 [.s p0, .s (.slice (μ.next + 4) 0 0 (Int.toNat (IntKind.wrap .i64 (Int.tdiv (IntKind.wrap .i64 (((l1 : Nat) : Int) + 7)) 8)))), .s (.int .i64 ((l2 : Nat) : Int))] [.s (.int .i64 0)] ((μ.bump 6).set (μ.next + 4) (rowObj (zerosA [.int .u8 0] (Int.toNat (IntKind.wrap .i64 (Int.tdiv (IntKind.wrap .i64 (((l1 : Nat) : Int) + 7)) 8)))) 1 5 (some (Int.toNat (IntKind.wrap .i64 (Int.tdiv (IntKind.wrap .i64 (((l1 : Nat) : Int) + 7)) 8)))))))
    (fun _ _ => none)
    (fun vs3 m4 =>
      headK vs3 fun a8 r9 =>
      asS a8 fun x10 =>
      some (.s x10, m4))
    (fun d7 vs5 m6 =>
      bif Nat.beq 0 d7 then (headK vs5 fun a11 r12 =>
        asS a11 fun x13 =>
        some (.s x13, m6)) else (none))) else none := by kernel_rfl

/-! ### overdub/overdubkeep.Same[byte] -/
noncomputable def G29 : FuncId → FunA := fun _ _ _ => none
def A29 : Ann := .two (.leaf) (.two (.two (.leaf) (.two (.two (.leaf) (.leaf)) (.leaf))) (.two (.two (.leaf) (.join [] [] [] (.loop [(5, .i .i64)] [0, 1] [0] (.two (.two (.leaf) (.two (.leaf) (.leaf))) (.two (.join [(0, .s), (1, .s), (5, .i .i64)] [] [] (.two (.ord [0, 1, 2, 3, 4, 5, 6, 7, 8]) (.two (.two (.leaf) (.leaf)) (.leaf))) .leaf) (.leaf)))) .leaf)) (.two (.leaf) (.leaf))))
def R29 : Slots := [(4, .b)]
noncomputable def overdubkeep_Same_byte : FunA := denF Try.prog G29 Try.f29 A29 R29
noncomputable def overdubkeep_Same_byte_L1_B (os vs : List AV) (μ : AMem) : Option Res := joinK [(5, .i .i64)] vs (envO [0, 1] os) fun e => den Try.prog G29 Try.f29.ntmps (cL (cL (cR (cL (cR (cR (bodyOf Try.f29))))))) (aL (aL (aR (aL (aR (aR A29)))))) { ret := R29, exits := [(0, [])] } Res e μ fun ex e μ => some (ex, valsOf (Lv.at { ret := R29, exits := [(0, [])] } [(5, .i .i64)] ex) e, μ)
noncomputable def overdubkeep_Same_byte_L1 (os vs : List AV) (μ : AMem) : Option Res := loopA (overdubkeep_Same_byte_L1_B os) vs μ
theorem overdubkeep_Same_byte_L1_B_eq (s0 : SV) (s1 : SV) (s5 : Int) (μ : AMem) : overdubkeep_Same_byte_L1_B [.s s0, .s s1] [.s (.int .i64 s5)] μ =
  (lenS (.s s0)).bind fun l11 =>
  bif decide (s5 < ((l11 : Nat) : Int)) then
  (indS 1 (.s s0) s5 fun p12 =>
    loadAt μ p12 fun v13 =>
    asI .u8 v13 fun n14 =>
    indS 1 (.s s1) s5 fun p15 =>
    loadAt μ p15 fun v16 =>
    asI .u8 v16 fun n17 =>
    bif (n14 != n17) then
    (some (.ret, [.s (.bool false)], μ))
    else
    (some (.normal, [.s (.int .i64 (IntKind.wrap .i64 (s5 + 1)))], μ)))
  else
  (some (.exit 0, [], μ)) := by kernel_rfl
theorem overdubkeep_Same_byte_L1_eq (os vs : List AV) (μ : AMem) : overdubkeep_Same_byte_L1 os vs μ = (overdubkeep_Same_byte_L1_B os vs μ).bind fun r => match r.1 with | .normal => overdubkeep_Same_byte_L1 os r.2.1 r.2.2 | _ => some r := loopA_eq _ _ _
theorem overdubkeep_Same_byte_eq (p0 : SV) (p1 : SV) (μ : AMem) : overdubkeep_Same_byte [.s p0, .s p1] μ =
  (lenS (.s p0)).bind fun l1 =>
  (lenS (.s p1)).bind fun l2 =>
  bif (((l1 : Nat) : Int) != ((l2 : Nat) : Int)) then
  (some (.s (.bool false), μ))
  else
  (seqJ (overdubkeep_Same_byte_L1 [.s p0, .s p1] [.s (.int .i64 0)] μ)
    (fun _ _ => none)
    (fun vs3 m4 =>
      headK vs3 fun a8 r9 =>
      asB a8 fun b10 =>
      some (.s (.bool b10), m4))
    (fun d7 vs5 m6 =>
      bif Nat.beq 0 d7 then (some (.s (.bool true), m6)) else (none))) := by kernel_rfl

/-! ### overdub/overdublaw11.same -/
noncomputable def G18 : FuncId → FunA := fun g => bif Nat.beq g 10 then bitmap_Map_Level else bif Nat.beq g 24 then overdubref10_Map_Level else bif Nat.beq g 23 then overdubkeep_Same_uint64 else bif Nat.beq g 11 then bitmap_Map_Used else bif Nat.beq g 25 then bitmap_Map_Len else bif Nat.beq g 16 then bitmap_Map_Count else bif Nat.beq g 26 then overdubref10_Map_Count else bif Nat.beq g 15 then bitmap_Map_First else bif Nat.beq g 27 then overdubref10_Map_First else bif Nat.beq g 13 then bitmap_Map_Run else bif Nat.beq g 28 then overdubref10_Map_Run else bif Nat.beq g 30 then bitmap_Map_Bytes else bif Nat.beq g 31 then overdubref10_Map_Bytes else bif Nat.beq g 29 then overdubkeep_Same_byte else fun _ _ => none
theorem G18_10 : G18 10 = bitmap_Map_Level := by kernel_rfl
theorem G18_24 : G18 24 = overdubref10_Map_Level := by kernel_rfl
theorem G18_23 : G18 23 = overdubkeep_Same_uint64 := by kernel_rfl
theorem G18_11 : G18 11 = bitmap_Map_Used := by kernel_rfl
theorem G18_25 : G18 25 = bitmap_Map_Len := by kernel_rfl
theorem G18_16 : G18 16 = bitmap_Map_Count := by kernel_rfl
theorem G18_26 : G18 26 = overdubref10_Map_Count := by kernel_rfl
theorem G18_15 : G18 15 = bitmap_Map_First := by kernel_rfl
theorem G18_27 : G18 27 = overdubref10_Map_First := by kernel_rfl
theorem G18_13 : G18 13 = bitmap_Map_Run := by kernel_rfl
theorem G18_28 : G18 28 = overdubref10_Map_Run := by kernel_rfl
theorem G18_30 : G18 30 = bitmap_Map_Bytes := by kernel_rfl
theorem G18_31 : G18 31 = overdubref10_Map_Bytes := by kernel_rfl
theorem G18_29 : G18 29 = overdubkeep_Same_byte := by kernel_rfl
def A18 : Ann := .two (.leaf) (.two (.two (.leaf) (.join [(0, .s), (1, .s), (2, .i .i64), (3, .i .i64)] [] [] (.loop [(9, .i .i64)] [0, 1, 2, 3] [0] (.two (.two (.leaf) (.two (.leaf) (.leaf))) (.two (.join [(0, .s), (1, .s), (2, .i .i64), (3, .i .i64), (9, .i .i64)] [] [] (.two (.leaf) (.two (.two (.leaf) (.leaf)) (.leaf))) .leaf) (.leaf)))) .leaf)) (.two (.two (.leaf) (.join [(0, .s), (1, .s), (2, .i .i64), (3, .i .i64)] [] [] (.loop [(10, .i .i64)] [0, 1, 2, 3] [2] (.two (.two (.leaf) (.two (.leaf) (.leaf))) (.two (.join [(0, .s), (1, .s), (2, .i .i64), (3, .i .i64), (10, .i .i64)] [] [] (.join [(46, .b)] [0, 1, 2, 3, 10] [] (.leaf) (.two (.two (.leaf) (.leaf)) (.leaf))) .leaf) (.leaf)))) .leaf)) (.two (.leaf) (.leaf))))
def R18 : Slots := [(8, .b)]
noncomputable def overdublaw11_same : FunA := denF Try.prog G18 Try.f18 A18 R18
noncomputable def overdublaw11_same_L2_B (os vs : List AV) (μ : AMem) : Option Res := joinK [(10, .i .i64)] vs (envO [0, 1, 2, 3] os) fun e => den Try.prog G18 Try.f18.ntmps (cL (cL (cR (cL (cR (cR (bodyOf Try.f18))))))) (aL (aL (aR (aL (aR (aR A18)))))) { ret := R18, exits := [(2, [(0, .s), (1, .s), (2, .i .i64), (3, .i .i64)])] } Res e μ fun ex e μ => some (ex, valsOf (Lv.at { ret := R18, exits := [(2, [(0, .s), (1, .s), (2, .i .i64), (3, .i .i64)])] } [(10, .i .i64)] ex) e, μ)
noncomputable def overdublaw11_same_L2 (os vs : List AV) (μ : AMem) : Option Res := loopA (overdublaw11_same_L2_B os) vs μ
noncomputable def overdublaw11_same_L1_B (os vs : List AV) (μ : AMem) : Option Res := joinK [(9, .i .i64)] vs (envO [0, 1, 2, 3] os) fun e => den Try.prog G18 Try.f18.ntmps (cL (cL (cR (cL (cR (bodyOf Try.f18)))))) (aL (aL (aR (aL (aR A18))))) { ret := R18, exits := [(0, [(0, .s), (1, .s), (2, .i .i64), (3, .i .i64)])] } Res e μ fun ex e μ => some (ex, valsOf (Lv.at { ret := R18, exits := [(0, [(0, .s), (1, .s), (2, .i .i64), (3, .i .i64)])] } [(9, .i .i64)] ex) e, μ)
noncomputable def overdublaw11_same_L1 (os vs : List AV) (μ : AMem) : Option Res := loopA (overdublaw11_same_L1_B os) vs μ
theorem overdublaw11_same_L2_B_eq (s0 : SV) (s1 : SV) (s2 : Int) (s3 : Int) (s10 : Int) (μ : AMem) : overdublaw11_same_L2_B [.s s0, .s s1, .s (.int .i64 s2), .s (.int .i64 s3)] [.s (.int .i64 s10)] μ =
  (lenS (.s s1)).bind fun l68 =>
  bif decide (s10 ≤ ((l68 : Nat) : Int)) then
  (seqJ
    ((bitmap_Map_Used [.s s0, .s (.int .i64 s10)] μ).bind fun r69 =>
      asB r69.1 fun b70 =>
      bif !(decide (s10 < 0)) then
      ((lenS (.s s1)).bind fun l71 =>
        bif !(decide (s10 ≥ ((l71 : Nat) : Int))) then
        (indS 1 (.s s1) s10 fun p72 =>
          loadAt r69.2 p72 fun v73 =>
          asB v73 fun b74 =>
          some (.normal, [.s (.bool (!(b70 == b74)))], r69.2))
        else
        (some (.normal, [.s (.bool (!(b70 == true)))], r69.2)))
      else
      (some (.normal, [.s (.bool (!(b70 == true)))], r69.2)))
    (fun vs75 m76 =>
      headK vs75 fun a77 r78 =>
      asB a77 fun b79 =>
      bif b79 then
      (some (.ret, [.s (.bool false)], m76))
      else
      (some (.normal, [.s (.int .i64 (IntKind.wrap .i64 (s10 + 1)))], m76)))
    (fun vs80 m81 =>
      headK vs80 fun a85 r86 =>
      asB a85 fun b87 =>
      some (.ret, [.s (.bool b87)], m81))
    (fun d84 vs82 m83 =>
      none))
  else
  (some (.exit 2, [.s s0, .s s1, .s (.int .i64 s2), .s (.int .i64 s3)], μ)) := by rw [← G18_11]; kernel_rfl
theorem overdublaw11_same_L2_eq (os vs : List AV) (μ : AMem) : overdublaw11_same_L2 os vs μ = (overdublaw11_same_L2_B os vs μ).bind fun r => match r.1 with | .normal => overdublaw11_same_L2 os r.2.1 r.2.2 | _ => some r := loopA_eq _ _ _
theorem overdublaw11_same_L1_B_eq (s0 t0 u0 : Nat) (s1 : SV) (s2 : Int) (s3 : Int) (s9 : Int) (μ : AMem) : overdublaw11_same_L1_B [.s (.ptr s0 t0 u0), .s s1, .s (.int .i64 s2), .s (.int .i64 s3)] [.s (.int .i64 s9)] μ =
  bif decide (s9 < 4) then
  ((bitmap_Map_Level [.s (.ptr s0 t0 u0), .s (.int .i64 s9)] μ).bind fun r62 =>
    asS r62.1 fun x63 =>
    (overdubref10_Map_Level [.s s1, .s (.int .i64 s9)] r62.2).bind fun r64 =>
    asS r64.1 fun x65 =>
    (overdubkeep_Same_uint64 [.s x63, .s x65] r64.2).bind fun r66 =>
    asB r66.1 fun b67 =>
    bif (!b67) then
    (some (.ret, [.s (.bool false)], r66.2))
    else
    (some (.normal, [.s (.int .i64 (IntKind.wrap .i64 (s9 + 1)))], r66.2)))
  else
  (some (.exit 0, [.s (.ptr s0 t0 u0), .s s1, .s (.int .i64 s2), .s (.int .i64 s3)], μ)) := by rw [← G18_10, ← G18_24, ← G18_23]; kernel_rfl
theorem overdublaw11_same_L1_eq (os vs : List AV) (μ : AMem) : overdublaw11_same_L1 os vs μ = (overdublaw11_same_L1_B os vs μ).bind fun r => match r.1 with | .normal => overdublaw11_same_L1 os r.2.1 r.2.2 | _ => some r := loopA_eq _ _ _
theorem overdublaw11_same_eq (p0 q0 o0 : Nat) (p1 : SV) (p2 : Int) (p3 : Int) (μ : AMem) : overdublaw11_same [.s (.ptr p0 q0 o0), .s p1, .s (.int .i64 p2), .s (.int .i64 p3)] μ =
  seqJ (overdublaw11_same_L1 [.s (.ptr p0 q0 o0), .s p1, .s (.int .i64 p2), .s (.int .i64 p3)] [.s (.int .i64 (-1))] μ)
  (fun _ _ => none)
  (fun vs1 m2 =>
    headK vs1 fun a6 r7 =>
    asB a6 fun b8 =>
    some (.s (.bool b8), m2))
  (fun d5 vs3 m4 =>
    bif Nat.beq 0 d5 then (headK vs3 fun a9 r10 =>
      asS a9 fun x11 =>
      headK r10 fun a12 r13 =>
      asS a12 fun x14 =>
      headK r13 fun a15 r16 =>
      asI .i64 a15 fun n17 =>
      headK r16 fun a18 r19 =>
      asI .i64 a18 fun n20 =>
      seqJ (overdublaw11_same_L2 [.s x11, .s x14, .s (.int .i64 n17), .s (.int .i64 n20)] [.s (.int .i64 (-1))] m4)
      (fun _ _ => none)
      (fun vs21 m22 =>
        headK vs21 fun a26 r27 =>
        asB a26 fun b28 =>
        some (.s (.bool b28), m22))
      (fun d25 vs23 m24 =>
        bif Nat.beq 2 d25 then (headK vs23 fun a29 r30 =>
          asS a29 fun x31 =>
          headK r30 fun a32 r33 =>
          asS a32 fun x34 =>
          headK r33 fun a35 r36 =>
          asI .i64 a35 fun n37 =>
          headK r36 fun a38 r39 =>
          asI .i64 a38 fun n40 =>
          (bitmap_Map_Len [.s x31] m24).bind fun r41 =>
          asI .i64 r41.1 fun n42 =>
          (lenS (.s x34)).bind fun l43 =>
          bif (n42 == ((l43 : Nat) : Int)) then
          ((bitmap_Map_Count [.s x31] r41.2).bind fun r44 =>
            asI .i64 r44.1 fun n45 =>
            (overdubref10_Map_Count [.s x34] r44.2).bind fun r46 =>
            asI .i64 r46.1 fun n47 =>
            bif (n45 == n47) then
            ((bitmap_Map_First [.s x31, .s (.int .i64 n37)] r46.2).bind fun r48 =>
              asI .i64 r48.1 fun n49 =>
              (overdubref10_Map_First [.s x34, .s (.int .i64 n37)] r48.2).bind fun r50 =>
              asI .i64 r50.1 fun n51 =>
              bif (n49 == n51) then
              ((bitmap_Map_Run [.s x31, .s (.int .i64 n40)] r50.2).bind fun r52 =>
                asI .i64 r52.1 fun n53 =>
                (overdubref10_Map_Run [.s x34, .s (.int .i64 n40)] r52.2).bind fun r54 =>
                asI .i64 r54.1 fun n55 =>
                bif (n53 == n55) then
                ((bitmap_Map_Bytes [.s x31] r54.2).bind fun r56 =>
                  asS r56.1 fun x57 =>
                  (overdubref10_Map_Bytes [.s x34] r56.2).bind fun r58 =>
                  asS r58.1 fun x59 =>
                  (overdubkeep_Same_byte [.s x57, .s x59] r58.2).bind fun r60 =>
                  asB r60.1 fun b61 =>
                  some (.s (.bool b61), r60.2))
                else
                (some (.s (.bool false), r54.2)))
              else
              (some (.s (.bool false), r50.2)))
            else
            (some (.s (.bool false), r46.2)))
          else
          (some (.s (.bool false), r41.2))) else (none))) else (none)) := by rw [← G18_25, ← G18_16, ← G18_26, ← G18_15, ← G18_27, ← G18_13, ← G18_28, ← G18_30, ← G18_31, ← G18_29]; kernel_rfl

/-! ### overdub/overdublaw11.play -/
noncomputable def G19 : FuncId → FunA := fun g => bif Nat.beq g 7 then overdubkeep_Within else bif Nat.beq g 9 then bitmap_Map_Set else bif Nat.beq g 27 then overdubref10_Map_First else bif Nat.beq g 14 then bitmap_Map_Take else bif Nat.beq g 18 then overdublaw11_same else fun _ _ => none
theorem G19_7 : G19 7 = overdubkeep_Within := by kernel_rfl
theorem G19_9 : G19 9 = bitmap_Map_Set := by kernel_rfl
theorem G19_27 : G19 27 = overdubref10_Map_First := by kernel_rfl
theorem G19_14 : G19 14 = bitmap_Map_Take := by kernel_rfl
theorem G19_18 : G19 18 = overdublaw11_same := by kernel_rfl
def A19 : Ann := .two (.leaf) (.two (.two (.leaf) (.join [] [] [] (.loop [(7, .i .i64)] [0, 1, 2] [0] (.two (.join [(23, .b)] [0, 1, 2, 7] [] (.leaf) (.two (.leaf) (.leaf))) (.two (.join [(0, .s), (1, .s), (2, .s), (7, .i .i64)] [] [] (.two (.leaf) (.two (.leaf) (.two (.leaf) (.join [] [0, 1, 2, 7, 8, 10] [] (.two (.leaf) (.two (.leaf) (.join [(0, .s), (1, .s), (2, .s), (7, .i .i64), (8, .s), (10, .i .i64)] [] [] (.join [(74, .b)] [0, 1, 2, 7, 8, 9, 10, 11, 43] [] (.two (.leaf) (.two (.leaf) (.leaf))) (.two (.two (.leaf) (.join [(0, .s), (1, .s), (2, .s), (7, .i .i64), (8, .s), (10, .i .i64)] [] [] (.loop [(12, .i .i64)] [0, 1, 2, 7, 8, 9, 10, 11] [3] (.two (.two (.leaf) (.two (.leaf) (.leaf))) (.join [] [0, 1, 2, 7, 8, 9, 10, 11, 12] [] (.join [(0, .s), (1, .s), (2, .s), (7, .i .i64), (8, .s), (9, .i .i64), (10, .i .i64), (11, .i .i64), (12, .i .i64)] [] [] (.join [(13, .b)] [0, 1, 2, 7, 8, 9, 10, 11, 12] [] (.leaf) (.two (.two (.leaf) (.two (.two (.leaf) (.leaf)) (.leaf))) (.two (.leaf) (.two (.leaf) (.leaf))))) .leaf) (.leaf)))) .leaf)) (.two (.leaf) (.two (.two (.leaf) (.two (.two (.leaf) (.two (.two (.leaf) (.leaf)) (.leaf))) (.two (.leaf) (.two (.leaf) (.leaf))))) (.join [(15, .b)] [0, 1, 2, 7, 8, 9, 10, 11] [] (.leaf) (.two (.two (.leaf) (.two (.two (.leaf) (.leaf)) (.leaf))) (.two (.leaf) (.two (.leaf) (.leaf))))))))) .leaf))) (.two (.leaf) (.two (.two (.leaf) (.leaf)) (.leaf))))))) .leaf) (.leaf)))) .leaf)) (.two (.leaf) (.leaf)))
def R19 : Slots := [(6, .b)]
noncomputable def overdublaw11_play : FunA := denF Try.prog G19 Try.f19 A19 R19
noncomputable def overdublaw11_play_L2_B (os vs : List AV) (μ : AMem) : Option Res := joinK [(12, .i .i64)] vs (envO [0, 1, 2, 7, 8, 9, 10, 11] os) fun e => den Try.prog G19 Try.f19.ntmps (cL (cL (cR (cL (cR (cL (cR (cR (cL (cR (cR (cR (cL (cL (cR (cL (cL (cR (cL (cR (bodyOf Try.f19))))))))))))))))))))) (aL (aL (aR (aL (aR (aL (aR (aR (aL (aR (aR (aR (aL (aL (aR (aL (aL (aR (aL (aR A19)))))))))))))))))))) { ret := R19, exits := [(3, [(0, .s), (1, .s), (2, .s), (7, .i .i64), (8, .s), (10, .i .i64)]), (2, [(0, .s), (1, .s), (2, .s), (7, .i .i64), (8, .s), (10, .i .i64)]), (1, [(0, .s), (1, .s), (2, .s), (7, .i .i64)]), (0, [])] } Res e μ fun ex e μ => some (ex, valsOf (Lv.at { ret := R19, exits := [(3, [(0, .s), (1, .s), (2, .s), (7, .i .i64), (8, .s), (10, .i .i64)]), (2, [(0, .s), (1, .s), (2, .s), (7, .i .i64), (8, .s), (10, .i .i64)]), (1, [(0, .s), (1, .s), (2, .s), (7, .i .i64)]), (0, [])] } [(12, .i .i64)] ex) e, μ)
noncomputable def overdublaw11_play_L2 (os vs : List AV) (μ : AMem) : Option Res := loopA (overdublaw11_play_L2_B os) vs μ
noncomputable def overdublaw11_play_L1_B (os vs : List AV) (μ : AMem) : Option Res := joinK [(7, .i .i64)] vs (envO [0, 1, 2] os) fun e => den Try.prog G19 Try.f19.ntmps (cL (cL (cR (cL (cR (bodyOf Try.f19)))))) (aL (aL (aR (aL (aR A19))))) { ret := R19, exits := [(0, [])] } Res e μ fun ex e μ => some (ex, valsOf (Lv.at { ret := R19, exits := [(0, [])] } [(7, .i .i64)] ex) e, μ)
noncomputable def overdublaw11_play_L1 (os vs : List AV) (μ : AMem) : Option Res := loopA (overdublaw11_play_L1_B os) vs μ
theorem overdublaw11_play_L2_B_eq (s0 t0 u0 : Nat) (s1 : SV) (s2 : SV) (s7 : Int) (s8 t8 u8 : Nat) (s9 : Int) (s10 : Int) (s11 : Int) (s12 : Int) (μ : AMem) : overdublaw11_play_L2_B [.s (.ptr s0 t0 u0), .s s1, .s s2, .s (.int .i64 s7), .s (.ptr s8 t8 u8), .s (.int .i64 s9), .s (.int .i64 s10), .s (.int .i64 s11)] [.s (.int .i64 s12)] μ =
  bif decide (s12 < (IntKind.wrap .i64 (s9 + s10))) then
  (seqJ
    (seqJ
      (bif decide (s12 ≥ 0) then
        ((lenS (.s s1)).bind fun l119 =>
          bif decide (s12 < ((l119 : Nat) : Int)) then
          (indS 1 (.s s1) s12 fun p120 =>
            loadAt μ p120 fun v121 =>
            asB v121 fun b122 =>
            some (.normal, [.s (.bool (!(b122 == (s11 == 3))))], μ))
          else
          (some (.normal, [.s (.bool false)], μ)))
        else
        (some (.normal, [.s (.bool false)], μ)))
      (fun vs123 m124 =>
        headK vs123 fun a125 r126 =>
        asB a125 fun b127 =>
        (bitmap_Map_Set [.s (.ptr s0 t0 u0), .s (.int .i64 s12), .s (.bool (s11 == 3))] m124).bind fun r128 =>
        asB r128.1 fun b129 =>
        bif (!(b129 == b127)) then
        (some (.ret, [.s (.bool false)], r128.2))
        else
        (bif b127 then
          (indS 1 (.s s1) s12 fun p130 =>
            storeAt 1 r128.2 p130 (.s (.bool (s11 == 3))) fun m131 =>
            some (.normal, [], m131))
          else
          (some (.normal, [], r128.2))))
      (fun vs132 m133 =>
        headK vs132 fun a137 r138 =>
        asB a137 fun b139 =>
        some (.ret, [.s (.bool b139)], m133))
      (fun d136 vs134 m135 =>
        none))
    (fun vs140 m141 =>
      some (.normal, [.s (.int .i64 (IntKind.wrap .i64 (s12 + 1)))], m141))
    (fun vs142 m143 =>
      headK vs142 fun a147 r148 =>
      asB a147 fun b149 =>
      some (.ret, [.s (.bool b149)], m143))
    (fun d146 vs144 m145 =>
      none))
  else
  (some (.exit 3, [.s (.ptr s0 t0 u0), .s s1, .s s2, .s (.int .i64 s7), .s (.ptr s8 t8 u8), .s (.int .i64 s10)], μ)) := by rw [← G19_9]; kernel_rfl
theorem overdublaw11_play_L2_eq (os vs : List AV) (μ : AMem) : overdublaw11_play_L2 os vs μ = (overdublaw11_play_L2_B os vs μ).bind fun r => match r.1 with | .normal => overdublaw11_play_L2 os r.2.1 r.2.2 | _ => some r := loopA_eq _ _ _
theorem overdublaw11_play_L1_B_eq (s0 t0 u0 : Nat) (s1 : SV) (s2 : SV) (s7 : Int) (μ : AMem) : overdublaw11_play_L1_B [.s (.ptr s0 t0 u0), .s s1, .s s2] [.s (.int .i64 s7)] μ =
  seqJ
  ((lenS (.s s2)).bind fun l9 =>
    bif decide (s7 < ((l9 : Nat) : Int)) then
    (some (.normal, [.s (.bool (decide (s7 < 20)))], μ))
    else
    (some (.normal, [.s (.bool false)], μ)))
  (fun vs10 m11 =>
    headK vs10 fun a12 r13 =>
    asB a12 fun b14 =>
    bif b14 then
    (indS 3 (.s s2) s7 fun p15 =>
      loadsAt (m11.bump 6) 3 p15 fun v16 =>
      storeAt 3 ((m11.bump 6).set (m11.next + 4) (rowObj [.int .i64 0, .int .i64 0, .int .i64 0] 3 56 (some 1))) (.s (.ptr (m11.next + 4) 0 0)) v16 fun m17 =>
      (m17.cell (m11.next + 4) 0 (0 + 1)).bind fun x18 =>
      asI .i64 (.s x18) fun n19 =>
      (lenS (.s s1)).bind fun l20 =>
      (overdubkeep_Within [.s (.int .i64 n19), .s (.int .i64 (IntKind.wrap .i64 (((l20 : Nat) : Int) + 2)))] m17).bind fun r21 =>
      asI .i64 r21.1 fun n22 =>
      (r21.2.cell (m11.next + 4) 0 (0 + 2)).bind fun x23 =>
      asI .i64 (.s x23) fun n24 =>
      (overdubkeep_Within [.s (.int .i64 n24), .s (.int .i64 80)] r21.2).bind fun r25 =>
      asI .i64 r25.1 fun n26 =>
      seqJ
      ((r25.2.cell (m11.next + 4) 0 (0 + 0)).bind fun x27 =>
        asI .i64 (.s x27) fun n28 =>
        (overdubkeep_Within [.s (.int .i64 n28), .s (.int .i64 6)] r25.2).bind fun r29 =>
        asI .i64 r29.1 fun n30 =>
        seqJ
        (bif (n30 == 3) then
          (some (.normal, [.s (.bool (n30 == 3))], r29.2))
          else
          (some (.normal, [.s (.bool (n30 == 5))], r29.2)))
        (fun vs31 m32 =>
          headK vs31 fun a33 r34 =>
          asB a33 fun b35 =>
          bif b35 then
          (seqJ (overdublaw11_play_L2 [.s (.ptr s0 t0 u0), .s s1, .s s2, .s (.int .i64 s7), .s (.ptr (m11.next + 4) 0 0), .s (.int .i64 (IntKind.wrap .i64 (n22 - 1))), .s (.int .i64 n26), .s (.int .i64 n30)] [.s (.int .i64 (IntKind.wrap .i64 (n22 - 1)))] m32)
            (fun _ _ => none)
            (fun vs36 m37 =>
              headK vs36 fun a41 r42 =>
              asB a41 fun b43 =>
              some (.ret, [.s (.bool b43)], m37))
            (fun d40 vs38 m39 =>
              bif Nat.beq 3 d40 then (headK vs38 fun a44 r45 =>
                asS a44 fun x46 =>
                headK r45 fun a47 r48 =>
                asS a47 fun x49 =>
                headK r48 fun a50 r51 =>
                asS a50 fun x52 =>
                headK r51 fun a53 r54 =>
                asI .i64 a53 fun n55 =>
                headK r54 fun a56 r57 =>
                asS a56 fun x58 =>
                headK r57 fun a59 r60 =>
                asI .i64 a59 fun n61 =>
                some (.normal, [], m39)) else (none)))
          else
          (bif (n30 == 4) then
            ((overdubref10_Map_First [.s s1, .s (.int .i64 0)] m32).bind fun r62 =>
              asI .i64 r62.1 fun n63 =>
              (bitmap_Map_Take [.s (.ptr s0 t0 u0)] r62.2).bind fun r64 =>
              asI .i64 r64.1 fun n65 =>
              bif (n65 != n63) then
              (some (.ret, [.s (.bool false)], r64.2))
              else
              (bif decide (n63 ≥ 0) then
                (indS 1 (.s s1) n63 fun p66 =>
                  storeAt 1 r64.2 p66 (.s (.bool true)) fun m67 =>
                  some (.normal, [], m67))
                else
                (some (.normal, [], r64.2))))
            else
            (seqJ
              (bif decide ((IntKind.wrap .i64 (n22 - 1)) ≥ 0) then
                ((lenS (.s s1)).bind fun l68 =>
                  bif decide ((IntKind.wrap .i64 (n22 - 1)) < ((l68 : Nat) : Int)) then
                  (indS 1 (.s s1) (IntKind.wrap .i64 (n22 - 1)) fun p69 =>
                    loadAt m32 p69 fun v70 =>
                    asB v70 fun b71 =>
                    some (.normal, [.s (.bool (!(b71 == (n30 == 0))))], m32))
                  else
                  (some (.normal, [.s (.bool false)], m32)))
                else
                (some (.normal, [.s (.bool false)], m32)))
              (fun vs72 m73 =>
                headK vs72 fun a74 r75 =>
                asB a74 fun b76 =>
                (bitmap_Map_Set [.s (.ptr s0 t0 u0), .s (.int .i64 (IntKind.wrap .i64 (n22 - 1))), .s (.bool (n30 == 0))] m73).bind fun r77 =>
                asB r77.1 fun b78 =>
                bif (!(b78 == b76)) then
                (some (.ret, [.s (.bool false)], r77.2))
                else
                (bif b76 then
                  (indS 1 (.s s1) (IntKind.wrap .i64 (n22 - 1)) fun p79 =>
                    storeAt 1 r77.2 p79 (.s (.bool (n30 == 0))) fun m80 =>
                    some (.normal, [], m80))
                  else
                  (some (.normal, [], r77.2))))
              (fun vs81 m82 =>
                headK vs81 fun a86 r87 =>
                asB a86 fun b88 =>
                some (.ret, [.s (.bool b88)], m82))
              (fun d85 vs83 m84 =>
                none))))
        (fun vs89 m90 =>
          headK vs89 fun a94 r95 =>
          asB a94 fun b96 =>
          some (.ret, [.s (.bool b96)], m90))
        (fun d93 vs91 m92 =>
          none))
      (fun vs97 m98 =>
        (m98.cell (m11.next + 4) 0 (0 + 2)).bind fun x99 =>
        asI .i64 (.s x99) fun n100 =>
        (overdublaw11_same [.s (.ptr s0 t0 u0), .s s1, .s (.int .i64 n100), .s (.int .i64 n26)] m98).bind fun r101 =>
        asB r101.1 fun b102 =>
        bif (!b102) then
        (some (.ret, [.s (.bool false)], r101.2))
        else
        (some (.normal, [.s (.int .i64 (IntKind.wrap .i64 (s7 + 1)))], r101.2)))
      (fun vs103 m104 =>
        headK vs103 fun a108 r109 =>
        asB a108 fun b110 =>
        some (.ret, [.s (.bool b110)], m104))
      (fun d107 vs105 m106 =>
        none))
    else
    (some (.exit 0, [], m11)))
  (fun vs111 m112 =>
    headK vs111 fun a116 r117 =>
    asB a116 fun b118 =>
    some (.ret, [.s (.bool b118)], m112))
  (fun d115 vs113 m114 =>
    none) := by rw [← G19_7, ← G19_9, ← G19_27, ← G19_14, ← G19_18]; kernel_rfl
theorem overdublaw11_play_L1_eq (os vs : List AV) (μ : AMem) : overdublaw11_play_L1 os vs μ = (overdublaw11_play_L1_B os vs μ).bind fun r => match r.1 with | .normal => overdublaw11_play_L1 os r.2.1 r.2.2 | _ => some r := loopA_eq _ _ _
theorem overdublaw11_play_eq (p0 q0 o0 : Nat) (p1 : SV) (p2 : SV) (μ : AMem) : overdublaw11_play [.s (.ptr p0 q0 o0), .s p1, .s p2] μ =
  seqJ (overdublaw11_play_L1 [.s (.ptr p0 q0 o0), .s p1, .s p2] [.s (.int .i64 0)] μ)
  (fun _ _ => none)
  (fun vs1 m2 =>
    headK vs1 fun a6 r7 =>
    asB a6 fun b8 =>
    some (.s (.bool b8), m2))
  (fun d5 vs3 m4 =>
    bif Nat.beq 0 d5 then (some (.s (.bool true), m4)) else (none)) := by kernel_rfl

/-! ### (*overdub/bitmap.Map).Clone -/
noncomputable def G20 : FuncId → FunA := fun _ _ _ => none
def A20 : Ann := .two (.leaf) (.two (.leaf) (.two (.two (.leaf) (.join [(3, .s)] [] [] (.loop [(17, .i .i64)] [3, 15, 16] [0] (.two (.leaf) (.two (.two (.leaf) (.leaf)) (.two (.join [(3, .s), (15, .s), (16, .i .i64), (17, .i .i64)] [] [] (.two (.leaf) (.ord [0, 1, 2, 3, 4, 5, 6, 7, 8, 9, 10, 11])) .leaf) (.leaf))))) .leaf)) (.two (.leaf) (.leaf))))
def R20 : Slots := [(2, .s)]
noncomputable def bitmap_Map_Clone : FunA := denF Try.prog G20 Try.f20 A20 R20
noncomputable def bitmap_Map_Clone_L1_B (os vs : List AV) (μ : AMem) : Option Res := joinK [(17, .i .i64)] vs (envO [3, 15, 16] os) fun e => den Try.prog G20 Try.f20.ntmps (cL (cL (cR (cL (cR (cR (bodyOf Try.f20))))))) (aL (aL (aR (aL (aR (aR A20)))))) { ret := R20, exits := [(0, [(3, .s)])] } Res e μ fun ex e μ => some (ex, valsOf (Lv.at { ret := R20, exits := [(0, [(3, .s)])] } [(17, .i .i64)] ex) e, μ)
noncomputable def bitmap_Map_Clone_L1 (os vs : List AV) (μ : AMem) : Option Res := loopA (bitmap_Map_Clone_L1_B os) vs μ
theorem bitmap_Map_Clone_L1_B_eq (s3 t3 u3 : Nat) (s15 : SV) (s16 : Int) (s17 : Int) (μ : AMem) : bitmap_Map_Clone_L1_B [.s (.ptr s3 t3 u3), .s s15, .s (.int .i64 s16)] [.s (.int .i64 s17)] μ =
  bif decide (s17 < s16) then
  (indS 1 (.s s15) s17 fun p16 =>
    loadAt μ p16 fun v17 =>
    asS v17 fun x18 =>
    ((μ.bump 12).cell s3 t3 (u3 + 1)).bind fun x19 =>
    appendA 31 1 8 (μ.next + 6) (μ.bump 12) (.s .nilSlice) (.s x18) fun x20 m21 =>
    asS x20 fun x22 =>
    checkA (((m21.cell s3 t3 (u3 + 1)).bind fun x => some (AV.s x)) = some (.s x19))
    (checkA (m21.obj (μ.next + 7) = none)
      (appendA 29 1 24 (μ.next + 8) (m21.set (μ.next + 7) (rowObj [x22] 1 29 (some 1))) (.s x19) (.s (.slice (μ.next + 7) 0 0 1)) fun x23 m24 =>
        asS x23 fun x25 =>
        (m24.store s3 t3 (u3 + 1) [x25]).bind fun m26 =>
        some (.normal, [.s (.int .i64 (IntKind.wrap .i64 (s17 + 1)))], m26))))
  else
  (some (.exit 0, [.s (.ptr s3 t3 u3)], μ)) := by kernel_rfl
theorem bitmap_Map_Clone_L1_eq (os vs : List AV) (μ : AMem) : bitmap_Map_Clone_L1 os vs μ = (bitmap_Map_Clone_L1_B os vs μ).bind fun r => match r.1 with | .normal => bitmap_Map_Clone_L1 os r.2.1 r.2.2 | _ => some r := loopA_eq _ _ _
theorem bitmap_Map_Clone_eq (p0 q0 o0 : Nat) (μ : AMem) : bitmap_Map_Clone [.s (.ptr p0 q0 o0)] μ =
  ((μ.bump 7).cell p0 q0 (o0 + 0)).bind fun x1 =>
  asI .i64 (.s x1) fun n2 =>
  (((μ.bump 7).set (μ.next + 5) (rowObj [.int .i64 n2, .nilSlice] 2 50 (some 1))).cell p0 q0 (o0 + 1)).bind fun x3 =>
  (lenS (.s x3)).bind fun l4 =>
  seqJ (bitmap_Map_Clone_L1 [.s (.ptr (μ.next + 5) 0 0), .s x3, .s (.int .i64 ((l4 : Nat) : Int))] [.s (.int .i64 0)] ((μ.bump 7).set (μ.next + 5) (rowObj [.int .i64 n2, .nilSlice] 2 50 (some 1))))
  (fun _ _ => none)
  (fun vs5 m6 =>
    headK vs5 fun a10 r11 =>
    asS a10 fun x12 =>
    some (.s x12, m6))
  (fun d9 vs7 m8 =>
    bif Nat.beq 0 d9 then (headK vs7 fun a13 r14 =>
      asS a13 fun x15 =>
      some (.s x15, m8)) else (none)) := by kernel_rfl

/-! ### overdub/overdublaw11.MapPlays -/
noncomputable def G6 : FuncId → FunA := fun g => bif Nat.beq g 7 then overdubkeep_Within else bif Nat.beq g 8 then bitmap_New else bif Nat.beq g 17 then overdubref10_NewMap else bif Nat.beq g 12 then overdublaw11_wakes else bif Nat.beq g 18 then overdublaw11_same else bif Nat.beq g 19 then overdublaw11_play else bif Nat.beq g 20 then bitmap_Map_Clone else fun _ _ => none
theorem G6_7 : G6 7 = overdubkeep_Within := by kernel_rfl
theorem G6_8 : G6 8 = bitmap_New := by kernel_rfl
theorem G6_17 : G6 17 = overdubref10_NewMap := by kernel_rfl
theorem G6_12 : G6 12 = overdublaw11_wakes := by kernel_rfl
theorem G6_18 : G6 18 = overdublaw11_same := by kernel_rfl
theorem G6_19 : G6 19 = overdublaw11_play := by kernel_rfl
theorem G6_20 : G6 20 = bitmap_Map_Clone := by kernel_rfl
def A6 : Ann := .two (.leaf) (.join [(0, .i .i64)] [1, 2] [] (.join [(18, .b)] [0, 1, 2] [] (.leaf) (.two (.leaf) (.leaf))) (.two (.leaf) (.two (.leaf) (.two (.two (.leaf) (.two (.two (.leaf) (.leaf)) (.leaf))) (.two (.join [(60, .b)] [2, 7, 9] [] (.leaf) (.two (.two (.leaf) (.leaf)) (.leaf))) (.two (.leaf) (.two (.leaf) (.two (.leaf) (.leaf)))))))))
def R6 : Slots := [(6, .b)]
noncomputable def overdublaw11_MapPlays : FunA := denF Try.prog G6 Try.f6 A6 R6
theorem overdublaw11_MapPlays_eq (p0 : Int) (p1 : SV) (p2 : SV) (μ : AMem) : overdublaw11_MapPlays [.s (.int .i64 p0), .s p1, .s p2] μ =
  seqJ
  (seqJ
    (bif decide (p0 > 300) then
      (some (.normal, [.s (.bool (decide (p0 ≤ 4096)))], μ))
      else
      (some (.normal, [.s (.bool false)], μ)))
    (fun vs1 m2 =>
      headK vs1 fun a3 r4 =>
      asB a3 fun b5 =>
      bif b5 then
      ((overdubkeep_Within [.s (.int .i64 p0), .s (.int .i64 300)] m2).bind fun r6 =>
        asI .i64 r6.1 fun n7 =>
        some (.normal, [.s (.int .i64 n7)], r6.2))
      else
      (some (.normal, [.s (.int .i64 p0)], m2)))
    (fun vs8 m9 =>
      headK vs8 fun a13 r14 =>
      asB a13 fun b15 =>
      some (.ret, [.s (.bool b15)], m9))
    (fun d12 vs10 m11 =>
      none))
  (fun vs16 m17 =>
    headK vs16 fun a18 r19 =>
    asI .i64 a18 fun n20 =>
    (bitmap_New [.s (.int .i64 n20)] m17).bind fun r21 =>
    extrK 0 r21.1 fun t22 =>
    asS t22 fun x23 =>
    extrK 1 r21.1 fun t24 =>
    asI .i64 t24 fun n25 =>
    (overdubref10_NewMap [.s (.int .i64 n20)] r21.2).bind fun r26 =>
    extrK 0 r26.1 fun t27 =>
    asS t27 fun x28 =>
    extrK 1 r26.1 fun t29 =>
    asB t29 fun b30 =>
    bif (!b30) then
    (bif (n25 == 1) then
      ((isNil (.s x23)).bind fun b31 =>
        bif b31 then
        ((overdublaw11_wakes [] r26.2).bind fun r32 =>
          asB r32.1 fun b33 =>
          some (.s (.bool b33), r32.2))
        else
        (some (.s (.bool false), r26.2)))
      else
      (some (.s (.bool false), r26.2)))
    else
    (seqJ
      (bif !(n25 != 0) then
        ((isNil (.s x23)).bind fun b34 =>
          bif !b34 then
          ((overdublaw11_same [.s x23, .s x28, .s (.int .i64 0), .s (.int .i64 1)] r26.2).bind fun r35 =>
            asB r35.1 fun b36 =>
            bif !(!b36) then
            ((overdublaw11_play [.s x23, .s x28, .s p1] r35.2).bind fun r37 =>
              asB r37.1 fun b38 =>
              some (.normal, [.s (.bool (!b38))], r37.2))
            else
            (some (.normal, [.s (.bool true)], r35.2)))
          else
          (some (.normal, [.s (.bool true)], r26.2)))
        else
        (some (.normal, [.s (.bool true)], r26.2)))
      (fun vs39 m40 =>
        headK vs39 fun a41 r42 =>
        asB a41 fun b43 =>
        bif b43 then
        (some (.s (.bool false), m40))
        else
        ((bitmap_Map_Clone [.s x23] m40).bind fun r44 =>
          asS r44.1 fun x45 =>
          appendA 4 1 1 (r44.2.next + 1) (r44.2.bump 3) (.s .nilSlice) (.s x28) fun x46 m47 =>
          asS x46 fun x48 =>
          (isNil (.s x45)).bind fun b49 =>
          bif (!b49) then
          ((overdublaw11_play [.s x45, .s x48, .s p2] m47).bind fun r50 =>
            asB r50.1 fun b51 =>
            bif b51 then
            ((overdublaw11_same [.s x23, .s x28, .s (.int .i64 3), .s (.int .i64 2)] r50.2).bind fun r52 =>
              asB r52.1 fun b53 =>
              bif b53 then
              ((overdublaw11_wakes [] r52.2).bind fun r54 =>
                asB r54.1 fun b55 =>
                some (.s (.bool b55), r54.2))
              else
              (some (.s (.bool false), r52.2)))
            else
            (some (.s (.bool false), r50.2)))
          else
          (some (.s (.bool false), m47))))
      (fun vs56 m57 =>
        headK vs56 fun a61 r62 =>
        asB a61 fun b63 =>
        some (.s (.bool b63), m57))
      (fun d60 vs58 m59 =>
        none)))
  (fun vs64 m65 =>
    headK vs64 fun a69 r70 =>
    asB a69 fun b71 =>
    some (.s (.bool b71), m65))
  (fun d68 vs66 m67 =>
    none) := by rw [← G6_7, ← G6_8, ← G6_17, ← G6_12, ← G6_18, ← G6_19, ← G6_20]; kernel_rfl

end Go.Proofs.Ytepdjffnjfdklaa
