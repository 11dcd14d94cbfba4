/- The Go functions as plain functions. -/
import Derived.Test.YtkikncdhmifkaaaProg
import Derived.KernelRfl
import Derived.Test.YtkikncdhmifkaaaZb
/- The Go functions as plain functions over abstract memory, and what each comes to. -/
namespace Go.Proofs.Ytkikncdhmifkaaa
open Go Go.Proofs.Ytkikncdhmifkaaa.E
set_option maxRecDepth 100000
set_option linter.unusedVariables false
/-! ### overdub/overdubkeep.Within -/
noncomputable def G8 : FuncId → FunA := fun _ _ _ => none
def A8 : Ann := .two (.leaf) (.two (.two (.leaf) (.two (.two (.leaf) (.leaf)) (.leaf))) (.two (.leaf) (.join [(5, .i .i64)] [] [] (.two (.leaf) (.two (.leaf) (.leaf))) (.two (.leaf) (.leaf)))))
def R8 : Slots := [(4, .i .i64)]
noncomputable def overdubkeep_Within : FunA := denF Try.prog G8 Try.f8 A8 R8
theorem overdubkeep_Within_eq (p0 : Int) (p1 : Int) (μ : AMem) : overdubkeep_Within [.s (.int .i64 p0), .s (.int .i64 p1)] μ =
  bif decide (p1 < 1) then
  (some (.s (.int .i64 0), μ))
  else
  (if p1 = 0 then none else
    (seqJ
      (bif decide ((Int.tmod p0 p1) < 0) then
        (some (.normal, [.s (.int .i64 (IntKind.wrap .i64 ((Int.tmod p0 p1) + p1)))], μ))
        else
        (some (.normal, [.s (.int .i64 (Int.tmod p0 p1))], μ)))
      (fun vs1 m2 =>
        headK vs1 fun a3 r4 =>
        asI .i64 a3 fun n5 =>
        some (.s (.int .i64 n5), m2))
      (fun vs6 m7 =>
        headK vs6 fun a11 r12 =>
        asI .i64 a11 fun n13 =>
        some (.s (.int .i64 n13), m7))
      (fun d10 vs8 m9 =>
        none))) := by kernel_rfl

/-! ### overdub/bitmap.ones -/
noncomputable def G52 : FuncId → FunA := fun _ _ _ => none
def A52 : Ann := .two (.leaf) (.two (.leaf) (.join [] [3] [] (.two (.leaf) (.two (.leaf) (.leaf))) (.two (.leaf) (.leaf))))
def R52 : Slots := [(2, .s)]
noncomputable def bitmap_ones : FunA := denF Try.prog G52 Try.f52 A52 R52
theorem bitmap_ones_eq (p0 : Int) (μ : AMem) : bitmap_ones [.s (.int .i64 p0)] μ =
  if 0 ≤ (IntKind.wrap .i64 (Int.tdiv (IntKind.wrap .i64 ((IntKind.wrap .i64 (p0 + 64)) - 1)) 64)) ∧ (IntKind.wrap .i64 (Int.tdiv (IntKind.wrap .i64 ((IntKind.wrap .i64 (p0 + 64)) - 1)) 64)) ≤ (IntKind.wrap .i64 (Int.tdiv (IntKind.wrap .i64 ((IntKind.wrap .i64 (p0 + 64)) - 1)) 64)) ∧ (IntKind.wrap .i64 (Int.tdiv (IntKind.wrap .i64 ((IntKind.wrap .i64 (p0 + 64)) - 1)) 64)) ≤ 9223372036854775807 ∧ (8 : Nat) * (IntKind.wrap .i64 (Int.tdiv (IntKind.wrap .i64 ((IntKind.wrap .i64 (p0 + 64)) - 1)) 64)) ≤ 140737488355328 then
  (seqJ
    (bif ((Int.tmod p0 64) != 0) then
      (if (Int.tmod p0 64) < 0 then none else
        (if 0 ≤ (IntKind.wrap .i64 ((((Int.toNat (IntKind.wrap .i64 (Int.tdiv (IntKind.wrap .i64 ((IntKind.wrap .i64 (p0 + 64)) - 1)) 64))) : Nat) : Int) - 1)) ∧ (IntKind.wrap .i64 ((((Int.toNat (IntKind.wrap .i64 (Int.tdiv (IntKind.wrap .i64 ((IntKind.wrap .i64 (p0 + 64)) - 1)) 64))) : Nat) : Int) - 1)) < ((Int.toNat (IntKind.wrap .i64 (Int.tdiv (IntKind.wrap .i64 ((IntKind.wrap .i64 (p0 + 64)) - 1)) 64))) : Nat) then
          ((((μ.bump 6).set (μ.next + 4) (rowObj (zerosA [.int .u64 0] (Int.toNat (IntKind.wrap .i64 (Int.tdiv (IntKind.wrap .i64 ((IntKind.wrap .i64 (p0 + 64)) - 1)) 64)))) 1 78 (some (Int.toNat (IntKind.wrap .i64 (Int.tdiv (IntKind.wrap .i64 ((IntKind.wrap .i64 (p0 + 64)) - 1)) 64)))))).store (μ.next + 4) 0 (0 + Int.toNat (IntKind.wrap .i64 ((((Int.toNat (IntKind.wrap .i64 (Int.tdiv (IntKind.wrap .i64 ((IntKind.wrap .i64 (p0 + 64)) - 1)) 64))) : Nat) : Int) - 1)) * 1) [.int .u64 (IntKind.wrap .u64 (18446744073709551615 * 2 ^ (min (Int.toNat (Int.tmod p0 64)) (IntKind.bits .u64))))]).bind fun m1 =>
            some (.normal, [], m1)) else none))
      else
      (some (.normal, [], ((μ.bump 6).set (μ.next + 4) (rowObj (zerosA [.int .u64 0] (Int.toNat (IntKind.wrap .i64 (Int.tdiv (IntKind.wrap .i64 ((IntKind.wrap .i64 (p0 + 64)) - 1)) 64)))) 1 78 (some (Int.toNat (IntKind.wrap .i64 (Int.tdiv (IntKind.wrap .i64 ((IntKind.wrap .i64 (p0 + 64)) - 1)) 64)))))))))
    (fun vs2 m3 =>
      some (.s (.slice (μ.next + 4) 0 0 (Int.toNat (IntKind.wrap .i64 (Int.tdiv (IntKind.wrap .i64 ((IntKind.wrap .i64 (p0 + 64)) - 1)) 64)))), m3))
    (fun vs4 m5 =>
      headK vs4 fun a9 r10 =>
      asS a9 fun x11 =>
      some (.s x11, m5))
    (fun d8 vs6 m7 =>
      none)) else none := by kernel_rfl

/-! ### overdub/bitmap.New -/
noncomputable def G47 : FuncId → FunA := fun g => bif Nat.beq g 52 then bitmap_ones else fun _ _ => none
theorem G47_52 : G47 52 = bitmap_ones := by kernel_rfl
def A47 : Ann := .two (.leaf) (.two (.join [(11, .b)] [0] [] (.leaf) (.two (.two (.leaf) (.leaf)) (.leaf))) (.two (.leaf) (.two (.leaf) (.join [(2, .s), (3, .i .i64)] [] [] (.loop [(5, .i .i64)] [4] [] (.two (.join [(4, .s)] [] [] (.two (.ord [0, 1, 2, 3, 4, 5, 6, 7, 8, 9, 10, 11]) (.two (.leaf) (.two (.two (.leaf) (.leaf)) (.leaf)))) .leaf) (.ord [0, 1, 2, 3, 4, 5, 6, 7, 8, 9, 10, 11, 12, 13]))) .leaf))))
def R47 : Slots := [(2, .s), (3, .i .i64)]
noncomputable def bitmap_New : FunA := denF Try.prog G47 Try.f47 A47 R47
noncomputable def bitmap_New_L1_B (os vs : List AV) (μ : AMem) : Option Res := joinK [(5, .i .i64)] vs (envO [4] os) fun e => den Try.prog G47 Try.f47.ntmps (cL (cL (cR (cR (cR (cR (bodyOf Try.f47))))))) (aL (aL (aR (aR (aR (aR A47)))))) { ret := R47, exits := [(0, [(2, .s), (3, .i .i64)])] } Res e μ fun ex e μ => some (ex, valsOf (Lv.at { ret := R47, exits := [(0, [(2, .s), (3, .i .i64)])] } [(5, .i .i64)] ex) e, μ)
noncomputable def bitmap_New_L1 (os vs : List AV) (μ : AMem) : Option Res := loopA (bitmap_New_L1_B os) vs μ
theorem bitmap_New_L1_B_eq (s4 t4 u4 : Nat) (s5 : Int) (μ : AMem) : bitmap_New_L1_B [.s (.ptr s4 t4 u4)] [.s (.int .i64 s5)] μ =
  ((μ.bump 12).cell s4 t4 (u4 + 1)).bind fun x28 =>
  (bitmap_ones [.s (.int .i64 s5)] (μ.bump 12)).bind fun r29 =>
  asS r29.1 fun x30 =>
  checkA (((r29.2.cell s4 t4 (u4 + 1)).bind fun x => some (AV.s x)) = some (.s x28))
  (checkA (r29.2.obj (μ.next + 7) = none)
    (appendA 79 1 24 (μ.next + 8) (r29.2.set (μ.next + 7) (rowObj [x30] 1 79 (some 1))) (.s x28) (.s (.slice (μ.next + 7) 0 0 1)) fun x31 m32 =>
      asS x31 fun x33 =>
      (m32.store s4 t4 (u4 + 1) [x33]).bind fun m34 =>
      bif decide (s5 ≤ 64) then
      (some (.ret, [.s (.ptr s4 t4 u4), .s (.int .i64 0)], m34))
      else
      ((m34.cell s4 t4 (u4 + 1)).bind fun x35 =>
        (m34.cell s4 t4 (u4 + 1)).bind fun x36 =>
        (lenS (.s x36)).bind fun l37 =>
        indS 1 (.s x35) (IntKind.wrap .i64 (((l37 : Nat) : Int) - 1)) fun p38 =>
        loadAt m34 p38 fun v39 =>
        asS v39 fun x40 =>
        (lenS (.s x40)).bind fun l41 =>
        some (.normal, [.s (.int .i64 ((l41 : Nat) : Int))], m34)))) := by rw [← G47_52]; kernel_rfl
theorem bitmap_New_L1_eq (os vs : List AV) (μ : AMem) : bitmap_New_L1 os vs μ = (bitmap_New_L1_B os vs μ).bind fun r => match r.1 with | .normal => bitmap_New_L1 os r.2.1 r.2.2 | _ => some r := loopA_eq _ _ _
theorem bitmap_New_eq (p0 : Int) (μ : AMem) : bitmap_New [.s (.int .i64 p0)] μ =
  seqJ
  (bif !(decide (p0 < 1)) then
    (some (.normal, [.s (.bool (decide (p0 > 4096)))], μ))
    else
    (some (.normal, [.s (.bool true)], μ)))
  (fun vs1 m2 =>
    headK vs1 fun a3 r4 =>
    asB a3 fun b5 =>
    bif b5 then
    (some (.tuple [.s .nilPtr, .s (.int .i64 1)], m2))
    else
    (seqJ (bitmap_New_L1 [.s (.ptr (m2.next + 2) 0 0)] [.s (.int .i64 p0)] ((m2.bump 4).set (m2.next + 2) (rowObj [.int .i64 p0, .nilSlice] 2 77 (some 1))))
      (fun _ _ => none)
      (fun vs6 m7 =>
        headK vs6 fun a11 r12 =>
        asS a11 fun x13 =>
        headK r12 fun a14 r15 =>
        asI .i64 a14 fun n16 =>
        some (.tuple [.s x13, .s (.int .i64 n16)], m7))
      (fun d10 vs8 m9 =>
        none)))
  (fun vs17 m18 =>
    headK vs17 fun a22 r23 =>
    asS a22 fun x24 =>
    headK r23 fun a25 r26 =>
    asI .i64 a25 fun n27 =>
    some (.tuple [.s x24, .s (.int .i64 n27)], m18))
  (fun d21 vs19 m20 =>
    none) := by kernel_rfl

/-! ### overdub/refs.New -/
noncomputable def G48 : FuncId → FunA := fun _ _ _ => none
def A48 : Ann := .two (.leaf) (.two (.join [(9, .b)] [0] [] (.leaf) (.two (.two (.leaf) (.leaf)) (.leaf))) (.two (.leaf) (.leaf)))
def R48 : Slots := [(2, .s), (3, .i .i64)]
noncomputable def refs_New : FunA := denF Try.prog G48 Try.f48 A48 R48
theorem refs_New_eq (p0 : Int) (μ : AMem) : refs_New [.s (.int .i64 p0)] μ =
  seqJ
  (bif !(decide (p0 < 1)) then
    (some (.normal, [.s (.bool (decide (p0 > 4096)))], μ))
    else
    (some (.normal, [.s (.bool true)], μ)))
  (fun vs1 m2 =>
    headK vs1 fun a3 r4 =>
    asB a3 fun b5 =>
    bif b5 then
    (some (.tuple [.s .nilPtr, .s (.int .i64 1)], m2))
    else
    (if 0 ≤ p0 ∧ p0 ≤ p0 ∧ p0 ≤ 9223372036854775807 ∧ (8 : Nat) * p0 ≤ 140737488355328 then
      (some (.tuple [.s (.ptr (m2.next + 3) 0 0), .s (.int .i64 0)], (((m2.bump 6).set (m2.next + 1) (rowObj (zerosA [.int .i64 0] (Int.toNat p0)) 1 3 (some (Int.toNat p0)))).set (m2.next + 3) (rowObj [.slice (m2.next + 1) 0 0 (Int.toNat p0)] 1 74 (some 1))))) else none))
  (fun vs6 m7 =>
    headK vs6 fun a11 r12 =>
    asS a11 fun x13 =>
    headK r12 fun a14 r15 =>
    asI .i64 a14 fun n16 =>
    some (.tuple [.s x13, .s (.int .i64 n16)], m7))
  (fun d10 vs8 m9 =>
    none) := by kernel_rfl

/-! ### (*overdub/bitmap.Map).may -/
noncomputable def G49 : FuncId → FunA := fun _ _ _ => none
def A49 : Ann := .two (.leaf) (.two (.leaf) (.leaf))
def R49 : Slots := [(4, .b)]
noncomputable def bitmap_Map_may : FunA := denF Try.prog G49 Try.f49 A49 R49
theorem bitmap_Map_may_eq (p0 q0 o0 : Nat) (p1 : Int) (μ : AMem) : bitmap_Map_may [.s (.ptr p0 q0 o0), .s (.int .i64 p1)] μ =
  bif decide (p1 ≥ 0) then
  ((μ.cell p0 q0 (o0 + 0)).bind fun x1 =>
    asI .i64 (.s x1) fun n2 =>
    some (.s (.bool (decide (p1 < n2))), μ))
  else
  (some (.s (.bool false), μ)) := by kernel_rfl

/-! ### (*overdub/bitmap.Map).Used -/
noncomputable def G32 : FuncId → FunA := fun g => bif Nat.beq g 49 then bitmap_Map_may else fun _ _ => none
theorem G32_49 : G32 49 = bitmap_Map_may := by kernel_rfl
def A32 : Ann := .two (.leaf) (.two (.leaf) (.leaf))
def R32 : Slots := [(4, .b)]
noncomputable def bitmap_Map_Used : FunA := denF Try.prog G32 Try.f32 A32 R32
theorem bitmap_Map_Used_eq (p0 q0 o0 : Nat) (p1 : Int) (μ : AMem) : bitmap_Map_Used [.s (.ptr p0 q0 o0), .s (.int .i64 p1)] μ =
  (bitmap_Map_may [.s (.ptr p0 q0 o0), .s (.int .i64 p1)] μ).bind fun r1 =>
  asB r1.1 fun b2 =>
  bif !(!b2) then
  ((r1.2.cell p0 q0 (o0 + 1)).bind fun x3 =>
    indS 1 (.s x3) 0 fun p4 =>
    loadAt r1.2 p4 fun v5 =>
    asS v5 fun x6 =>
    indS 1 (.s x6) (IntKind.wrap .i64 (Int.tdiv p1 64)) fun p7 =>
    loadAt r1.2 p7 fun v8 =>
    asI .u64 v8 fun n9 =>
    if (Int.tmod p1 64) < 0 then none else
    (some (.s (.bool ((IntKind.wrap .u64 (BitVec.toNat ((BitVec.ofInt (IntKind.bits .u64) (Int.fdiv n9 (2 ^ (min (Int.toNat (Int.tmod p1 64)) (IntKind.bits .u64))))) &&& (BitVec.ofInt (IntKind.bits .u64) 1)))) == 1)), r1.2)))
  else
  (some (.s (.bool true), r1.2)) := by rw [← G32_49]; kernel_rfl

/-! ### (*overdub/bitmap.Map).Set -/
noncomputable def G28 : FuncId → FunA := fun g => bif Nat.beq g 49 then bitmap_Map_may else bif Nat.beq g 32 then bitmap_Map_Used else fun _ _ => none
theorem G28_49 : G28 49 = bitmap_Map_may := by kernel_rfl
theorem G28_32 : G28 32 = bitmap_Map_Used := by kernel_rfl
def A28 : Ann := .two (.leaf) (.two (.join [(19, .b)] [0, 1, 2] [] (.leaf) (.two (.two (.leaf) (.leaf)) (.leaf))) (.two (.two (.leaf) (.join [] [] [] (.loop [(1, .i .i64), (2, .b), (25, .i .i64)] [0, 24] [0] (.two (.leaf) (.two (.two (.leaf) (.leaf)) (.two (.join [(0, .s), (1, .i .i64), (2, .b), (24, .i .i64), (25, .i .i64)] [] [] (.two (.leaf) (.two (.leaf) (.join [] [0, 1, 7, 24, 25] [] (.two (.leaf) (.two (.leaf) (.leaf))) (.two (.leaf) (.leaf))))) .leaf) (.leaf))))) .leaf)) (.two (.leaf) (.leaf))))
def R28 : Slots := [(6, .b)]
noncomputable def bitmap_Map_Set : FunA := denF Try.prog G28 Try.f28 A28 R28
noncomputable def bitmap_Map_Set_L1_B (os vs : List AV) (μ : AMem) : Option Res := joinK [(1, .i .i64), (2, .b), (25, .i .i64)] vs (envO [0, 24] os) fun e => den Try.prog G28 Try.f28.ntmps (cL (cL (cR (cL (cR (cR (bodyOf Try.f28))))))) (aL (aL (aR (aL (aR (aR A28)))))) { ret := R28, exits := [(0, [])] } Res e μ fun ex e μ => some (ex, valsOf (Lv.at { ret := R28, exits := [(0, [])] } [(1, .i .i64), (2, .b), (25, .i .i64)] ex) e, μ)
noncomputable def bitmap_Map_Set_L1 (os vs : List AV) (μ : AMem) : Option Res := loopA (bitmap_Map_Set_L1_B os) vs μ
theorem bitmap_Map_Set_L1_B_eq (s0 t0 u0 : Nat) (s24 : Int) (s1 : Int) (s2 : Bool) (s25 : Int) (μ : AMem) : bitmap_Map_Set_L1_B [.s (.ptr s0 t0 u0), .s (.int .i64 s24)] [.s (.int .i64 s1), .s (.bool s2), .s (.int .i64 s25)] μ =
  bif decide (s25 < s24) then
  (if (Int.tmod s1 64) < 0 then none else
    (seqJ
      (bif s2 then
        ((μ.cell s0 t0 (u0 + 1)).bind fun x28 =>
          indS 1 (.s x28) s25 fun p29 =>
          loadAt μ p29 fun v30 =>
          asS v30 fun x31 =>
          indS 1 (.s x31) (IntKind.wrap .i64 (Int.tdiv s1 64)) fun p32 =>
          loadAt μ p32 fun v33 =>
          asI .u64 v33 fun n34 =>
          indS 1 (.s x31) (IntKind.wrap .i64 (Int.tdiv s1 64)) fun p35 =>
          storeAt 1 μ p35 (.s (.int .u64 (IntKind.wrap .u64 (BitVec.toNat ((BitVec.ofInt (IntKind.bits .u64) n34) ||| (BitVec.ofInt (IntKind.bits .u64) (IntKind.wrap .u64 (1 * 2 ^ (min (Int.toNat (Int.tmod s1 64)) (IntKind.bits .u64)))))))))) fun m36 =>
          some (.normal, [], m36))
        else
        ((μ.cell s0 t0 (u0 + 1)).bind fun x37 =>
          indS 1 (.s x37) s25 fun p38 =>
          loadAt μ p38 fun v39 =>
          asS v39 fun x40 =>
          indS 1 (.s x40) (IntKind.wrap .i64 (Int.tdiv s1 64)) fun p41 =>
          loadAt μ p41 fun v42 =>
          asI .u64 v42 fun n43 =>
          indS 1 (.s x40) (IntKind.wrap .i64 (Int.tdiv s1 64)) fun p44 =>
          storeAt 1 μ p44 (.s (.int .u64 (IntKind.wrap .u64 (BitVec.toNat ((BitVec.ofInt (IntKind.bits .u64) n43) &&& ~~~ (BitVec.ofInt (IntKind.bits .u64) (IntKind.wrap .u64 (1 * 2 ^ (min (Int.toNat (Int.tmod s1 64)) (IntKind.bits .u64)))))))))) fun m45 =>
          some (.normal, [], m45)))
      (fun vs46 m47 =>
        (m47.cell s0 t0 (u0 + 1)).bind fun x48 =>
        indS 1 (.s x48) s25 fun p49 =>
        loadAt m47 p49 fun v50 =>
        asS v50 fun x51 =>
        indS 1 (.s x51) (IntKind.wrap .i64 (Int.tdiv s1 64)) fun p52 =>
        loadAt m47 p52 fun v53 =>
        asI .u64 v53 fun n54 =>
        some (.normal, [.s (.int .i64 (IntKind.wrap .i64 (Int.tdiv s1 64))), .s (.bool (n54 == 18446744073709551615)), .s (.int .i64 (IntKind.wrap .i64 (s25 + 1)))], m47))
      (fun vs55 m56 =>
        headK vs55 fun a60 r61 =>
        asB a60 fun b62 =>
        some (.ret, [.s (.bool b62)], m56))
      (fun d59 vs57 m58 =>
        none)))
  else
  (some (.exit 0, [], μ)) := by kernel_rfl
theorem bitmap_Map_Set_L1_eq (os vs : List AV) (μ : AMem) : bitmap_Map_Set_L1 os vs μ = (bitmap_Map_Set_L1_B os vs μ).bind fun r => match r.1 with | .normal => bitmap_Map_Set_L1 os r.2.1 r.2.2 | _ => some r := loopA_eq _ _ _
theorem bitmap_Map_Set_eq (p0 q0 o0 : Nat) (p1 : Int) (p2 : Bool) (μ : AMem) : bitmap_Map_Set [.s (.ptr p0 q0 o0), .s (.int .i64 p1), .s (.bool p2)] μ =
  seqJ
  ((bitmap_Map_may [.s (.ptr p0 q0 o0), .s (.int .i64 p1)] μ).bind fun r1 =>
    asB r1.1 fun b2 =>
    bif !(!b2) then
    ((bitmap_Map_Used [.s (.ptr p0 q0 o0), .s (.int .i64 p1)] r1.2).bind fun r3 =>
      asB r3.1 fun b4 =>
      some (.normal, [.s (.bool (b4 == p2))], r3.2))
    else
    (some (.normal, [.s (.bool true)], r1.2)))
  (fun vs5 m6 =>
    headK vs5 fun a7 r8 =>
    asB a7 fun b9 =>
    bif b9 then
    (some (.s (.bool false), m6))
    else
    ((m6.cell p0 q0 (o0 + 1)).bind fun x10 =>
      (lenS (.s x10)).bind fun l11 =>
      seqJ (bitmap_Map_Set_L1 [.s (.ptr p0 q0 o0), .s (.int .i64 ((l11 : Nat) : Int))] [.s (.int .i64 p1), .s (.bool p2), .s (.int .i64 0)] m6)
      (fun _ _ => none)
      (fun vs12 m13 =>
        headK vs12 fun a17 r18 =>
        asB a17 fun b19 =>
        some (.s (.bool b19), m13))
      (fun d16 vs14 m15 =>
        bif Nat.beq 0 d16 then (some (.s (.bool true), m15)) else (none))))
  (fun vs20 m21 =>
    headK vs20 fun a25 r26 =>
    asB a25 fun b27 =>
    some (.s (.bool b27), m21))
  (fun d24 vs22 m23 =>
    none) := by rw [← G28_49, ← G28_32]; kernel_rfl

/-! ### overdub/space.fresh -/
noncomputable def G26 : FuncId → FunA := fun g => bif Nat.beq g 47 then bitmap_New else bif Nat.beq g 48 then refs_New else bif Nat.beq g 28 then bitmap_Map_Set else fun _ _ => none
theorem G26_47 : G26 47 = bitmap_New := by kernel_rfl
theorem G26_48 : G26 48 = refs_New := by kernel_rfl
theorem G26_28 : G26 28 = bitmap_Map_Set := by kernel_rfl
def A26 : Ann := .two (.leaf) (.two (.leaf) (.two (.leaf) (.two (.two (.leaf) (.join [(6, .s), (8, .s)] [] [] (.loop [(22, .i .i64)] [6, 8, 21] [0] (.two (.leaf) (.two (.two (.leaf) (.leaf)) (.two (.join [(6, .s), (8, .s), (21, .i .i64), (22, .i .i64)] [] [] (.two (.leaf) (.leaf)) .leaf) (.leaf))))) .leaf)) (.two (.leaf) (.leaf)))))
def R26 : Slots := [(4, .s), (5, .s)]
noncomputable def space_fresh : FunA := denF Try.prog G26 Try.f26 A26 R26
noncomputable def space_fresh_L1_B (os vs : List AV) (μ : AMem) : Option Res := joinK [(22, .i .i64)] vs (envO [6, 8, 21] os) fun e => den Try.prog G26 Try.f26.ntmps (cL (cL (cR (cL (cR (cR (cR (bodyOf Try.f26)))))))) (aL (aL (aR (aL (aR (aR (aR A26))))))) { ret := R26, exits := [(0, [(6, .s), (8, .s)])] } Res e μ fun ex e μ => some (ex, valsOf (Lv.at { ret := R26, exits := [(0, [(6, .s), (8, .s)])] } [(22, .i .i64)] ex) e, μ)
noncomputable def space_fresh_L1 (os vs : List AV) (μ : AMem) : Option Res := loopA (space_fresh_L1_B os) vs μ
theorem space_fresh_L1_B_eq (s6 : SV) (s8 : SV) (s21 : Int) (s22 : Int) (μ : AMem) : space_fresh_L1_B [.s s6, .s s8, .s (.int .i64 s21)] [.s (.int .i64 s22)] μ =
  bif decide (s22 < s21) then
  ((bitmap_Map_Set [.s s6, .s (.int .i64 s22), .s (.bool true)] μ).bind fun r28 =>
    asB r28.1 fun b29 =>
    some (.normal, [.s (.int .i64 (IntKind.wrap .i64 (s22 + 1)))], r28.2))
  else
  (some (.exit 0, [.s s6, .s s8], μ)) := by rw [← G26_28]; kernel_rfl
theorem space_fresh_L1_eq (os vs : List AV) (μ : AMem) : space_fresh_L1 os vs μ = (space_fresh_L1_B os vs μ).bind fun r => match r.1 with | .normal => space_fresh_L1 os r.2.1 r.2.2 | _ => some r := loopA_eq _ _ _
theorem space_fresh_eq (p0 : Int) (p1 : Int) (μ : AMem) : space_fresh [.s (.int .i64 p0), .s (.int .i64 p1)] μ =
  (bitmap_New [.s (.int .i64 p0)] μ).bind fun r1 =>
  extrK 0 r1.1 fun t2 =>
  asS t2 fun x3 =>
  extrK 1 r1.1 fun t4 =>
  asI .i64 t4 fun n5 =>
  (refs_New [.s (.int .i64 p0)] r1.2).bind fun r6 =>
  extrK 0 r6.1 fun t7 =>
  asS t7 fun x8 =>
  extrK 1 r6.1 fun t9 =>
  asI .i64 t9 fun n10 =>
  seqJ (space_fresh_L1 [.s x3, .s x8, .s (.int .i64 p1)] [.s (.int .i64 0)] r6.2)
  (fun _ _ => none)
  (fun vs11 m12 =>
    headK vs11 fun a16 r17 =>
    asS a16 fun x18 =>
    headK r17 fun a19 r20 =>
    asS a19 fun x21 =>
    some (.tuple [.s x18, .s x21], m12))
  (fun d15 vs13 m14 =>
    bif Nat.beq 0 d15 then (headK vs13 fun a22 r23 =>
      asS a22 fun x24 =>
      headK r23 fun a25 r26 =>
      asS a25 fun x27 =>
      some (.tuple [.s x24, .s x27], m14)) else (none)) := by rw [← G26_47, ← G26_48]; kernel_rfl

/-! ### overdub/space.New -/
noncomputable def G9 : FuncId → FunA := fun g => bif Nat.beq g 26 then space_fresh else fun _ _ => none
theorem G9_26 : G9 26 = space_fresh := by kernel_rfl
def A9 : Ann := .two (.leaf) (.two (.join [(21, .b)] [0, 1] [] (.leaf) (.two (.two (.leaf) (.leaf)) (.leaf))) (.two (.leaf) (.two (.leaf) (.two (.leaf) (.leaf)))))
def R9 : Slots := [(4, .s), (5, .i .i64)]
noncomputable def space_New : FunA := denF Try.prog G9 Try.f9 A9 R9
theorem space_New_eq (p0 : Int) (p1 : Int) (μ : AMem) : space_New [.s (.int .i64 p0), .s (.int .i64 p1)] μ =
  seqJ
  (bif !(decide (p0 < 1)) then
    (bif !(decide (p0 > 4096)) then
      (bif !(decide (p1 < 0)) then
        (some (.normal, [.s (.bool (decide (p1 > p0)))], μ))
        else
        (some (.normal, [.s (.bool true)], μ)))
      else
      (some (.normal, [.s (.bool true)], μ)))
    else
    (some (.normal, [.s (.bool true)], μ)))
  (fun vs1 m2 =>
    headK vs1 fun a3 r4 =>
    asB a3 fun b5 =>
    bif b5 then
    (some (.tuple [.s .nilPtr, .s (.int .i64 1)], m2))
    else
    ((space_fresh [.s (.int .i64 p0), .s (.int .i64 p1)] ((m2.bump 4).set (m2.next + 2) (rowObj [.int .i64 p1, .nilPtr, .nilPtr, .nilSlice] 4 54 (some 1)))).bind fun r6 =>
      extrK 0 r6.1 fun t7 =>
      asS t7 fun x8 =>
      extrK 1 r6.1 fun t9 =>
      asS t9 fun x10 =>
      (r6.2.store (m2.next + 2) 0 (0 + 1) [x8]).bind fun m11 =>
      (m11.store (m2.next + 2) 0 (0 + 2) [x10]).bind fun m12 =>
      some (.tuple [.s (.ptr (m2.next + 2) 0 0), .s (.int .i64 0)], m12)))
  (fun vs13 m14 =>
    headK vs13 fun a18 r19 =>
    asS a18 fun x20 =>
    headK r19 fun a21 r22 =>
    asI .i64 a21 fun n23 =>
    some (.tuple [.s x20, .s (.int .i64 n23)], m14))
  (fun d17 vs15 m16 =>
    none) := by rw [← G9_26]; kernel_rfl

/-! ### (*overdub/refs.Table).may -/
noncomputable def G51 : FuncId → FunA := fun _ _ _ => none
def A51 : Ann := .two (.leaf) (.two (.leaf) (.leaf))
def R51 : Slots := [(4, .b)]
noncomputable def refs_Table_may : FunA := denF Try.prog G51 Try.f51 A51 R51
theorem refs_Table_may_eq (p0 q0 o0 : Nat) (p1 : Int) (μ : AMem) : refs_Table_may [.s (.ptr p0 q0 o0), .s (.int .i64 p1)] μ =
  bif decide (p1 ≥ 0) then
  ((μ.cell p0 q0 (o0 + 0)).bind fun x1 =>
    (lenS (.s x1)).bind fun l2 =>
    some (.s (.bool (decide (p1 < ((l2 : Nat) : Int)))), μ))
  else
  (some (.s (.bool false), μ)) := by kernel_rfl

/-! ### (*overdub/refs.Table).Of -/
noncomputable def G31 : FuncId → FunA := fun g => bif Nat.beq g 51 then refs_Table_may else fun _ _ => none
theorem G31_51 : G31 51 = refs_Table_may := by kernel_rfl
def A31 : Ann := .two (.leaf) (.two (.two (.leaf) (.two (.two (.leaf) (.leaf)) (.leaf))) (.two (.leaf) (.leaf)))
def R31 : Slots := [(4, .i .i64)]
noncomputable def refs_Table_Of : FunA := denF Try.prog G31 Try.f31 A31 R31
theorem refs_Table_Of_eq (p0 q0 o0 : Nat) (p1 : Int) (μ : AMem) : refs_Table_Of [.s (.ptr p0 q0 o0), .s (.int .i64 p1)] μ =
  (refs_Table_may [.s (.ptr p0 q0 o0), .s (.int .i64 p1)] μ).bind fun r1 =>
  asB r1.1 fun b2 =>
  bif (!b2) then
  (some (.s (.int .i64 0), r1.2))
  else
  ((r1.2.cell p0 q0 (o0 + 0)).bind fun x3 =>
    indS 1 (.s x3) p1 fun p4 =>
    loadAt r1.2 p4 fun v5 =>
    asI .i64 v5 fun n6 =>
    some (.s (.int .i64 n6), r1.2)) := by rw [← G31_51]; kernel_rfl

/-! ### (*overdub/refs.Table).Drop -/
noncomputable def G27 : FuncId → FunA := fun g => bif Nat.beq g 31 then refs_Table_Of else fun _ _ => none
theorem G27_31 : G27 31 = refs_Table_Of := by kernel_rfl
def A27 : Ann := .two (.leaf) (.two (.two (.leaf) (.two (.two (.leaf) (.leaf)) (.leaf))) (.two (.leaf) (.two (.leaf) (.leaf))))
def R27 : Slots := [(4, .i .i64), (5, .b)]
noncomputable def refs_Table_Drop : FunA := denF Try.prog G27 Try.f27 A27 R27
theorem refs_Table_Drop_eq (p0 q0 o0 : Nat) (p1 : Int) (μ : AMem) : refs_Table_Drop [.s (.ptr p0 q0 o0), .s (.int .i64 p1)] μ =
  (refs_Table_Of [.s (.ptr p0 q0 o0), .s (.int .i64 p1)] μ).bind fun r1 =>
  asI .i64 r1.1 fun n2 =>
  bif (n2 == 0) then
  (some (.tuple [.s (.int .i64 0), .s (.bool false)], r1.2))
  else
  ((r1.2.cell p0 q0 (o0 + 0)).bind fun x3 =>
    indS 1 (.s x3) p1 fun p4 =>
    loadAt r1.2 p4 fun v5 =>
    asI .i64 v5 fun n6 =>
    indS 1 (.s x3) p1 fun p7 =>
    storeAt 1 r1.2 p7 (.s (.int .i64 (IntKind.wrap .i64 (n6 - 1)))) fun m8 =>
    (m8.cell p0 q0 (o0 + 0)).bind fun x9 =>
    indS 1 (.s x9) p1 fun p10 =>
    loadAt m8 p10 fun v11 =>
    asI .i64 v11 fun n12 =>
    some (.tuple [.s (.int .i64 n12), .s (.bool true)], m8)) := by rw [← G27_31]; kernel_rfl

/-! ### (*overdub/space.Space).Drop -/
noncomputable def G10 : FuncId → FunA := fun g => bif Nat.beq g 27 then refs_Table_Drop else fun _ _ => none
theorem G10_27 : G10 27 = refs_Table_Drop := by kernel_rfl
def A10 : Ann := .two (.leaf) (.two (.leaf) (.join [] [6] [] (.join [(21, .b)] [0, 1, 6] [] (.leaf) (.two (.two (.leaf) (.two (.join [(0, .s), (1, .i .i64), (6, .b), (7, .i .i64)] [] [] (.loop [(7, .i .i64)] [0, 1, 6] [0] (.two (.join [(40, .b)] [0, 1, 6, 7] [] (.leaf) (.two (.leaf) (.leaf))) (.join [(0, .s), (1, .i .i64), (6, .b), (7, .i .i64)] [] [] (.leaf) .leaf))) .leaf) (.ord [0, 1, 2, 3, 4, 5, 6, 7, 9, 10, 11, 12, 8, 13, 14, 15, 16, 17, 18, 19]))) (.leaf))) (.two (.leaf) (.leaf))))
def R10 : Slots := [(4, .b)]
noncomputable def space_Space_Drop : FunA := denF Try.prog G10 Try.f10 A10 R10
noncomputable def space_Space_Drop_L1_B (os vs : List AV) (μ : AMem) : Option Res := joinK [(7, .i .i64)] vs (envO [0, 1, 6] os) fun e => den Try.prog G10 Try.f10.ntmps (cL (cL (cL (cR (cL (cR (cL (cR (cR (bodyOf Try.f10)))))))))) (aL (aL (aL (aR (aL (aR (aL (aR (aR A10))))))))) { ret := R10, exits := [(0, [(0, .s), (1, .i .i64), (6, .b), (7, .i .i64)])] } Res e μ fun ex e μ => some (ex, valsOf (Lv.at { ret := R10, exits := [(0, [(0, .s), (1, .i .i64), (6, .b), (7, .i .i64)])] } [(7, .i .i64)] ex) e, μ)
noncomputable def space_Space_Drop_L1 (os vs : List AV) (μ : AMem) : Option Res := loopA (space_Space_Drop_L1_B os) vs μ
theorem space_Space_Drop_L1_B_eq (s0 t0 u0 : Nat) (s1 : Int) (s6 : Bool) (s7 : Int) (μ : AMem) : space_Space_Drop_L1_B [.s (.ptr s0 t0 u0), .s (.int .i64 s1), .s (.bool s6)] [.s (.int .i64 s7)] μ =
  seqJ
  (bif decide (s7 > 0) then
    ((μ.cell s0 t0 (u0 + 3)).bind fun x69 =>
      indS 1 (.s x69) (IntKind.wrap .i64 (s7 - 1)) fun p70 =>
      loadAt μ p70 fun v71 =>
      asI .i64 v71 fun n72 =>
      some (.normal, [.s (.bool (decide (n72 > s1)))], μ))
    else
    (some (.normal, [.s (.bool false)], μ)))
  (fun vs73 m74 =>
    headK vs73 fun a75 r76 =>
    asB a75 fun b77 =>
    bif b77 then
    (some (.normal, [.s (.int .i64 (IntKind.wrap .i64 (s7 - 1)))], m74))
    else
    (some (.exit 0, [.s (.ptr s0 t0 u0), .s (.int .i64 s1), .s (.bool s6), .s (.int .i64 s7)], m74)))
  (fun vs78 m79 =>
    headK vs78 fun a83 r84 =>
    asB a83 fun b85 =>
    some (.ret, [.s (.bool b85)], m79))
  (fun d82 vs80 m81 =>
    none) := by kernel_rfl
theorem space_Space_Drop_L1_eq (os vs : List AV) (μ : AMem) : space_Space_Drop_L1 os vs μ = (space_Space_Drop_L1_B os vs μ).bind fun r => match r.1 with | .normal => space_Space_Drop_L1 os r.2.1 r.2.2 | _ => some r := loopA_eq _ _ _
theorem space_Space_Drop_eq (p0 q0 o0 : Nat) (p1 : Int) (μ : AMem) : space_Space_Drop [.s (.ptr p0 q0 o0), .s (.int .i64 p1)] μ =
  (μ.cell p0 q0 (o0 + 2)).bind fun x1 =>
  (refs_Table_Drop [.s x1, .s (.int .i64 p1)] μ).bind fun r2 =>
  extrK 0 r2.1 fun t3 =>
  asI .i64 t3 fun n4 =>
  extrK 1 r2.1 fun t5 =>
  asB t5 fun b6 =>
  seqJ
  (seqJ
    (bif b6 then
      (some (.normal, [.s (.bool (n4 == 0))], r2.2))
      else
      (some (.normal, [.s (.bool false)], r2.2)))
    (fun vs7 m8 =>
      headK vs7 fun a9 r10 =>
      asB a9 fun b11 =>
      bif b11 then
      ((m8.cell p0 q0 (o0 + 3)).bind fun x12 =>
        (lenS (.s x12)).bind fun l13 =>
        seqJ (space_Space_Drop_L1 [.s (.ptr p0 q0 o0), .s (.int .i64 p1), .s (.bool b6)] [.s (.int .i64 ((l13 : Nat) : Int))] m8)
        (fun _ _ => none)
        (fun vs14 m15 =>
          headK vs14 fun a19 r20 =>
          asB a19 fun b21 =>
          some (.ret, [.s (.bool b21)], m15))
        (fun d18 vs16 m17 =>
          bif Nat.beq 0 d18 then (headK vs16 fun a22 r23 =>
            asS a22 fun x24 =>
            headK r23 fun a25 r26 =>
            asI .i64 a25 fun n27 =>
            headK r26 fun a28 r29 =>
            asB a28 fun b30 =>
            headK r29 fun a31 r32 =>
            asI .i64 a31 fun n33 =>
            nonNil (.s x24)
            (ptrAdd 3 (.s x24) fun p34 =>
              loadAt (m17.bump 20) p34 fun v35 =>
              asS v35 fun x36 =>
              cutS 1 (.s x36) 0 n33 fun x37 =>
              nonNil (.s x24)
              (ptrAdd 3 (.s x24) fun p38 =>
                loadAt (m17.bump 20) p38 fun v39 =>
                asS v39 fun x40 =>
                checkA ((m17.bump 20).obj (m17.next + 8) = none)
                ((lenS (.s x40)).bind fun l41 =>
                  cutS 1 (.s x40) n33 ((l41 : Nat) : Int) fun x42 =>
                  appendA 3 1 8 (m17.next + 15) ((m17.bump 20).set (m17.next + 8) (rowObj [.int .i64 n27] 1 3 (some 1))) (.s (.slice (m17.next + 8) 0 0 1)) x42 fun x43 m44 =>
                  asS x43 fun x45 =>
                  checkA ((loadAt m44 p34 some) = some (.s x36))
                  (appendA 3 1 8 (m17.next + 16) m44 x37 (.s x45) fun x46 m47 =>
                    asS x46 fun x48 =>
                    nonNil (.s x24)
                    (ptrAdd 3 (.s x24) fun p49 =>
                      storeAt 1 m47 p49 (.s x48) fun m50 =>
                      some (.normal, [], m50))))))) else (none)))
      else
      (some (.normal, [], m8)))
    (fun vs51 m52 =>
      headK vs51 fun a56 r57 =>
      asB a56 fun b58 =>
      some (.ret, [.s (.bool b58)], m52))
    (fun d55 vs53 m54 =>
      none))
  (fun vs59 m60 =>
    some (.s (.bool b6), m60))
  (fun vs61 m62 =>
    headK vs61 fun a66 r67 =>
    asB a66 fun b68 =>
    some (.s (.bool b68), m62))
  (fun d65 vs63 m64 =>
    none) := by rw [← G10_27]; kernel_rfl

/-! ### (*overdub/space.Space).Commit -/
noncomputable def G11 : FuncId → FunA := fun g => bif Nat.beq g 28 then bitmap_Map_Set else fun _ _ => none
theorem G11_28 : G11 28 = bitmap_Map_Set := by kernel_rfl
def A11 : Ann := .two (.leaf) (.two (.two (.leaf) (.join [(0, .s)] [] [] (.loop [(11, .i .i64)] [0, 9, 10] [0] (.two (.leaf) (.two (.two (.leaf) (.leaf)) (.two (.join [(0, .s), (9, .s), (10, .i .i64), (11, .i .i64)] [] [] (.two (.leaf) (.leaf)) .leaf) (.leaf))))) .leaf)) (.two (.leaf) (.two (.leaf) (.two (.leaf) (.leaf)))))
def R11 : Slots := [(2, .i .i64)]
noncomputable def space_Space_Commit : FunA := denF Try.prog G11 Try.f11 A11 R11
noncomputable def space_Space_Commit_L1_B (os vs : List AV) (μ : AMem) : Option Res := joinK [(11, .i .i64)] vs (envO [0, 9, 10] os) fun e => den Try.prog G11 Try.f11.ntmps (cL (cL (cR (cL (cR (bodyOf Try.f11)))))) (aL (aL (aR (aL (aR A11))))) { ret := R11, exits := [(0, [(0, .s)])] } Res e μ fun ex e μ => some (ex, valsOf (Lv.at { ret := R11, exits := [(0, [(0, .s)])] } [(11, .i .i64)] ex) e, μ)
noncomputable def space_Space_Commit_L1 (os vs : List AV) (μ : AMem) : Option Res := loopA (space_Space_Commit_L1_B os) vs μ
theorem space_Space_Commit_L1_B_eq (s0 t0 u0 : Nat) (s9 : SV) (s10 : Int) (s11 : Int) (μ : AMem) : space_Space_Commit_L1_B [.s (.ptr s0 t0 u0), .s s9, .s (.int .i64 s10)] [.s (.int .i64 s11)] μ =
  bif decide (s11 < s10) then
  (indS 1 (.s s9) s11 fun p20 =>
    loadAt μ p20 fun v21 =>
    asI .i64 v21 fun n22 =>
    (μ.cell s0 t0 (u0 + 1)).bind fun x23 =>
    (bitmap_Map_Set [.s x23, .s (.int .i64 n22), .s (.bool false)] μ).bind fun r24 =>
    asB r24.1 fun b25 =>
    some (.normal, [.s (.int .i64 (IntKind.wrap .i64 (s11 + 1)))], r24.2))
  else
  (some (.exit 0, [.s (.ptr s0 t0 u0)], μ)) := by rw [← G11_28]; kernel_rfl
theorem space_Space_Commit_L1_eq (os vs : List AV) (μ : AMem) : space_Space_Commit_L1 os vs μ = (space_Space_Commit_L1_B os vs μ).bind fun r => match r.1 with | .normal => space_Space_Commit_L1 os r.2.1 r.2.2 | _ => some r := loopA_eq _ _ _
theorem space_Space_Commit_eq (p0 q0 o0 : Nat) (μ : AMem) : space_Space_Commit [.s (.ptr p0 q0 o0)] μ =
  (μ.cell p0 q0 (o0 + 3)).bind fun x1 =>
  (lenS (.s x1)).bind fun l2 =>
  seqJ (space_Space_Commit_L1 [.s (.ptr p0 q0 o0), .s x1, .s (.int .i64 ((l2 : Nat) : Int))] [.s (.int .i64 0)] μ)
  (fun _ _ => none)
  (fun vs3 m4 =>
    headK vs3 fun a8 r9 =>
    asI .i64 a8 fun n10 =>
    some (.s (.int .i64 n10), m4))
  (fun d7 vs5 m6 =>
    bif Nat.beq 0 d7 then (headK vs5 fun a11 r12 =>
      asS a11 fun x13 =>
      nonNil (.s x13)
      (ptrAdd 3 (.s x13) fun p14 =>
        loadAt m6 p14 fun v15 =>
        asS v15 fun x16 =>
        (lenS (.s x16)).bind fun l17 =>
        nonNil (.s x13)
        (ptrAdd 3 (.s x13) fun p18 =>
          storeAt 1 m6 p18 (.s .nilSlice) fun m19 =>
          some (.s (.int .i64 ((l17 : Nat) : Int)), m19)))) else (none)) := by kernel_rfl

/-! ### (*overdub/bitmap.Map).First -/
noncomputable def G50 : FuncId → FunA := fun g => bif Nat.beq g 32 then bitmap_Map_Used else fun _ _ => none
theorem G50_32 : G50 32 = bitmap_Map_Used := by kernel_rfl
def A50 : Ann := .two (.leaf) (.two (.two (.leaf) (.join [] [] [] (.loop [(5, .i .i64)] [0] [0] (.two (.two (.leaf) (.two (.leaf) (.leaf))) (.join [(5, .i .i64)] [0] [] (.join [(0, .s), (5, .i .i64)] [] [] (.two (.join [(31, .b)] [0, 5] [] (.leaf) (.two (.two (.leaf) (.leaf)) (.leaf))) (.two (.leaf) (.two (.two (.leaf) (.leaf)) (.leaf)))) .leaf) (.leaf)))) .leaf)) (.two (.leaf) (.leaf)))
def R50 : Slots := [(4, .i .i64)]
noncomputable def bitmap_Map_First : FunA := denF Try.prog G50 Try.f50 A50 R50
noncomputable def bitmap_Map_First_L1_B (os vs : List AV) (μ : AMem) : Option Res := joinK [(5, .i .i64)] vs (envO [0] os) fun e => den Try.prog G50 Try.f50.ntmps (cL (cL (cR (cL (cR (bodyOf Try.f50)))))) (aL (aL (aR (aL (aR A50))))) { ret := R50, exits := [(0, [])] } Res e μ fun ex e μ => some (ex, valsOf (Lv.at { ret := R50, exits := [(0, [])] } [(5, .i .i64)] ex) e, μ)
noncomputable def bitmap_Map_First_L1 (os vs : List AV) (μ : AMem) : Option Res := loopA (bitmap_Map_First_L1_B os) vs μ
theorem bitmap_Map_First_L1_B_eq (s0 t0 u0 : Nat) (s5 : Int) (μ : AMem) : bitmap_Map_First_L1_B [.s (.ptr s0 t0 u0)] [.s (.int .i64 s5)] μ =
  (μ.cell s0 t0 (u0 + 0)).bind fun x9 =>
  asI .i64 (.s x9) fun n10 =>
  bif decide (s5 < n10) then
  (seqJ
    (seqJ
      (bif ((Int.tmod s5 64) == 0) then
        ((μ.cell s0 t0 (u0 + 1)).bind fun x11 =>
          indS 1 (.s x11) 0 fun p12 =>
          loadAt μ p12 fun v13 =>
          asS v13 fun x14 =>
          indS 1 (.s x14) (IntKind.wrap .i64 (Int.tdiv s5 64)) fun p15 =>
          loadAt μ p15 fun v16 =>
          asI .u64 v16 fun n17 =>
          some (.normal, [.s (.bool (n17 == 18446744073709551615))], μ))
        else
        (some (.normal, [.s (.bool false)], μ)))
      (fun vs18 m19 =>
        headK vs18 fun a20 r21 =>
        asB a20 fun b22 =>
        bif b22 then
        (some (.normal, [.s (.int .i64 (IntKind.wrap .i64 ((IntKind.wrap .i64 (s5 + 64)) - 1)))], m19))
        else
        ((bitmap_Map_Used [.s (.ptr s0 t0 u0), .s (.int .i64 s5)] m19).bind fun r23 =>
          asB r23.1 fun b24 =>
          bif (!b24) then
          (some (.ret, [.s (.int .i64 s5)], r23.2))
          else
          (some (.normal, [.s (.int .i64 s5)], r23.2))))
      (fun vs25 m26 =>
        headK vs25 fun a30 r31 =>
        asI .i64 a30 fun n32 =>
        some (.ret, [.s (.int .i64 n32)], m26))
      (fun d29 vs27 m28 =>
        none))
    (fun vs33 m34 =>
      headK vs33 fun a35 r36 =>
      asI .i64 a35 fun n37 =>
      some (.normal, [.s (.int .i64 (IntKind.wrap .i64 (n37 + 1)))], m34))
    (fun vs38 m39 =>
      headK vs38 fun a43 r44 =>
      asI .i64 a43 fun n45 =>
      some (.ret, [.s (.int .i64 n45)], m39))
    (fun d42 vs40 m41 =>
      none))
  else
  (some (.exit 0, [], μ)) := by rw [← G50_32]; kernel_rfl
theorem bitmap_Map_First_L1_eq (os vs : List AV) (μ : AMem) : bitmap_Map_First_L1 os vs μ = (bitmap_Map_First_L1_B os vs μ).bind fun r => match r.1 with | .normal => bitmap_Map_First_L1 os r.2.1 r.2.2 | _ => some r := loopA_eq _ _ _
theorem bitmap_Map_First_eq (p0 q0 o0 : Nat) (p1 : Int) (μ : AMem) : bitmap_Map_First [.s (.ptr p0 q0 o0), .s (.int .i64 p1)] μ =
  seqJ (bitmap_Map_First_L1 [.s (.ptr p0 q0 o0)] [.s (.int .i64 (if p1 > 0 then p1 else 0))] μ)
  (fun _ _ => none)
  (fun vs1 m2 =>
    headK vs1 fun a6 r7 =>
    asI .i64 a6 fun n8 =>
    some (.s (.int .i64 n8), m2))
  (fun d5 vs3 m4 =>
    bif Nat.beq 0 d5 then (some (.s (.int .i64 (-1)), m4)) else (none)) := by kernel_rfl

/-! ### (*overdub/bitmap.Map).Take -/
noncomputable def G29 : FuncId → FunA := fun g => bif Nat.beq g 50 then bitmap_Map_First else bif Nat.beq g 28 then bitmap_Map_Set else fun _ _ => none
theorem G29_50 : G29 50 = bitmap_Map_First := by kernel_rfl
theorem G29_28 : G29 28 = bitmap_Map_Set := by kernel_rfl
def A29 : Ann := .two (.leaf) (.two (.leaf) (.two (.leaf) (.two (.leaf) (.leaf))))
def R29 : Slots := [(2, .i .i64)]
noncomputable def bitmap_Map_Take : FunA := denF Try.prog G29 Try.f29 A29 R29
theorem bitmap_Map_Take_eq (p0 q0 o0 : Nat) (μ : AMem) : bitmap_Map_Take [.s (.ptr p0 q0 o0)] μ =
  (bitmap_Map_First [.s (.ptr p0 q0 o0), .s (.int .i64 0)] μ).bind fun r1 =>
  asI .i64 r1.1 fun n2 =>
  (bitmap_Map_Set [.s (.ptr p0 q0 o0), .s (.int .i64 n2), .s (.bool true)] r1.2).bind fun r3 =>
  asB r3.1 fun b4 =>
  some (.s (.int .i64 n2), r3.2) := by rw [← G29_50, ← G29_28]; kernel_rfl

/-! ### (*overdub/refs.Table).Add -/
noncomputable def G30 : FuncId → FunA := fun g => bif Nat.beq g 51 then refs_Table_may else fun _ _ => none
theorem G30_51 : G30 51 = refs_Table_may := by kernel_rfl
def A30 : Ann := .two (.leaf) (.two (.two (.leaf) (.join [(0, .s), (1, .s)] [] [] (.loop [(11, .i .i64)] [0, 1, 9, 10] [0] (.two (.leaf) (.two (.two (.leaf) (.leaf)) (.two (.join [(0, .s), (1, .s), (9, .s), (10, .i .i64), (11, .i .i64)] [] [] (.two (.leaf) (.two (.leaf) (.two (.two (.leaf) (.leaf)) (.leaf)))) .leaf) (.leaf))))) .leaf)) (.two (.two (.leaf) (.join [] [] [] (.loop [(22, .i .i64)] [0, 20, 21] [2] (.two (.leaf) (.two (.two (.leaf) (.leaf)) (.two (.join [(0, .s), (20, .s), (21, .i .i64), (22, .i .i64)] [] [] (.two (.leaf) (.leaf)) .leaf) (.leaf))))) .leaf)) (.two (.leaf) (.leaf))))
def R30 : Slots := [(4, .b)]
noncomputable def refs_Table_Add : FunA := denF Try.prog G30 Try.f30 A30 R30
noncomputable def refs_Table_Add_L2_B (os vs : List AV) (μ : AMem) : Option Res := joinK [(22, .i .i64)] vs (envO [0, 20, 21] os) fun e => den Try.prog G30 Try.f30.ntmps (cL (cL (cR (cL (cR (cR (bodyOf Try.f30))))))) (aL (aL (aR (aL (aR (aR A30)))))) { ret := R30, exits := [(2, [])] } Res e μ fun ex e μ => some (ex, valsOf (Lv.at { ret := R30, exits := [(2, [])] } [(22, .i .i64)] ex) e, μ)
noncomputable def refs_Table_Add_L2 (os vs : List AV) (μ : AMem) : Option Res := loopA (refs_Table_Add_L2_B os) vs μ
noncomputable def refs_Table_Add_L1_B (os vs : List AV) (μ : AMem) : Option Res := joinK [(11, .i .i64)] vs (envO [0, 1, 9, 10] os) fun e => den Try.prog G30 Try.f30.ntmps (cL (cL (cR (cL (cR (bodyOf Try.f30)))))) (aL (aL (aR (aL (aR A30))))) { ret := R30, exits := [(0, [(0, .s), (1, .s)])] } Res e μ fun ex e μ => some (ex, valsOf (Lv.at { ret := R30, exits := [(0, [(0, .s), (1, .s)])] } [(11, .i .i64)] ex) e, μ)
noncomputable def refs_Table_Add_L1 (os vs : List AV) (μ : AMem) : Option Res := loopA (refs_Table_Add_L1_B os) vs μ
theorem refs_Table_Add_L2_B_eq (s0 : SV) (s20 : SV) (s21 : Int) (s22 : Int) (μ : AMem) : refs_Table_Add_L2_B [.s s0, .s s20, .s (.int .i64 s21)] [.s (.int .i64 s22)] μ =
  bif decide (s22 < s21) then
  (indS 1 (.s s20) s22 fun p30 =>
    loadAt μ p30 fun v31 =>
    asI .i64 v31 fun n32 =>
    nonNil (.s s0)
    (ptrAdd 0 (.s s0) fun p33 =>
      loadAt μ p33 fun v34 =>
      asS v34 fun x35 =>
      indS 1 (.s x35) n32 fun p36 =>
      loadAt μ p36 fun v37 =>
      asI .i64 v37 fun n38 =>
      indS 1 (.s x35) n32 fun p39 =>
      storeAt 1 μ p39 (.s (.int .i64 (IntKind.wrap .i64 (n38 + 1)))) fun m40 =>
      some (.normal, [.s (.int .i64 (IntKind.wrap .i64 (s22 + 1)))], m40)))
  else
  (some (.exit 2, [], μ)) := by kernel_rfl
theorem refs_Table_Add_L2_eq (os vs : List AV) (μ : AMem) : refs_Table_Add_L2 os vs μ = (refs_Table_Add_L2_B os vs μ).bind fun r => match r.1 with | .normal => refs_Table_Add_L2 os r.2.1 r.2.2 | _ => some r := loopA_eq _ _ _
theorem refs_Table_Add_L1_B_eq (s0 t0 u0 : Nat) (s1 : SV) (s9 : SV) (s10 : Int) (s11 : Int) (μ : AMem) : refs_Table_Add_L1_B [.s (.ptr s0 t0 u0), .s s1, .s s9, .s (.int .i64 s10)] [.s (.int .i64 s11)] μ =
  bif decide (s11 < s10) then
  (indS 1 (.s s9) s11 fun p25 =>
    loadAt μ p25 fun v26 =>
    asI .i64 v26 fun n27 =>
    (refs_Table_may [.s (.ptr s0 t0 u0), .s (.int .i64 n27)] μ).bind fun r28 =>
    asB r28.1 fun b29 =>
    bif (!b29) then
    (some (.ret, [.s (.bool false)], r28.2))
    else
    (some (.normal, [.s (.int .i64 (IntKind.wrap .i64 (s11 + 1)))], r28.2)))
  else
  (some (.exit 0, [.s (.ptr s0 t0 u0), .s s1], μ)) := by rw [← G30_51]; kernel_rfl
theorem refs_Table_Add_L1_eq (os vs : List AV) (μ : AMem) : refs_Table_Add_L1 os vs μ = (refs_Table_Add_L1_B os vs μ).bind fun r => match r.1 with | .normal => refs_Table_Add_L1 os r.2.1 r.2.2 | _ => some r := loopA_eq _ _ _
theorem refs_Table_Add_eq (p0 q0 o0 : Nat) (p1 : SV) (μ : AMem) : refs_Table_Add [.s (.ptr p0 q0 o0), .s p1] μ =
  (lenS (.s p1)).bind fun l1 =>
  seqJ (refs_Table_Add_L1 [.s (.ptr p0 q0 o0), .s p1, .s p1, .s (.int .i64 ((l1 : Nat) : Int))] [.s (.int .i64 0)] μ)
  (fun _ _ => none)
  (fun vs2 m3 =>
    headK vs2 fun a7 r8 =>
    asB a7 fun b9 =>
    some (.s (.bool b9), m3))
  (fun d6 vs4 m5 =>
    bif Nat.beq 0 d6 then (headK vs4 fun a10 r11 =>
      asS a10 fun x12 =>
      headK r11 fun a13 r14 =>
      asS a13 fun x15 =>
      (lenS (.s x15)).bind fun l16 =>
      seqJ (refs_Table_Add_L2 [.s x12, .s x15, .s (.int .i64 ((l16 : Nat) : Int))] [.s (.int .i64 0)] m5)
      (fun _ _ => none)
      (fun vs17 m18 =>
        headK vs17 fun a22 r23 =>
        asB a22 fun b24 =>
        some (.s (.bool b24), m18))
      (fun d21 vs19 m20 =>
        bif Nat.beq 2 d21 then (some (.s (.bool true), m20)) else (none))) else (none)) := by kernel_rfl

/-! ### (*overdub/space.Space).Take -/
noncomputable def G12 : FuncId → FunA := fun g => bif Nat.beq g 29 then bitmap_Map_Take else bif Nat.beq g 30 then refs_Table_Add else fun _ _ => none
theorem G12_29 : G12 29 = bitmap_Map_Take := by kernel_rfl
theorem G12_30 : G12 30 = refs_Table_Add := by kernel_rfl
def A12 : Ann := .two (.leaf) (.two (.leaf) (.two (.two (.leaf) (.two (.two (.leaf) (.leaf)) (.leaf))) (.two (.leaf) (.two (.leaf) (.leaf)))))
def R12 : Slots := [(2, .i .i64), (3, .i .i64)]
noncomputable def space_Space_Take : FunA := denF Try.prog G12 Try.f12 A12 R12
theorem space_Space_Take_eq (p0 q0 o0 : Nat) (μ : AMem) : space_Space_Take [.s (.ptr p0 q0 o0)] μ =
  (μ.cell p0 q0 (o0 + 1)).bind fun x1 =>
  (bitmap_Map_Take [.s x1] μ).bind fun r2 =>
  asI .i64 r2.1 fun n3 =>
  bif decide (n3 < 0) then
  (some (.tuple [.s (.int .i64 0), .s (.int .i64 3)], r2.2))
  else
  (((r2.2.bump 7).cell p0 q0 (o0 + 2)).bind fun x4 =>
    (refs_Table_Add [.s x4, .s (.slice (r2.2.next + 5) 0 0 1)] ((r2.2.bump 7).set (r2.2.next + 5) (rowObj [.int .i64 n3] 1 3 (some 1)))).bind fun r5 =>
    asB r5.1 fun b6 =>
    some (.tuple [.s (.int .i64 n3), .s (.int .i64 0)], r5.2)) := by rw [← G12_29, ← G12_30]; kernel_rfl

/-! ### (*overdub/space.Space).Of -/
noncomputable def G13 : FuncId → FunA := fun g => bif Nat.beq g 31 then refs_Table_Of else fun _ _ => none
theorem G13_31 : G13 31 = refs_Table_Of := by kernel_rfl
def A13 : Ann := .two (.leaf) (.two (.leaf) (.leaf))
def R13 : Slots := [(4, .i .i64)]
noncomputable def space_Space_Of : FunA := denF Try.prog G13 Try.f13 A13 R13
theorem space_Space_Of_eq (p0 q0 o0 : Nat) (p1 : Int) (μ : AMem) : space_Space_Of [.s (.ptr p0 q0 o0), .s (.int .i64 p1)] μ =
  (μ.cell p0 q0 (o0 + 2)).bind fun x1 =>
  (refs_Table_Of [.s x1, .s (.int .i64 p1)] μ).bind fun r2 =>
  asI .i64 r2.1 fun n3 =>
  some (.s (.int .i64 n3), r2.2) := by rw [← G13_31]; kernel_rfl

/-! ### (*overdub/space.Space).Used -/
noncomputable def G14 : FuncId → FunA := fun g => bif Nat.beq g 32 then bitmap_Map_Used else fun _ _ => none
theorem G14_32 : G14 32 = bitmap_Map_Used := by kernel_rfl
def A14 : Ann := .two (.leaf) (.two (.leaf) (.leaf))
def R14 : Slots := [(4, .b)]
noncomputable def space_Space_Used : FunA := denF Try.prog G14 Try.f14 A14 R14
theorem space_Space_Used_eq (p0 q0 o0 : Nat) (p1 : Int) (μ : AMem) : space_Space_Used [.s (.ptr p0 q0 o0), .s (.int .i64 p1)] μ =
  (μ.cell p0 q0 (o0 + 1)).bind fun x1 =>
  (bitmap_Map_Used [.s x1, .s (.int .i64 p1)] μ).bind fun r2 =>
  asB r2.1 fun b3 =>
  some (.s (.bool b3), r2.2) := by rw [← G14_32]; kernel_rfl

/-! ### (*overdub/bitmap.Map).Len -/
noncomputable def G33 : FuncId → FunA := fun _ _ _ => none
def A33 : Ann := .two (.leaf) (.two (.leaf) (.leaf))
def R33 : Slots := [(2, .i .i64)]
noncomputable def bitmap_Map_Len : FunA := denF Try.prog G33 Try.f33 A33 R33
theorem bitmap_Map_Len_eq (p0 q0 o0 : Nat) (μ : AMem) : bitmap_Map_Len [.s (.ptr p0 q0 o0)] μ =
  (μ.cell p0 q0 (o0 + 0)).bind fun x1 =>
  asI .i64 (.s x1) fun n2 =>
  some (.s (.int .i64 n2), μ) := by kernel_rfl

/-! ### (*overdub/bitmap.Map).Count -/
noncomputable def G34 : FuncId → FunA := fun g => bif Nat.beq g 32 then bitmap_Map_Used else fun _ _ => none
theorem G34_32 : G34 32 = bitmap_Map_Used := by kernel_rfl
def A34 : Ann := .two (.leaf) (.two (.leaf) (.two (.two (.leaf) (.join [(3, .i .i64)] [] [] (.loop [(3, .i .i64), (9, .i .i64)] [0, 8] [0] (.two (.leaf) (.two (.two (.leaf) (.leaf)) (.join [(3, .i .i64)] [0, 8, 9] [] (.join [(0, .s), (3, .i .i64), (8, .i .i64), (9, .i .i64)] [] [] (.two (.leaf) (.two (.leaf) (.two (.leaf) (.leaf)))) .leaf) (.leaf))))) .leaf)) (.two (.leaf) (.leaf))))
def R34 : Slots := [(2, .i .i64)]
noncomputable def bitmap_Map_Count : FunA := denF Try.prog G34 Try.f34 A34 R34
noncomputable def bitmap_Map_Count_L1_B (os vs : List AV) (μ : AMem) : Option Res := joinK [(3, .i .i64), (9, .i .i64)] vs (envO [0, 8] os) fun e => den Try.prog G34 Try.f34.ntmps (cL (cL (cR (cL (cR (cR (bodyOf Try.f34))))))) (aL (aL (aR (aL (aR (aR A34)))))) { ret := R34, exits := [(0, [(3, .i .i64)])] } Res e μ fun ex e μ => some (ex, valsOf (Lv.at { ret := R34, exits := [(0, [(3, .i .i64)])] } [(3, .i .i64), (9, .i .i64)] ex) e, μ)
noncomputable def bitmap_Map_Count_L1 (os vs : List AV) (μ : AMem) : Option Res := loopA (bitmap_Map_Count_L1_B os) vs μ
theorem bitmap_Map_Count_L1_B_eq (s0 t0 u0 : Nat) (s8 : Int) (s3 : Int) (s9 : Int) (μ : AMem) : bitmap_Map_Count_L1_B [.s (.ptr s0 t0 u0), .s (.int .i64 s8)] [.s (.int .i64 s3), .s (.int .i64 s9)] μ =
  bif decide (s9 < s8) then
  (seqJ
    ((bitmap_Map_Used [.s (.ptr s0 t0 u0), .s (.int .i64 s9)] μ).bind fun r14 =>
      asB r14.1 fun b15 =>
      bif b15 then
      (some (.normal, [.s (.int .i64 (IntKind.wrap .i64 (s3 + 1)))], r14.2))
      else
      (some (.normal, [.s (.int .i64 s3)], r14.2)))
    (fun vs16 m17 =>
      headK vs16 fun a18 r19 =>
      asI .i64 a18 fun n20 =>
      some (.normal, [.s (.int .i64 n20), .s (.int .i64 (IntKind.wrap .i64 (s9 + 1)))], m17))
    (fun vs21 m22 =>
      headK vs21 fun a26 r27 =>
      asI .i64 a26 fun n28 =>
      some (.ret, [.s (.int .i64 n28)], m22))
    (fun d25 vs23 m24 =>
      none))
  else
  (some (.exit 0, [.s (.int .i64 s3)], μ)) := by rw [← G34_32]; kernel_rfl
theorem bitmap_Map_Count_L1_eq (os vs : List AV) (μ : AMem) : bitmap_Map_Count_L1 os vs μ = (bitmap_Map_Count_L1_B os vs μ).bind fun r => match r.1 with | .normal => bitmap_Map_Count_L1 os r.2.1 r.2.2 | _ => some r := loopA_eq _ _ _
theorem bitmap_Map_Count_eq (p0 q0 o0 : Nat) (μ : AMem) : bitmap_Map_Count [.s (.ptr p0 q0 o0)] μ =
  (μ.cell p0 q0 (o0 + 0)).bind fun x1 =>
  asI .i64 (.s x1) fun n2 =>
  seqJ (bitmap_Map_Count_L1 [.s (.ptr p0 q0 o0), .s (.int .i64 n2)] [.s (.int .i64 0), .s (.int .i64 0)] μ)
  (fun _ _ => none)
  (fun vs3 m4 =>
    headK vs3 fun a8 r9 =>
    asI .i64 a8 fun n10 =>
    some (.s (.int .i64 n10), m4))
  (fun d7 vs5 m6 =>
    bif Nat.beq 0 d7 then (headK vs5 fun a11 r12 =>
      asI .i64 a11 fun n13 =>
      some (.s (.int .i64 n13), m6)) else (none)) := by kernel_rfl

/-! ### (*overdub/space.Space).Free -/
noncomputable def G16 : FuncId → FunA := fun g => bif Nat.beq g 33 then bitmap_Map_Len else bif Nat.beq g 34 then bitmap_Map_Count else fun _ _ => none
theorem G16_33 : G16 33 = bitmap_Map_Len := by kernel_rfl
theorem G16_34 : G16 34 = bitmap_Map_Count := by kernel_rfl
def A16 : Ann := .two (.leaf) (.two (.ord [0, 1, 2, 3, 5, 6, 7, 8, 4, 9, 10, 11]) (.leaf))
def R16 : Slots := [(2, .i .i64)]
noncomputable def space_Space_Free : FunA := denF Try.prog G16 Try.f16 A16 R16
theorem space_Space_Free_eq (p0 q0 o0 : Nat) (μ : AMem) : space_Space_Free [.s (.ptr p0 q0 o0)] μ =
  (μ.cell p0 q0 (o0 + 1)).bind fun x1 =>
  (μ.cell p0 q0 (o0 + 1)).bind fun x2 =>
  (bitmap_Map_Len [.s x1] μ).bind fun r3 =>
  asI .i64 r3.1 fun n4 =>
  checkA (((r3.2.cell p0 q0 (o0 + 1)).bind fun x => some (AV.s x)) = some (.s x2))
  ((bitmap_Map_Count [.s x2] r3.2).bind fun r5 =>
    asI .i64 r5.1 fun n6 =>
    some (.s (.int .i64 (IntKind.wrap .i64 (n4 - n6))), r5.2)) := by rw [← G16_33, ← G16_34]; kernel_rfl

/-! ### overdub/overdublaw13.wakes -/
noncomputable def G15 : FuncId → FunA := fun g => bif Nat.beq g 9 then space_New else bif Nat.beq g 12 then space_Space_Take else bif Nat.beq g 10 then space_Space_Drop else bif Nat.beq g 16 then space_Space_Free else bif Nat.beq g 11 then space_Space_Commit else fun _ _ => none
theorem G15_9 : G15 9 = space_New := by kernel_rfl
theorem G15_12 : G15 12 = space_Space_Take := by kernel_rfl
theorem G15_10 : G15 10 = space_Space_Drop := by kernel_rfl
theorem G15_16 : G15 16 = space_Space_Free := by kernel_rfl
theorem G15_11 : G15 11 = space_Space_Commit := by kernel_rfl
def A15 : Ann := .two (.leaf) (.two (.leaf) (.two (.join [(16, .b)] [1] [] (.leaf) (.two (.two (.leaf) (.leaf)) (.leaf))) (.two (.leaf) (.two (.leaf) (.two (.leaf) (.two (.leaf) (.leaf)))))))
def R15 : Slots := [(0, .b)]
noncomputable def overdublaw13_wakes : FunA := denF Try.prog G15 Try.f15 A15 R15
theorem overdublaw13_wakes_eq  (μ : AMem) : overdublaw13_wakes [] μ =
  (space_New [.s (.int .i64 4), .s (.int .i64 2)] μ).bind fun r1 =>
  extrK 0 r1.1 fun t2 =>
  asS t2 fun x3 =>
  extrK 1 r1.1 fun t4 =>
  asI .i64 t4 fun n5 =>
  seqJ
  (bif !(n5 != 0) then
    ((isNil (.s x3)).bind fun b6 =>
      some (.normal, [.s (.bool b6)], r1.2))
    else
    (some (.normal, [.s (.bool true)], r1.2)))
  (fun vs7 m8 =>
    headK vs7 fun a9 r10 =>
    asB a9 fun b11 =>
    bif b11 then
    (some (.s (.bool false), m8))
    else
    ((space_Space_Take [.s x3] m8).bind fun r12 =>
      extrK 0 r12.1 fun t13 =>
      asI .i64 t13 fun n14 =>
      extrK 1 r12.1 fun t15 =>
      asI .i64 t15 fun n16 =>
      (space_Space_Drop [.s x3, .s (.int .i64 2)] r12.2).bind fun r17 =>
      asB r17.1 fun b18 =>
      (space_Space_Free [.s x3] r17.2).bind fun r19 =>
      asI .i64 r19.1 fun n20 =>
      bif (n16 == 0) then
      (bif (n14 == 2) then
        (bif b18 then
          (bif (n20 == 1) then
            ((space_Space_Commit [.s x3] r19.2).bind fun r21 =>
              asI .i64 r21.1 fun n22 =>
              bif (n22 == 1) then
              ((space_Space_Free [.s x3] r21.2).bind fun r23 =>
                asI .i64 r23.1 fun n24 =>
                some (.s (.bool (n24 == 2)), r23.2))
              else
              (some (.s (.bool false), r21.2)))
            else
            (some (.s (.bool false), r19.2)))
          else
          (some (.s (.bool false), r19.2)))
        else
        (some (.s (.bool false), r19.2)))
      else
      (some (.s (.bool false), r19.2))))
  (fun vs25 m26 =>
    headK vs25 fun a30 r31 =>
    asB a30 fun b32 =>
    some (.s (.bool b32), m26))
  (fun d29 vs27 m28 =>
    none) := by rw [← G15_9, ← G15_12, ← G15_10, ← G15_16, ← G15_11]; kernel_rfl

/-! ### overdub/overdublaw13.SpaceOrder -/
noncomputable def G3 : FuncId → FunA := fun g => bif Nat.beq g 8 then overdubkeep_Within else bif Nat.beq g 9 then space_New else bif Nat.beq g 10 then space_Space_Drop else bif Nat.beq g 11 then space_Space_Commit else bif Nat.beq g 12 then space_Space_Take else bif Nat.beq g 13 then space_Space_Of else bif Nat.beq g 14 then space_Space_Used else bif Nat.beq g 15 then overdublaw13_wakes else fun _ _ => none
theorem G3_8 : G3 8 = overdubkeep_Within := by kernel_rfl
theorem G3_9 : G3 9 = space_New := by kernel_rfl
theorem G3_10 : G3 10 = space_Space_Drop := by kernel_rfl
theorem G3_11 : G3 11 = space_Space_Commit := by kernel_rfl
theorem G3_12 : G3 12 = space_Space_Take := by kernel_rfl
theorem G3_13 : G3 13 = space_Space_Of := by kernel_rfl
theorem G3_14 : G3 14 = space_Space_Used := by kernel_rfl
theorem G3_15 : G3 15 = overdublaw13_wakes := by kernel_rfl
def A3 : Ann := .two (.leaf) (.two (.leaf) (.two (.leaf) (.two (.join [(30, .b)] [0, 1, 5] [] (.leaf) (.two (.two (.leaf) (.leaf)) (.leaf))) (.two (.leaf) (.two (.leaf) (.two (.two (.leaf) (.join [(1, .i .i64), (5, .s), (7, .s), (8, .s)] [] [] (.loop [(9, .i .i64)] [0, 1, 5, 7, 8] [0] (.two (.join [(38, .b)] [0, 1, 5, 7, 8, 9] [] (.leaf) (.two (.leaf) (.leaf))) (.join [] [0, 1, 5, 7, 8, 9] [] (.join [(0, .s), (1, .i .i64), (5, .s), (7, .s), (8, .s), (9, .i .i64)] [] [] (.two (.leaf) (.two (.leaf) (.join [(0, .s), (1, .i .i64), (5, .s), (7, .s), (8, .s), (9, .i .i64)] [] [] (.two (.leaf) (.two (.two (.two (.ord [0, 1, 3, 4, 5, 2, 6]) (.two (.two (.leaf) (.leaf)) (.leaf))) (.join [] [0, 1, 5, 7, 8, 9, 10] [] (.leaf) (.leaf))) (.two (.leaf) (.two (.two (.leaf) (.two (.two (.leaf) (.join [(0, .s), (1, .i .i64), (5, .s), (7, .s), (8, .s), (9, .i .i64), (11, .i .i64)] [] [] (.loop [(11, .i .i64), (114, .i .i64)] [0, 1, 5, 7, 8, 9] [5] (.two (.leaf) (.two (.two (.leaf) (.leaf)) (.two (.join [(0, .s), (1, .i .i64), (5, .s), (7, .s), (8, .s), (9, .i .i64), (11, .i .i64), (114, .i .i64)] [] [] (.two (.leaf) (.join [(11, .i .i64)] [0, 1, 5, 7, 8, 9, 12, 114] [] (.two (.leaf) (.two (.leaf) (.leaf))) (.leaf))) .leaf) (.leaf))))) .leaf)) (.two (.leaf) (.two (.two (.leaf) (.leaf)) (.leaf))))) (.two (.leaf) (.two (.two (.leaf) (.join [(0, .s), (1, .i .i64), (5, .s), (7, .s), (8, .s), (9, .i .i64), (13, .i .i64)] [] [] (.loop [(13, .i .i64), (14, .i .i64)] [0, 1, 5, 7, 8, 9] [3] (.two (.two (.leaf) (.two (.leaf) (.leaf))) (.join [(13, .i .i64)] [0, 1, 5, 7, 8, 9, 14] [] (.join [(0, .s), (1, .i .i64), (5, .s), (7, .s), (8, .s), (9, .i .i64), (13, .i .i64), (14, .i .i64)] [] [] (.join [(66, .b)] [0, 1, 5, 7, 8, 9, 13, 14] [] (.leaf) (.two (.leaf) (.leaf))) .leaf) (.leaf)))) .leaf)) (.two (.leaf) (.two (.join [(86, .b)] [0, 1, 5, 7, 8, 9, 13] [] (.leaf) (.two (.two (.leaf) (.leaf)) (.leaf))) (.two (.leaf) (.two (.leaf) (.leaf))))))))))) .leaf))) .leaf) (.leaf)))) .leaf)) (.two (.two (.leaf) (.join [] [] [] (.loop [(129, .i .i64)] [1, 5, 7, 8] [7] (.two (.leaf) (.two (.two (.leaf) (.leaf)) (.two (.join [(1, .i .i64), (5, .s), (7, .s), (8, .s), (129, .i .i64)] [] [] (.two (.leaf) (.join [(158, .b)] [1, 5, 7, 8, 129] [] (.ord [0, 1, 4, 5, 6, 2, 3, 7, 8, 9, 10, 11, 12, 13, 14, 15, 16, 17, 18, 19, 20, 21, 22, 23, 24, 25, 26]) (.two (.two (.leaf) (.leaf)) (.leaf)))) .leaf) (.leaf))))) .leaf)) (.two (.leaf) (.leaf)))))))))
def R3 : Slots := [(4, .b)]
noncomputable def overdublaw13_SpaceOrder : FunA := denF Try.prog G3 Try.f3 A3 R3
noncomputable def overdublaw13_SpaceOrder_L4_B (os vs : List AV) (μ : AMem) : Option Res := joinK [(13, .i .i64), (14, .i .i64)] vs (envO [0, 1, 5, 7, 8, 9] os) fun e => den Try.prog G3 Try.f3.ntmps (cL (cL (cR (cL (cR (cR (cR (cR (cR (cL (cR (cR (cL (cL (cR (cL (cL (cR (cL (cR (cR (cR (cR (cR (cR (bodyOf Try.f3)))))))))))))))))))))))))) (aL (aL (aR (aL (aR (aR (aR (aR (aR (aL (aR (aR (aL (aL (aR (aL (aL (aR (aL (aR (aR (aR (aR (aR (aR A3))))))))))))))))))))))))) { ret := R3, exits := [(3, [(0, .s), (1, .i .i64), (5, .s), (7, .s), (8, .s), (9, .i .i64), (13, .i .i64)]), (2, [(0, .s), (1, .i .i64), (5, .s), (7, .s), (8, .s), (9, .i .i64)]), (1, [(0, .s), (1, .i .i64), (5, .s), (7, .s), (8, .s), (9, .i .i64)]), (0, [(1, .i .i64), (5, .s), (7, .s), (8, .s)])] } Res e μ fun ex e μ => some (ex, valsOf (Lv.at { ret := R3, exits := [(3, [(0, .s), (1, .i .i64), (5, .s), (7, .s), (8, .s), (9, .i .i64), (13, .i .i64)]), (2, [(0, .s), (1, .i .i64), (5, .s), (7, .s), (8, .s), (9, .i .i64)]), (1, [(0, .s), (1, .i .i64), (5, .s), (7, .s), (8, .s), (9, .i .i64)]), (0, [(1, .i .i64), (5, .s), (7, .s), (8, .s)])] } [(13, .i .i64), (14, .i .i64)] ex) e, μ)
noncomputable def overdublaw13_SpaceOrder_L4 (os vs : List AV) (μ : AMem) : Option Res := loopA (overdublaw13_SpaceOrder_L4_B os) vs μ
noncomputable def overdublaw13_SpaceOrder_L3_B (os vs : List AV) (μ : AMem) : Option Res := joinK [(11, .i .i64), (114, .i .i64)] vs (envO [0, 1, 5, 7, 8, 9] os) fun e => den Try.prog G3 Try.f3.ntmps (cL (cL (cR (cL (cR (cL (cR (cR (cR (cL (cR (cR (cL (cL (cR (cL (cL (cR (cL (cR (cR (cR (cR (cR (cR (bodyOf Try.f3)))))))))))))))))))))))))) (aL (aL (aR (aL (aR (aL (aR (aR (aR (aL (aR (aR (aL (aL (aR (aL (aL (aR (aL (aR (aR (aR (aR (aR (aR A3))))))))))))))))))))))))) { ret := R3, exits := [(5, [(0, .s), (1, .i .i64), (5, .s), (7, .s), (8, .s), (9, .i .i64), (11, .i .i64)]), (2, [(0, .s), (1, .i .i64), (5, .s), (7, .s), (8, .s), (9, .i .i64)]), (1, [(0, .s), (1, .i .i64), (5, .s), (7, .s), (8, .s), (9, .i .i64)]), (0, [(1, .i .i64), (5, .s), (7, .s), (8, .s)])] } Res e μ fun ex e μ => some (ex, valsOf (Lv.at { ret := R3, exits := [(5, [(0, .s), (1, .i .i64), (5, .s), (7, .s), (8, .s), (9, .i .i64), (11, .i .i64)]), (2, [(0, .s), (1, .i .i64), (5, .s), (7, .s), (8, .s), (9, .i .i64)]), (1, [(0, .s), (1, .i .i64), (5, .s), (7, .s), (8, .s), (9, .i .i64)]), (0, [(1, .i .i64), (5, .s), (7, .s), (8, .s)])] } [(11, .i .i64), (114, .i .i64)] ex) e, μ)
noncomputable def overdublaw13_SpaceOrder_L3 (os vs : List AV) (μ : AMem) : Option Res := loopA (overdublaw13_SpaceOrder_L3_B os) vs μ
noncomputable def overdublaw13_SpaceOrder_L2_B (os vs : List AV) (μ : AMem) : Option Res := joinK [(129, .i .i64)] vs (envO [1, 5, 7, 8] os) fun e => den Try.prog G3 Try.f3.ntmps (cL (cL (cR (cL (cR (cR (cR (cR (cR (cR (cR (bodyOf Try.f3)))))))))))) (aL (aL (aR (aL (aR (aR (aR (aR (aR (aR (aR A3))))))))))) { ret := R3, exits := [(7, [])] } Res e μ fun ex e μ => some (ex, valsOf (Lv.at { ret := R3, exits := [(7, [])] } [(129, .i .i64)] ex) e, μ)
noncomputable def overdublaw13_SpaceOrder_L2 (os vs : List AV) (μ : AMem) : Option Res := loopA (overdublaw13_SpaceOrder_L2_B os) vs μ
noncomputable def overdublaw13_SpaceOrder_L1_B (os vs : List AV) (μ : AMem) : Option Res := joinK [(9, .i .i64)] vs (envO [0, 1, 5, 7, 8] os) fun e => den Try.prog G3 Try.f3.ntmps (cL (cL (cR (cL (cR (cR (cR (cR (cR (cR (bodyOf Try.f3))))))))))) (aL (aL (aR (aL (aR (aR (aR (aR (aR (aR A3)))))))))) { ret := R3, exits := [(0, [(1, .i .i64), (5, .s), (7, .s), (8, .s)])] } Res e μ fun ex e μ => some (ex, valsOf (Lv.at { ret := R3, exits := [(0, [(1, .i .i64), (5, .s), (7, .s), (8, .s)])] } [(9, .i .i64)] ex) e, μ)
noncomputable def overdublaw13_SpaceOrder_L1 (os vs : List AV) (μ : AMem) : Option Res := loopA (overdublaw13_SpaceOrder_L1_B os) vs μ
theorem overdublaw13_SpaceOrder_L4_B_eq (s0 : SV) (s1 : Int) (s5 : SV) (s7 t7 u7 : Nat) (s8 t8 u8 : Nat) (s9 : Int) (s13 : Int) (s14 : Int) (μ : AMem) : overdublaw13_SpaceOrder_L4_B [.s s0, .s (.int .i64 s1), .s s5, .s (.ptr s7 t7 u7), .s (.ptr s8 t8 u8), .s (.int .i64 s9)] [.s (.int .i64 s13), .s (.int .i64 s14)] μ =
  bif decide (s14 ≥ s1) then
  (seqJ
    (seqJ
      (if 0 ≤ s14 ∧ s14 < (14 : Nat) then
        ((μ.cell s7 t7 (u7 + Int.toNat s14 * 1)).bind fun x229 =>
          asB (.s x229) fun b230 =>
          bif (!b230) then
          (if 0 ≤ s14 ∧ s14 < (14 : Nat) then
            ((μ.cell s8 t8 (u8 + Int.toNat s14 * 1)).bind fun x231 =>
              asB (.s x231) fun b232 =>
              some (.normal, [.s (.bool (!b232))], μ)) else none)
          else
          (some (.normal, [.s (.bool false)], μ))) else none)
      (fun vs233 m234 =>
        headK vs233 fun a235 r236 =>
        asB a235 fun b237 =>
        bif b237 then
        (some (.normal, [.s (.int .i64 s14)], m234))
        else
        (some (.normal, [.s (.int .i64 s13)], m234)))
      (fun vs238 m239 =>
        headK vs238 fun a243 r244 =>
        asB a243 fun b245 =>
        some (.ret, [.s (.bool b245)], m239))
      (fun d242 vs240 m241 =>
        none))
    (fun vs246 m247 =>
      headK vs246 fun a248 r249 =>
      asI .i64 a248 fun n250 =>
      some (.normal, [.s (.int .i64 n250), .s (.int .i64 (IntKind.wrap .i64 (s14 - 1)))], m247))
    (fun vs251 m252 =>
      headK vs251 fun a256 r257 =>
      asB a256 fun b258 =>
      some (.ret, [.s (.bool b258)], m252))
    (fun d255 vs253 m254 =>
      none))
  else
  (some (.exit 3, [.s s0, .s (.int .i64 s1), .s s5, .s (.ptr s7 t7 u7), .s (.ptr s8 t8 u8), .s (.int .i64 s9), .s (.int .i64 s13)], μ)) := by kernel_rfl
theorem overdublaw13_SpaceOrder_L4_eq (os vs : List AV) (μ : AMem) : overdublaw13_SpaceOrder_L4 os vs μ = (overdublaw13_SpaceOrder_L4_B os vs μ).bind fun r => match r.1 with | .normal => overdublaw13_SpaceOrder_L4 os r.2.1 r.2.2 | _ => some r := loopA_eq _ _ _
theorem overdublaw13_SpaceOrder_L3_B_eq (s0 : SV) (s1 : Int) (s5 : SV) (s7 t7 u7 : Nat) (s8 t8 u8 : Nat) (s9 : Int) (s11 : Int) (s114 : Int) (μ : AMem) : overdublaw13_SpaceOrder_L3_B [.s s0, .s (.int .i64 s1), .s s5, .s (.ptr s7 t7 u7), .s (.ptr s8 t8 u8), .s (.int .i64 s9)] [.s (.int .i64 s11), .s (.int .i64 s114)] μ =
  bif decide (s114 < 14) then
  (seqJ
    (if 0 ≤ s114 ∧ s114 < (14 : Nat) then
      ((μ.cell s8 t8 (u8 + Int.toNat s114 * 1)).bind fun x213 =>
        asB (.s x213) fun b214 =>
        bif b214 then
        (some (.normal, [.s (.int .i64 (IntKind.wrap .i64 (s11 + 1)))], μ))
        else
        (some (.normal, [.s (.int .i64 s11)], μ))) else none)
    (fun vs215 m216 =>
      headK vs215 fun a217 r218 =>
      asI .i64 a217 fun n219 =>
      if 0 ≤ s114 ∧ s114 < (14 : Nat) then
      ((m216.store s8 t8 (u8 + Int.toNat s114 * 1) [.bool false]).bind fun m220 =>
        some (.normal, [.s (.int .i64 n219), .s (.int .i64 (IntKind.wrap .i64 (s114 + 1)))], m220)) else none)
    (fun vs221 m222 =>
      headK vs221 fun a226 r227 =>
      asB a226 fun b228 =>
      some (.ret, [.s (.bool b228)], m222))
    (fun d225 vs223 m224 =>
      none))
  else
  (some (.exit 5, [.s s0, .s (.int .i64 s1), .s s5, .s (.ptr s7 t7 u7), .s (.ptr s8 t8 u8), .s (.int .i64 s9), .s (.int .i64 s11)], μ)) := by kernel_rfl
theorem overdublaw13_SpaceOrder_L3_eq (os vs : List AV) (μ : AMem) : overdublaw13_SpaceOrder_L3 os vs μ = (overdublaw13_SpaceOrder_L3_B os vs μ).bind fun r => match r.1 with | .normal => overdublaw13_SpaceOrder_L3 os r.2.1 r.2.2 | _ => some r := loopA_eq _ _ _
theorem overdublaw13_SpaceOrder_L2_B_eq (s1 : Int) (s5 : SV) (s7 : SV) (s8 : SV) (s129 : Int) (μ : AMem) : overdublaw13_SpaceOrder_L2_B [.s (.int .i64 s1), .s s5, .s s7, .s s8] [.s (.int .i64 s129)] μ =
  bif decide (s129 < 14) then
  (seqJ
    (indP 14 1 (.s s7) s129 fun p187 =>
      loadAt μ p187 fun v188 =>
      asB v188 fun b189 =>
      (space_Space_Of [.s s5, .s (.int .i64 s129)] μ).bind fun r190 =>
      asI .i64 r190.1 fun n191 =>
      checkA ((loadAt r190.2 p187 some) = some (.s (.bool b189)))
      (bif !(!((n191 == 1) == b189)) then
        ((space_Space_Used [.s s5, .s (.int .i64 s129)] r190.2).bind fun r192 =>
          asB r192.1 fun b193 =>
          bif !(decide (s129 < s1)) then
          (indP 14 1 (.s s7) s129 fun p194 =>
            loadAt r192.2 p194 fun v195 =>
            asB v195 fun b196 =>
            bif !b196 then
            (indP 14 1 (.s s8) s129 fun p197 =>
              loadAt r192.2 p197 fun v198 =>
              asB v198 fun b199 =>
              some (.normal, [.s (.bool (!(b193 == b199)))], r192.2))
            else
            (some (.normal, [.s (.bool (!(b193 == true)))], r192.2)))
          else
          (some (.normal, [.s (.bool (!(b193 == true)))], r192.2)))
        else
        (some (.normal, [.s (.bool true)], r190.2))))
    (fun vs200 m201 =>
      headK vs200 fun a202 r203 =>
      asB a202 fun b204 =>
      bif b204 then
      (some (.ret, [.s (.bool false)], m201))
      else
      (some (.normal, [.s (.int .i64 (IntKind.wrap .i64 (s129 + 1)))], m201)))
    (fun vs205 m206 =>
      headK vs205 fun a210 r211 =>
      asB a210 fun b212 =>
      some (.ret, [.s (.bool b212)], m206))
    (fun d209 vs207 m208 =>
      none))
  else
  (some (.exit 7, [], μ)) := by rw [← G3_13, ← G3_14]; kernel_rfl
theorem overdublaw13_SpaceOrder_L2_eq (os vs : List AV) (μ : AMem) : overdublaw13_SpaceOrder_L2 os vs μ = (overdublaw13_SpaceOrder_L2_B os vs μ).bind fun r => match r.1 with | .normal => overdublaw13_SpaceOrder_L2 os r.2.1 r.2.2 | _ => some r := loopA_eq _ _ _
theorem overdublaw13_SpaceOrder_L1_B_eq (s0 : SV) (s1 : Int) (s5 : SV) (s7 t7 u7 : Nat) (s8 t8 u8 : Nat) (s9 : Int) (μ : AMem) : overdublaw13_SpaceOrder_L1_B [.s s0, .s (.int .i64 s1), .s s5, .s (.ptr s7 t7 u7), .s (.ptr s8 t8 u8)] [.s (.int .i64 s9)] μ =
  seqJ
  ((lenS (.s s0)).bind fun l52 =>
    bif decide (s9 < ((l52 : Nat) : Int)) then
    (some (.normal, [.s (.bool (decide (s9 < 40)))], μ))
    else
    (some (.normal, [.s (.bool false)], μ)))
  (fun vs53 m54 =>
    headK vs53 fun a55 r56 =>
    asB a55 fun b57 =>
    bif b57 then
    (seqJ
      (indS 1 (.s s0) s9 fun p58 =>
        loadAt m54 p58 fun v59 =>
        asI .i64 v59 fun n60 =>
        (overdubkeep_Within [.s (.int .i64 n60), .s (.int .i64 14)] m54).bind fun r61 =>
        asI .i64 r61.1 fun n62 =>
        indS 1 (.s s0) s9 fun p63 =>
        loadAt r61.2 p63 fun v64 =>
        asI .i64 v64 fun n65 =>
        (overdubkeep_Within [.s (.int .i64 (IntKind.wrap .i64 (Int.tdiv n65 14))), .s (.int .i64 4)] r61.2).bind fun r66 =>
        asI .i64 r66.1 fun n67 =>
        bif (n67 == 0) then
        (if 0 ≤ n62 ∧ n62 < (14 : Nat) then
          ((r66.2.cell s7 t7 (u7 + Int.toNat n62 * 1)).bind fun x68 =>
            asB (.s x68) fun b69 =>
            (space_Space_Drop [.s s5, .s (.int .i64 n62)] r66.2).bind fun r70 =>
            asB r70.1 fun b71 =>
            checkA (((r70.2.cell s7 t7 (u7 + Int.toNat n62 * 1)).bind fun x => some (AV.s x)) = some (.s (.bool b69)))
            (bif (!(b71 == b69)) then
              (some (.ret, [.s (.bool false)], r70.2))
              else
              (seqJ
                (if 0 ≤ n62 ∧ n62 < (14 : Nat) then
                  ((r70.2.cell s8 t8 (u8 + Int.toNat n62 * 1)).bind fun x72 =>
                    asB (.s x72) fun b73 =>
                    bif !b73 then
                    (if 0 ≤ n62 ∧ n62 < (14 : Nat) then
                      ((r70.2.cell s7 t7 (u7 + Int.toNat n62 * 1)).bind fun x74 =>
                        asB (.s x74) fun b75 =>
                        if 0 ≤ n62 ∧ n62 < (14 : Nat) then
                        ((r70.2.store s8 t8 (u8 + Int.toNat n62 * 1) [.bool b75]).bind fun m76 =>
                          some (.normal, [], m76)) else none) else none)
                    else
                    (if 0 ≤ n62 ∧ n62 < (14 : Nat) then
                      ((r70.2.store s8 t8 (u8 + Int.toNat n62 * 1) [.bool true]).bind fun m77 =>
                        some (.normal, [], m77)) else none)) else none)
                (fun vs78 m79 =>
                  if 0 ≤ n62 ∧ n62 < (14 : Nat) then
                  ((m79.store s7 t7 (u7 + Int.toNat n62 * 1) [.bool false]).bind fun m80 =>
                    some (.normal, [], m80)) else none)
                (fun vs81 m82 =>
                  headK vs81 fun a86 r87 =>
                  asB a86 fun b88 =>
                  some (.ret, [.s (.bool b88)], m82))
                (fun d85 vs83 m84 =>
                  none)))) else none)
        else
        (bif (n67 == 1) then
          (seqJ (overdublaw13_SpaceOrder_L3 [.s s0, .s (.int .i64 s1), .s s5, .s (.ptr s7 t7 u7), .s (.ptr s8 t8 u8), .s (.int .i64 s9)] [.s (.int .i64 0), .s (.int .i64 0)] r66.2)
            (fun _ _ => none)
            (fun vs89 m90 =>
              headK vs89 fun a94 r95 =>
              asB a94 fun b96 =>
              some (.ret, [.s (.bool b96)], m90))
            (fun d93 vs91 m92 =>
              bif Nat.beq 5 d93 then (headK vs91 fun a97 r98 =>
                asS a97 fun x99 =>
                headK r98 fun a100 r101 =>
                asI .i64 a100 fun n102 =>
                headK r101 fun a103 r104 =>
                asS a103 fun x105 =>
                headK r104 fun a106 r107 =>
                asS a106 fun x108 =>
                headK r107 fun a109 r110 =>
                asS a109 fun x111 =>
                headK r110 fun a112 r113 =>
                asI .i64 a112 fun n114 =>
                headK r113 fun a115 r116 =>
                asI .i64 a115 fun n117 =>
                (space_Space_Commit [.s x105] m92).bind fun r118 =>
                asI .i64 r118.1 fun n119 =>
                bif (n119 != n117) then
                (some (.ret, [.s (.bool false)], r118.2))
                else
                (some (.normal, [], r118.2))) else (none)))
          else
          (seqJ (overdublaw13_SpaceOrder_L4 [.s s0, .s (.int .i64 s1), .s s5, .s (.ptr s7 t7 u7), .s (.ptr s8 t8 u8), .s (.int .i64 s9)] [.s (.int .i64 (-1)), .s (.int .i64 13)] r66.2)
            (fun _ _ => none)
            (fun vs120 m121 =>
              headK vs120 fun a125 r126 =>
              asB a125 fun b127 =>
              some (.ret, [.s (.bool b127)], m121))
            (fun d124 vs122 m123 =>
              bif Nat.beq 3 d124 then (headK vs122 fun a128 r129 =>
                asS a128 fun x130 =>
                headK r129 fun a131 r132 =>
                asI .i64 a131 fun n133 =>
                headK r132 fun a134 r135 =>
                asS a134 fun x136 =>
                headK r135 fun a137 r138 =>
                asS a137 fun x139 =>
                headK r138 fun a140 r141 =>
                asS a140 fun x142 =>
                headK r141 fun a143 r144 =>
                asI .i64 a143 fun n145 =>
                headK r144 fun a146 r147 =>
                asI .i64 a146 fun n148 =>
                (space_Space_Take [.s x136] m123).bind fun r149 =>
                extrK 0 r149.1 fun t150 =>
                asI .i64 t150 fun n151 =>
                extrK 1 r149.1 fun t152 =>
                asI .i64 t152 fun n153 =>
                seqJ
                (bif !(!((n153 == 0) == (decide (n148 ≥ 0)))) then
                  (bif (n153 == 0) then
                    (some (.normal, [.s (.bool (n151 != n148))], r149.2))
                    else
                    (some (.normal, [.s (.bool false)], r149.2)))
                  else
                  (some (.normal, [.s (.bool true)], r149.2)))
                (fun vs154 m155 =>
                  headK vs154 fun a156 r157 =>
                  asB a156 fun b158 =>
                  bif b158 then
                  (some (.ret, [.s (.bool false)], m155))
                  else
                  (bif decide (n148 ≥ 0) then
                    (indP 14 1 (.s x139) n148 fun p159 =>
                      storeAt 1 m155 p159 (.s (.bool true)) fun m160 =>
                      some (.normal, [], m160))
                    else
                    (some (.normal, [], m155))))
                (fun vs161 m162 =>
                  headK vs161 fun a166 r167 =>
                  asB a166 fun b168 =>
                  some (.ret, [.s (.bool b168)], m162))
                (fun d165 vs163 m164 =>
                  none)) else (none)))))
      (fun vs169 m170 =>
        some (.normal, [.s (.int .i64 (IntKind.wrap .i64 (s9 + 1)))], m170))
      (fun vs171 m172 =>
        headK vs171 fun a176 r177 =>
        asB a176 fun b178 =>
        some (.ret, [.s (.bool b178)], m172))
      (fun d175 vs173 m174 =>
        none))
    else
    (some (.exit 0, [.s (.int .i64 s1), .s s5, .s (.ptr s7 t7 u7), .s (.ptr s8 t8 u8)], m54)))
  (fun vs179 m180 =>
    headK vs179 fun a184 r185 =>
    asB a184 fun b186 =>
    some (.ret, [.s (.bool b186)], m180))
  (fun d183 vs181 m182 =>
    none) := by rw [← G3_8, ← G3_10, ← G3_11, ← G3_12]; kernel_rfl
theorem overdublaw13_SpaceOrder_L1_eq (os vs : List AV) (μ : AMem) : overdublaw13_SpaceOrder_L1 os vs μ = (overdublaw13_SpaceOrder_L1_B os vs μ).bind fun r => match r.1 with | .normal => overdublaw13_SpaceOrder_L1 os r.2.1 r.2.2 | _ => some r := loopA_eq _ _ _
theorem overdublaw13_SpaceOrder_eq (p0 : SV) (p1 : Int) (μ : AMem) : overdublaw13_SpaceOrder [.s p0, .s (.int .i64 p1)] μ =
  (overdubkeep_Within [.s (.int .i64 p1), .s (.int .i64 4)] μ).bind fun r1 =>
  asI .i64 r1.1 fun n2 =>
  (space_New [.s (.int .i64 14), .s (.int .i64 n2)] r1.2).bind fun r3 =>
  extrK 0 r3.1 fun t4 =>
  asS t4 fun x5 =>
  extrK 1 r3.1 fun t6 =>
  asI .i64 t6 fun n7 =>
  seqJ
  (bif !(n7 != 0) then
    ((isNil (.s x5)).bind fun b8 =>
      some (.normal, [.s (.bool b8)], r3.2))
    else
    (some (.normal, [.s (.bool true)], r3.2)))
  (fun vs9 m10 =>
    headK vs9 fun a11 r12 =>
    asB a11 fun b13 =>
    bif b13 then
    (some (.s (.bool false), m10))
    else
    (seqJ (overdublaw13_SpaceOrder_L1 [.s p0, .s (.int .i64 n2), .s x5, .s (.ptr (m10.next + 0) 0 0), .s (.ptr (((m10.bump 1).set (m10.next + 0) (rowObj [.bool false, .bool false, .bool false, .bool false, .bool false, .bool false, .bool false, .bool false, .bool false, .bool false, .bool false, .bool false, .bool false, .bool false] 14 28 (some 1))).next + 0) 0 0)] [.s (.int .i64 0)] ((((m10.bump 1).set (m10.next + 0) (rowObj [.bool false, .bool false, .bool false, .bool false, .bool false, .bool false, .bool false, .bool false, .bool false, .bool false, .bool false, .bool false, .bool false, .bool false] 14 28 (some 1))).bump 1).set (((m10.bump 1).set (m10.next + 0) (rowObj [.bool false, .bool false, .bool false, .bool false, .bool false, .bool false, .bool false, .bool false, .bool false, .bool false, .bool false, .bool false, .bool false, .bool false] 14 28 (some 1))).next + 0) (rowObj [.bool false, .bool false, .bool false, .bool false, .bool false, .bool false, .bool false, .bool false, .bool false, .bool false, .bool false, .bool false, .bool false, .bool false] 14 28 (some 1))))
      (fun _ _ => none)
      (fun vs14 m15 =>
        headK vs14 fun a19 r20 =>
        asB a19 fun b21 =>
        some (.s (.bool b21), m15))
      (fun d18 vs16 m17 =>
        bif Nat.beq 0 d18 then (headK vs16 fun a22 r23 =>
          asI .i64 a22 fun n24 =>
          headK r23 fun a25 r26 =>
          asS a25 fun x27 =>
          headK r26 fun a28 r29 =>
          asS a28 fun x30 =>
          headK r29 fun a31 r32 =>
          asS a31 fun x33 =>
          seqJ (overdublaw13_SpaceOrder_L2 [.s (.int .i64 n24), .s x27, .s x30, .s x33] [.s (.int .i64 0)] m17)
          (fun _ _ => none)
          (fun vs34 m35 =>
            headK vs34 fun a39 r40 =>
            asB a39 fun b41 =>
            some (.s (.bool b41), m35))
          (fun d38 vs36 m37 =>
            bif Nat.beq 7 d38 then ((overdublaw13_wakes [] m37).bind fun r42 =>
              asB r42.1 fun b43 =>
              some (.s (.bool b43), r42.2)) else (none))) else (none))))
  (fun vs44 m45 =>
    headK vs44 fun a49 r50 =>
    asB a49 fun b51 =>
    some (.s (.bool b51), m45))
  (fun d48 vs46 m47 =>
    none) := by rw [← G3_8, ← G3_9, ← G3_15]; kernel_rfl

/-! ### (*overdub/space.Space).Waiting -/
noncomputable def G17 : FuncId → FunA := fun _ _ _ => none
def A17 : Ann := .two (.leaf) (.two (.leaf) (.leaf))
def R17 : Slots := [(2, .s)]
noncomputable def space_Space_Waiting : FunA := denF Try.prog G17 Try.f17 A17 R17
theorem space_Space_Waiting_eq (p0 q0 o0 : Nat) (μ : AMem) : space_Space_Waiting [.s (.ptr p0 q0 o0)] μ =
  ((μ.bump 6).cell p0 q0 (o0 + 3)).bind fun x1 =>
  appendA 3 1 8 (μ.next + 4) (μ.bump 6) (.s .nilSlice) (.s x1) fun x2 m3 =>
  asS x2 fun x4 =>
  some (.s x4, m3) := by kernel_rfl

/-! ### (*overdub/space.Space).Share -/
noncomputable def G18 : FuncId → FunA := fun g => bif Nat.beq g 31 then refs_Table_Of else bif Nat.beq g 30 then refs_Table_Add else fun _ _ => none
theorem G18_31 : G18 31 = refs_Table_Of := by kernel_rfl
theorem G18_30 : G18 30 = refs_Table_Add := by kernel_rfl
def A18 : Ann := .two (.leaf) (.two (.leaf) (.leaf))
def R18 : Slots := [(4, .b)]
noncomputable def space_Space_Share : FunA := denF Try.prog G18 Try.f18 A18 R18
theorem space_Space_Share_eq (p0 q0 o0 : Nat) (p1 : Int) (μ : AMem) : space_Space_Share [.s (.ptr p0 q0 o0), .s (.int .i64 p1)] μ =
  ((μ.bump 17).cell p0 q0 (o0 + 2)).bind fun x1 =>
  (refs_Table_Of [.s x1, .s (.int .i64 p1)] (μ.bump 17)).bind fun r2 =>
  asI .i64 r2.1 fun n3 =>
  bif decide (n3 > 0) then
  ((r2.2.cell p0 q0 (o0 + 2)).bind fun x4 =>
    (refs_Table_Add [.s x4, .s (.slice (μ.next + 13) 0 0 1)] (r2.2.set (μ.next + 13) (rowObj [.int .i64 p1] 1 3 (some 1)))).bind fun r5 =>
    asB r5.1 fun b6 =>
    some (.s (.bool b6), r5.2))
  else
  (some (.s (.bool false), r2.2)) := by rw [← G18_31, ← G18_30]; kernel_rfl

/-! ### overdub/overdublaw13.SpaceWaits -/
noncomputable def G4 : FuncId → FunA := fun g => bif Nat.beq g 8 then overdubkeep_Within else bif Nat.beq g 9 then space_New else bif Nat.beq g 12 then space_Space_Take else bif Nat.beq g 10 then space_Space_Drop else bif Nat.beq g 16 then space_Space_Free else bif Nat.beq g 17 then space_Space_Waiting else bif Nat.beq g 11 then space_Space_Commit else bif Nat.beq g 13 then space_Space_Of else bif Nat.beq g 18 then space_Space_Share else bif Nat.beq g 15 then overdublaw13_wakes else fun _ _ => none
theorem G4_8 : G4 8 = overdubkeep_Within := by kernel_rfl
theorem G4_9 : G4 9 = space_New := by kernel_rfl
theorem G4_12 : G4 12 = space_Space_Take := by kernel_rfl
theorem G4_10 : G4 10 = space_Space_Drop := by kernel_rfl
theorem G4_16 : G4 16 = space_Space_Free := by kernel_rfl
theorem G4_17 : G4 17 = space_Space_Waiting := by kernel_rfl
theorem G4_11 : G4 11 = space_Space_Commit := by kernel_rfl
theorem G4_13 : G4 13 = space_Space_Of := by kernel_rfl
theorem G4_18 : G4 18 = space_Space_Share := by kernel_rfl
theorem G4_15 : G4 15 = overdublaw13_wakes := by kernel_rfl
def A4 : Ann := .two (.leaf) (.two (.leaf) (.two (.leaf) (.two (.join [(42, .b)] [0, 1, 2, 7] [] (.leaf) (.two (.two (.leaf) (.leaf)) (.leaf))) (.two (.two (.leaf) (.join [(0, .i .i64), (1, .s), (2, .i .i64), (7, .s)] [] [] (.loop [(9, .i .i64)] [0, 1, 2, 7] [0] (.two (.two (.leaf) (.two (.leaf) (.leaf))) (.two (.join [(0, .i .i64), (1, .s), (2, .i .i64), (7, .s), (9, .i .i64)] [] [] (.two (.leaf) (.join [(59, .b)] [0, 1, 2, 7, 9] [] (.leaf) (.two (.two (.leaf) (.leaf)) (.leaf)))) .leaf) (.leaf)))) .leaf)) (.two (.two (.leaf) (.two (.leaf) (.two (.two (.leaf) (.leaf)) (.leaf)))) (.two (.leaf) (.two (.two (.leaf) (.join [(0, .i .i64), (2, .i .i64), (7, .s), (14, .s)] [] [] (.loop [(14, .s), (15, .i .i64)] [0, 1, 2, 7] [2] (.two (.join [(74, .b)] [0, 1, 2, 7, 14, 15] [] (.leaf) (.two (.leaf) (.leaf))) (.join [(14, .s)] [0, 1, 2, 7, 15] [] (.join [(0, .i .i64), (1, .s), (2, .i .i64), (7, .s), (14, .s), (15, .i .i64)] [] [] (.two (.leaf) (.two (.leaf) (.two (.two (.leaf) (.join [(0, .i .i64), (1, .s), (2, .i .i64), (7, .s), (14, .s), (15, .i .i64), (16, .i .i64), (17, .b)] [] [] (.loop [(17, .b), (87, .i .i64)] [0, 1, 2, 7, 14, 15, 16, 86] [4] (.two (.leaf) (.two (.two (.leaf) (.leaf)) (.join [(17, .b)] [0, 1, 2, 7, 14, 15, 16, 86, 87] [] (.join [(0, .i .i64), (1, .s), (2, .i .i64), (7, .s), (14, .s), (15, .i .i64), (16, .i .i64), (17, .b), (86, .i .i64), (87, .i .i64)] [] [] (.two (.leaf) (.leaf)) .leaf) (.leaf))))) .leaf)) (.two (.two (.leaf) (.two (.two (.leaf) (.leaf)) (.leaf))) (.two (.leaf) (.two (.leaf) (.leaf))))))) .leaf) (.leaf)))) .leaf)) (.two (.two (.leaf) (.join [(130, .b)] [0, 2, 7, 14] [] (.leaf) (.two (.two (.leaf) (.leaf)) (.leaf)))) (.two (.join [(142, .b)] [0, 2, 7, 14] [] (.leaf) (.two (.two (.leaf) (.leaf)) (.leaf))) (.two (.two (.leaf) (.join [(0, .i .i64), (2, .i .i64), (7, .s)] [] [] (.loop [(145, .i .i64)] [0, 2, 7, 14, 144] [6] (.two (.leaf) (.two (.two (.leaf) (.leaf)) (.two (.join [(0, .i .i64), (2, .i .i64), (7, .s), (14, .s), (144, .i .i64), (145, .i .i64)] [] [] (.two (.leaf) (.two (.leaf) (.two (.leaf) (.two (.two (.leaf) (.join [(0, .i .i64), (2, .i .i64), (7, .s), (14, .s), (21, .i .i64), (22, .i .i64), (23, .i .i64), (24, .b), (144, .i .i64), (145, .i .i64)] [] [] (.loop [(24, .b), (155, .i .i64)] [0, 2, 7, 14, 21, 22, 23, 144, 145, 154] [8] (.two (.leaf) (.two (.two (.leaf) (.leaf)) (.join [(24, .b)] [0, 2, 7, 14, 21, 22, 23, 144, 145, 154, 155] [] (.join [(0, .i .i64), (2, .i .i64), (7, .s), (14, .s), (21, .i .i64), (22, .i .i64), (23, .i .i64), (24, .b), (144, .i .i64), (145, .i .i64), (154, .i .i64), (155, .i .i64)] [] [] (.two (.leaf) (.leaf)) .leaf) (.leaf))))) .leaf)) (.join [(185, .b)] [0, 2, 7, 14, 144, 145] [] (.leaf) (.two (.two (.leaf) (.leaf)) (.leaf))))))) .leaf) (.leaf))))) .leaf)) (.two (.leaf) (.two (.leaf) (.two (.leaf) (.leaf))))))))))))))
def R4 : Slots := [(6, .b)]
noncomputable def overdublaw13_SpaceWaits : FunA := denF Try.prog G4 Try.f4 A4 R4
noncomputable def overdublaw13_SpaceWaits_L5_B (os vs : List AV) (μ : AMem) : Option Res := joinK [(24, .b), (155, .i .i64)] vs (envO [0, 2, 7, 14, 21, 22, 23, 144, 145, 154] os) fun e => den Try.prog G4 Try.f4.ntmps (cL (cL (cR (cL (cR (cR (cR (cL (cL (cR (cR (cL (cL (cR (cL (cR (cR (cR (cR (cR (cR (cR (cR (cR (cR (bodyOf Try.f4)))))))))))))))))))))))))) (aL (aL (aR (aL (aR (aR (aR (aL (aL (aR (aR (aL (aL (aR (aL (aR (aR (aR (aR (aR (aR (aR (aR (aR (aR A4))))))))))))))))))))))))) { ret := R4, exits := [(8, [(0, .i .i64), (2, .i .i64), (7, .s), (14, .s), (21, .i .i64), (22, .i .i64), (23, .i .i64), (24, .b), (144, .i .i64), (145, .i .i64)]), (7, [(0, .i .i64), (2, .i .i64), (7, .s), (14, .s), (144, .i .i64), (145, .i .i64)]), (6, [(0, .i .i64), (2, .i .i64), (7, .s)])] } Res e μ fun ex e μ => some (ex, valsOf (Lv.at { ret := R4, exits := [(8, [(0, .i .i64), (2, .i .i64), (7, .s), (14, .s), (21, .i .i64), (22, .i .i64), (23, .i .i64), (24, .b), (144, .i .i64), (145, .i .i64)]), (7, [(0, .i .i64), (2, .i .i64), (7, .s), (14, .s), (144, .i .i64), (145, .i .i64)]), (6, [(0, .i .i64), (2, .i .i64), (7, .s)])] } [(24, .b), (155, .i .i64)] ex) e, μ)
noncomputable def overdublaw13_SpaceWaits_L5 (os vs : List AV) (μ : AMem) : Option Res := loopA (overdublaw13_SpaceWaits_L5_B os) vs μ
noncomputable def overdublaw13_SpaceWaits_L4_B (os vs : List AV) (μ : AMem) : Option Res := joinK [(17, .b), (87, .i .i64)] vs (envO [0, 1, 2, 7, 14, 15, 16, 86] os) fun e => den Try.prog G4 Try.f4.ntmps (cL (cL (cR (cL (cR (cR (cL (cL (cR (cL (cL (cR (cL (cR (cR (cR (cR (cR (cR (cR (bodyOf Try.f4))))))))))))))))))))) (aL (aL (aR (aL (aR (aR (aL (aL (aR (aL (aL (aR (aL (aR (aR (aR (aR (aR (aR (aR A4)))))))))))))))))))) { ret := R4, exits := [(4, [(0, .i .i64), (1, .s), (2, .i .i64), (7, .s), (14, .s), (15, .i .i64), (16, .i .i64), (17, .b)]), (3, [(0, .i .i64), (1, .s), (2, .i .i64), (7, .s), (14, .s), (15, .i .i64)]), (2, [(0, .i .i64), (2, .i .i64), (7, .s), (14, .s)])] } Res e μ fun ex e μ => some (ex, valsOf (Lv.at { ret := R4, exits := [(4, [(0, .i .i64), (1, .s), (2, .i .i64), (7, .s), (14, .s), (15, .i .i64), (16, .i .i64), (17, .b)]), (3, [(0, .i .i64), (1, .s), (2, .i .i64), (7, .s), (14, .s), (15, .i .i64)]), (2, [(0, .i .i64), (2, .i .i64), (7, .s), (14, .s)])] } [(17, .b), (87, .i .i64)] ex) e, μ)
noncomputable def overdublaw13_SpaceWaits_L4 (os vs : List AV) (μ : AMem) : Option Res := loopA (overdublaw13_SpaceWaits_L4_B os) vs μ
noncomputable def overdublaw13_SpaceWaits_L3_B (os vs : List AV) (μ : AMem) : Option Res := joinK [(145, .i .i64)] vs (envO [0, 2, 7, 14, 144] os) fun e => den Try.prog G4 Try.f4.ntmps (cL (cL (cR (cL (cR (cR (cR (cR (cR (cR (cR (cR (cR (cR (bodyOf Try.f4))))))))))))))) (aL (aL (aR (aL (aR (aR (aR (aR (aR (aR (aR (aR (aR (aR A4)))))))))))))) { ret := R4, exits := [(6, [(0, .i .i64), (2, .i .i64), (7, .s)])] } Res e μ fun ex e μ => some (ex, valsOf (Lv.at { ret := R4, exits := [(6, [(0, .i .i64), (2, .i .i64), (7, .s)])] } [(145, .i .i64)] ex) e, μ)
noncomputable def overdublaw13_SpaceWaits_L3 (os vs : List AV) (μ : AMem) : Option Res := loopA (overdublaw13_SpaceWaits_L3_B os) vs μ
noncomputable def overdublaw13_SpaceWaits_L2_B (os vs : List AV) (μ : AMem) : Option Res := joinK [(14, .s), (15, .i .i64)] vs (envO [0, 1, 2, 7] os) fun e => den Try.prog G4 Try.f4.ntmps (cL (cL (cR (cL (cR (cR (cR (cR (cR (cR (cR (bodyOf Try.f4)))))))))))) (aL (aL (aR (aL (aR (aR (aR (aR (aR (aR (aR A4))))))))))) { ret := R4, exits := [(2, [(0, .i .i64), (2, .i .i64), (7, .s), (14, .s)])] } Res e μ fun ex e μ => some (ex, valsOf (Lv.at { ret := R4, exits := [(2, [(0, .i .i64), (2, .i .i64), (7, .s), (14, .s)])] } [(14, .s), (15, .i .i64)] ex) e, μ)
noncomputable def overdublaw13_SpaceWaits_L2 (os vs : List AV) (μ : AMem) : Option Res := loopA (overdublaw13_SpaceWaits_L2_B os) vs μ
noncomputable def overdublaw13_SpaceWaits_L1_B (os vs : List AV) (μ : AMem) : Option Res := joinK [(9, .i .i64)] vs (envO [0, 1, 2, 7] os) fun e => den Try.prog G4 Try.f4.ntmps (cL (cL (cR (cL (cR (cR (cR (cR (bodyOf Try.f4))))))))) (aL (aL (aR (aL (aR (aR (aR (aR A4)))))))) { ret := R4, exits := [(0, [(0, .i .i64), (1, .s), (2, .i .i64), (7, .s)])] } Res e μ fun ex e μ => some (ex, valsOf (Lv.at { ret := R4, exits := [(0, [(0, .i .i64), (1, .s), (2, .i .i64), (7, .s)])] } [(9, .i .i64)] ex) e, μ)
noncomputable def overdublaw13_SpaceWaits_L1 (os vs : List AV) (μ : AMem) : Option Res := loopA (overdublaw13_SpaceWaits_L1_B os) vs μ
theorem overdublaw13_SpaceWaits_L5_B_eq (s0 : Int) (s2 : Int) (s7 : SV) (s14 : SV) (s21 : Int) (s22 : Int) (s23 : Int) (s144 : Int) (s145 : Int) (s154 : Int) (s24 : Bool) (s155 : Int) (μ : AMem) : overdublaw13_SpaceWaits_L5_B [.s (.int .i64 s0), .s (.int .i64 s2), .s s7, .s s14, .s (.int .i64 s21), .s (.int .i64 s22), .s (.int .i64 s23), .s (.int .i64 s144), .s (.int .i64 s145), .s (.int .i64 s154)] [.s (.bool s24), .s (.int .i64 s155)] μ =
  bif decide (s155 < s154) then
  (seqJ
    (bif !s24 then
      (indS 1 (.s s14) s155 fun p308 =>
        loadAt μ p308 fun v309 =>
        asI .i64 v309 fun n310 =>
        some (.normal, [.s (.bool (n310 == s22))], μ))
      else
      (some (.normal, [.s (.bool true)], μ)))
    (fun vs311 m312 =>
      headK vs311 fun a313 r314 =>
      asB a313 fun b315 =>
      some (.normal, [.s (.bool b315), .s (.int .i64 (IntKind.wrap .i64 (s155 + 1)))], m312))
    (fun vs316 m317 =>
      headK vs316 fun a321 r322 =>
      asB a321 fun b323 =>
      some (.ret, [.s (.bool b323)], m317))
    (fun d320 vs318 m319 =>
      none))
  else
  (some (.exit 8, [.s (.int .i64 s0), .s (.int .i64 s2), .s s7, .s s14, .s (.int .i64 s21), .s (.int .i64 s22), .s (.int .i64 s23), .s (.bool s24), .s (.int .i64 s144), .s (.int .i64 s145)], μ)) := by kernel_rfl
theorem overdublaw13_SpaceWaits_L5_eq (os vs : List AV) (μ : AMem) : overdublaw13_SpaceWaits_L5 os vs μ = (overdublaw13_SpaceWaits_L5_B os vs μ).bind fun r => match r.1 with | .normal => overdublaw13_SpaceWaits_L5 os r.2.1 r.2.2 | _ => some r := loopA_eq _ _ _
theorem overdublaw13_SpaceWaits_L4_B_eq (s0 : Int) (s1 : SV) (s2 : Int) (s7 : SV) (s14 : SV) (s15 : Int) (s16 : Int) (s86 : Int) (s17 : Bool) (s87 : Int) (μ : AMem) : overdublaw13_SpaceWaits_L4_B [.s (.int .i64 s0), .s s1, .s (.int .i64 s2), .s s7, .s s14, .s (.int .i64 s15), .s (.int .i64 s16), .s (.int .i64 s86)] [.s (.bool s17), .s (.int .i64 s87)] μ =
  bif decide (s87 < s86) then
  (seqJ
    (bif !s17 then
      (indS 1 (.s s14) s87 fun p292 =>
        loadAt μ p292 fun v293 =>
        asI .i64 v293 fun n294 =>
        some (.normal, [.s (.bool (n294 == s16))], μ))
      else
      (some (.normal, [.s (.bool true)], μ)))
    (fun vs295 m296 =>
      headK vs295 fun a297 r298 =>
      asB a297 fun b299 =>
      some (.normal, [.s (.bool b299), .s (.int .i64 (IntKind.wrap .i64 (s87 + 1)))], m296))
    (fun vs300 m301 =>
      headK vs300 fun a305 r306 =>
      asB a305 fun b307 =>
      some (.ret, [.s (.bool b307)], m301))
    (fun d304 vs302 m303 =>
      none))
  else
  (some (.exit 4, [.s (.int .i64 s0), .s s1, .s (.int .i64 s2), .s s7, .s s14, .s (.int .i64 s15), .s (.int .i64 s16), .s (.bool s17)], μ)) := by kernel_rfl
theorem overdublaw13_SpaceWaits_L4_eq (os vs : List AV) (μ : AMem) : overdublaw13_SpaceWaits_L4 os vs μ = (overdublaw13_SpaceWaits_L4_B os vs μ).bind fun r => match r.1 with | .normal => overdublaw13_SpaceWaits_L4 os r.2.1 r.2.2 | _ => some r := loopA_eq _ _ _
theorem overdublaw13_SpaceWaits_L3_B_eq (s0 : Int) (s2 : Int) (s7 : SV) (s14 : SV) (s144 : Int) (s145 : Int) (μ : AMem) : overdublaw13_SpaceWaits_L3_B [.s (.int .i64 s0), .s (.int .i64 s2), .s s7, .s s14, .s (.int .i64 s144)] [.s (.int .i64 s145)] μ =
  bif decide (s145 < s144) then
  ((space_Space_Take [.s s7] μ).bind fun r232 =>
    extrK 0 r232.1 fun t233 =>
    asI .i64 t233 fun n234 =>
    extrK 1 r232.1 fun t235 =>
    asI .i64 t235 fun n236 =>
    (lenS (.s s14)).bind fun l237 =>
    seqJ (overdublaw13_SpaceWaits_L5 [.s (.int .i64 s0), .s (.int .i64 s2), .s s7, .s s14, .s (.int .i64 s145), .s (.int .i64 n234), .s (.int .i64 n236), .s (.int .i64 s144), .s (.int .i64 s145), .s (.int .i64 ((l237 : Nat) : Int))] [.s (.bool false), .s (.int .i64 0)] r232.2)
    (fun _ _ => none)
    (fun vs238 m239 =>
      headK vs238 fun a243 r244 =>
      asB a243 fun b245 =>
      some (.ret, [.s (.bool b245)], m239))
    (fun d242 vs240 m241 =>
      bif Nat.beq 8 d242 then (headK vs240 fun a246 r247 =>
        asI .i64 a246 fun n248 =>
        headK r247 fun a249 r250 =>
        asI .i64 a249 fun n251 =>
        headK r250 fun a252 r253 =>
        asS a252 fun x254 =>
        headK r253 fun a255 r256 =>
        asS a255 fun x257 =>
        headK r256 fun a258 r259 =>
        asI .i64 a258 fun n260 =>
        headK r259 fun a261 r262 =>
        asI .i64 a261 fun n263 =>
        headK r262 fun a264 r265 =>
        asI .i64 a264 fun n266 =>
        headK r265 fun a267 r268 =>
        asB a267 fun b269 =>
        headK r268 fun a270 r271 =>
        asI .i64 a270 fun n272 =>
        headK r271 fun a273 r274 =>
        asI .i64 a273 fun n275 =>
        seqJ
        (bif !(n266 != 0) then
          (bif !(!b269) then
            ((space_Space_Of [.s x254, .s (.int .i64 n263)] m241).bind fun r276 =>
              asI .i64 r276.1 fun n277 =>
              bif !(n277 != 1) then
              ((lenS (.s x257)).bind fun l278 =>
                some (.normal, [.s (.bool (decide (n260 > ((l278 : Nat) : Int))))], r276.2))
              else
              (some (.normal, [.s (.bool true)], r276.2)))
            else
            (some (.normal, [.s (.bool true)], m241)))
          else
          (some (.normal, [.s (.bool true)], m241)))
        (fun vs279 m280 =>
          headK vs279 fun a281 r282 =>
          asB a281 fun b283 =>
          bif b283 then
          (some (.ret, [.s (.bool false)], m280))
          else
          (some (.normal, [.s (.int .i64 (IntKind.wrap .i64 (n275 + 1)))], m280)))
        (fun vs284 m285 =>
          headK vs284 fun a289 r290 =>
          asB a289 fun b291 =>
          some (.ret, [.s (.bool b291)], m285))
        (fun d288 vs286 m287 =>
          none)) else (none)))
  else
  (some (.exit 6, [.s (.int .i64 s0), .s (.int .i64 s2), .s s7], μ)) := by rw [← G4_12, ← G4_13]; kernel_rfl
theorem overdublaw13_SpaceWaits_L3_eq (os vs : List AV) (μ : AMem) : overdublaw13_SpaceWaits_L3 os vs μ = (overdublaw13_SpaceWaits_L3_B os vs μ).bind fun r => match r.1 with | .normal => overdublaw13_SpaceWaits_L3 os r.2.1 r.2.2 | _ => some r := loopA_eq _ _ _
theorem overdublaw13_SpaceWaits_L2_B_eq (s0 : Int) (s1 : SV) (s2 : Int) (s7 : SV) (s14 : SV) (s15 : Int) (μ : AMem) : overdublaw13_SpaceWaits_L2_B [.s (.int .i64 s0), .s s1, .s (.int .i64 s2), .s s7] [.s s14, .s (.int .i64 s15)] μ =
  seqJ
  ((lenS (.s s1)).bind fun l162 =>
    bif decide (s15 < ((l162 : Nat) : Int)) then
    (some (.normal, [.s (.bool (decide (s15 < 10)))], μ))
    else
    (some (.normal, [.s (.bool false)], μ)))
  (fun vs163 m164 =>
    headK vs163 fun a165 r166 =>
    asB a165 fun b167 =>
    bif b167 then
    (seqJ
      (indS 1 (.s s1) s15 fun p168 =>
        loadAt m164 p168 fun v169 =>
        asI .i64 v169 fun n170 =>
        (overdubkeep_Within [.s (.int .i64 n170), .s (.int .i64 (IntKind.wrap .i64 (s0 - 1)))] m164).bind fun r171 =>
        asI .i64 r171.1 fun n172 =>
        (lenS (.s s14)).bind fun l173 =>
        seqJ (overdublaw13_SpaceWaits_L4 [.s (.int .i64 s0), .s s1, .s (.int .i64 s2), .s s7, .s s14, .s (.int .i64 s15), .s (.int .i64 (IntKind.wrap .i64 (1 + n172))), .s (.int .i64 ((l173 : Nat) : Int))] [.s (.bool false), .s (.int .i64 0)] r171.2)
        (fun _ _ => none)
        (fun vs174 m175 =>
          headK vs174 fun a179 r180 =>
          asB a179 fun b181 =>
          some (.ret, [.s (.bool b181)], m175))
        (fun d178 vs176 m177 =>
          bif Nat.beq 4 d178 then (headK vs176 fun a182 r183 =>
            asI .i64 a182 fun n184 =>
            headK r183 fun a185 r186 =>
            asS a185 fun x187 =>
            headK r186 fun a188 r189 =>
            asI .i64 a188 fun n190 =>
            headK r189 fun a191 r192 =>
            asS a191 fun x193 =>
            headK r192 fun a194 r195 =>
            asS a194 fun x196 =>
            headK r195 fun a197 r198 =>
            asI .i64 a197 fun n199 =>
            headK r198 fun a200 r201 =>
            asI .i64 a200 fun n202 =>
            headK r201 fun a203 r204 =>
            asB a203 fun b205 =>
            (space_Space_Drop [.s x193, .s (.int .i64 n202)] m177).bind fun r206 =>
            asB r206.1 fun b207 =>
            bif (b207 == b205) then
            (some (.ret, [.s (.bool false)], r206.2))
            else
            (bif (!b205) then
              (appendA 3 1 8 (r206.2.next + 3) ((r206.2.bump 5).set (r206.2.next + 2) (rowObj [.int .i64 n202] 1 3 (some 1))) (.s x196) (.s (.slice (r206.2.next + 2) 0 0 1)) fun x208 m209 =>
                asS x208 fun x210 =>
                some (.normal, [.s x210], m209))
              else
              (some (.normal, [.s x196], r206.2)))) else (none)))
      (fun vs211 m212 =>
        headK vs211 fun a213 r214 =>
        asS a213 fun x215 =>
        some (.normal, [.s x215, .s (.int .i64 (IntKind.wrap .i64 (s15 + 1)))], m212))
      (fun vs216 m217 =>
        headK vs216 fun a221 r222 =>
        asB a221 fun b223 =>
        some (.ret, [.s (.bool b223)], m217))
      (fun d220 vs218 m219 =>
        none))
    else
    (some (.exit 2, [.s (.int .i64 s0), .s (.int .i64 s2), .s s7, .s s14], m164)))
  (fun vs224 m225 =>
    headK vs224 fun a229 r230 =>
    asB a229 fun b231 =>
    some (.ret, [.s (.bool b231)], m225))
  (fun d228 vs226 m227 =>
    none) := by rw [← G4_8, ← G4_10]; kernel_rfl
theorem overdublaw13_SpaceWaits_L2_eq (os vs : List AV) (μ : AMem) : overdublaw13_SpaceWaits_L2 os vs μ = (overdublaw13_SpaceWaits_L2_B os vs μ).bind fun r => match r.1 with | .normal => overdublaw13_SpaceWaits_L2 os r.2.1 r.2.2 | _ => some r := loopA_eq _ _ _
theorem overdublaw13_SpaceWaits_L1_B_eq (s0 : Int) (s1 : SV) (s2 : Int) (s7 : SV) (s9 : Int) (μ : AMem) : overdublaw13_SpaceWaits_L1_B [.s (.int .i64 s0), .s s1, .s (.int .i64 s2), .s s7] [.s (.int .i64 s9)] μ =
  bif decide (s9 < s0) then
  ((space_Space_Take [.s s7] μ).bind fun r144 =>
    extrK 0 r144.1 fun t145 =>
    asI .i64 t145 fun n146 =>
    extrK 1 r144.1 fun t147 =>
    asI .i64 t147 fun n148 =>
    seqJ
    (bif !(n148 != 0) then
      (some (.normal, [.s (.bool (n146 != s9))], r144.2))
      else
      (some (.normal, [.s (.bool true)], r144.2)))
    (fun vs149 m150 =>
      headK vs149 fun a151 r152 =>
      asB a151 fun b153 =>
      bif b153 then
      (some (.ret, [.s (.bool false)], m150))
      else
      (some (.normal, [.s (.int .i64 (IntKind.wrap .i64 (s9 + 1)))], m150)))
    (fun vs154 m155 =>
      headK vs154 fun a159 r160 =>
      asB a159 fun b161 =>
      some (.ret, [.s (.bool b161)], m155))
    (fun d158 vs156 m157 =>
      none))
  else
  (some (.exit 0, [.s (.int .i64 s0), .s s1, .s (.int .i64 s2), .s s7], μ)) := by rw [← G4_12]; kernel_rfl
theorem overdublaw13_SpaceWaits_L1_eq (os vs : List AV) (μ : AMem) : overdublaw13_SpaceWaits_L1 os vs μ = (overdublaw13_SpaceWaits_L1_B os vs μ).bind fun r => match r.1 with | .normal => overdublaw13_SpaceWaits_L1 os r.2.1 r.2.2 | _ => some r := loopA_eq _ _ _
theorem overdublaw13_SpaceWaits_eq (p0 : Int) (p1 : SV) (p2 : Int) (μ : AMem) : overdublaw13_SpaceWaits [.s (.int .i64 p0), .s p1, .s (.int .i64 p2)] μ =
  (overdubkeep_Within [.s (.int .i64 p0), .s (.int .i64 20)] μ).bind fun r1 =>
  asI .i64 r1.1 fun n2 =>
  (space_New [.s (.int .i64 (IntKind.wrap .i64 (2 + n2))), .s (.int .i64 1)] r1.2).bind fun r3 =>
  extrK 0 r3.1 fun t4 =>
  asS t4 fun x5 =>
  extrK 1 r3.1 fun t6 =>
  asI .i64 t6 fun n7 =>
  seqJ
  (bif !(n7 != 0) then
    ((isNil (.s x5)).bind fun b8 =>
      some (.normal, [.s (.bool b8)], r3.2))
    else
    (some (.normal, [.s (.bool true)], r3.2)))
  (fun vs9 m10 =>
    headK vs9 fun a11 r12 =>
    asB a11 fun b13 =>
    bif b13 then
    (some (.s (.bool false), m10))
    else
    (seqJ (overdublaw13_SpaceWaits_L1 [.s (.int .i64 (IntKind.wrap .i64 (2 + n2))), .s p1, .s (.int .i64 p2), .s x5] [.s (.int .i64 1)] m10)
      (fun _ _ => none)
      (fun vs14 m15 =>
        headK vs14 fun a19 r20 =>
        asB a19 fun b21 =>
        some (.s (.bool b21), m15))
      (fun d18 vs16 m17 =>
        bif Nat.beq 0 d18 then (headK vs16 fun a22 r23 =>
          asI .i64 a22 fun n24 =>
          headK r23 fun a25 r26 =>
          asS a25 fun x27 =>
          headK r26 fun a28 r29 =>
          asI .i64 a28 fun n30 =>
          headK r29 fun a31 r32 =>
          asS a31 fun x33 =>
          (space_Space_Take [.s x33] m17).bind fun r34 =>
          extrK 0 r34.1 fun t35 =>
          asI .i64 t35 fun n36 =>
          extrK 1 r34.1 fun t37 =>
          asI .i64 t37 fun n38 =>
          bif (n38 != 3) then
          (some (.s (.bool false), r34.2))
          else
          (seqJ (overdublaw13_SpaceWaits_L2 [.s (.int .i64 n24), .s x27, .s (.int .i64 n30), .s x33] [.s .nilSlice, .s (.int .i64 0)] r34.2)
            (fun _ _ => none)
            (fun vs39 m40 =>
              headK vs39 fun a44 r45 =>
              asB a44 fun b46 =>
              some (.s (.bool b46), m40))
            (fun d43 vs41 m42 =>
              bif Nat.beq 2 d43 then (headK vs41 fun a47 r48 =>
                asI .i64 a47 fun n49 =>
                headK r48 fun a50 r51 =>
                asI .i64 a50 fun n52 =>
                headK r51 fun a53 r54 =>
                asS a53 fun x55 =>
                headK r54 fun a56 r57 =>
                asS a56 fun x58 =>
                (space_Space_Take [.s x55] m42).bind fun r59 =>
                extrK 0 r59.1 fun t60 =>
                asI .i64 t60 fun n61 =>
                extrK 1 r59.1 fun t62 =>
                asI .i64 t62 fun n63 =>
                seqJ
                (bif !(n63 != 3) then
                  ((space_Space_Free [.s x55] r59.2).bind fun r64 =>
                    asI .i64 r64.1 fun n65 =>
                    bif !(n65 != 0) then
                    ((space_Space_Waiting [.s x55] r64.2).bind fun r66 =>
                      asS r66.1 fun x67 =>
                      (lenS (.s x67)).bind fun l68 =>
                      (lenS (.s x58)).bind fun l69 =>
                      some (.normal, [.s (.bool (((l68 : Nat) : Int) != ((l69 : Nat) : Int)))], r66.2))
                    else
                    (some (.normal, [.s (.bool true)], r64.2)))
                  else
                  (some (.normal, [.s (.bool true)], r59.2)))
                (fun vs70 m71 =>
                  headK vs70 fun a72 r73 =>
                  asB a72 fun b74 =>
                  bif b74 then
                  (some (.s (.bool false), m71))
                  else
                  (seqJ
                    ((space_Space_Commit [.s x55] m71).bind fun r75 =>
                      asI .i64 r75.1 fun n76 =>
                      (lenS (.s x58)).bind fun l77 =>
                      bif !(n76 != ((l77 : Nat) : Int)) then
                      ((space_Space_Free [.s x55] r75.2).bind fun r78 =>
                        asI .i64 r78.1 fun n79 =>
                        (lenS (.s x58)).bind fun l80 =>
                        some (.normal, [.s (.bool (n79 != ((l80 : Nat) : Int)))], r78.2))
                      else
                      (some (.normal, [.s (.bool true)], r75.2)))
                    (fun vs81 m82 =>
                      headK vs81 fun a83 r84 =>
                      asB a83 fun b85 =>
                      bif b85 then
                      (some (.s (.bool false), m82))
                      else
                      ((lenS (.s x58)).bind fun l86 =>
                        seqJ (overdublaw13_SpaceWaits_L3 [.s (.int .i64 n49), .s (.int .i64 n52), .s x55, .s x58, .s (.int .i64 ((l86 : Nat) : Int))] [.s (.int .i64 0)] m82)
                        (fun _ _ => none)
                        (fun vs87 m88 =>
                          headK vs87 fun a92 r93 =>
                          asB a92 fun b94 =>
                          some (.s (.bool b94), m88))
                        (fun d91 vs89 m90 =>
                          bif Nat.beq 6 d91 then (headK vs89 fun a95 r96 =>
                            asI .i64 a95 fun n97 =>
                            headK r96 fun a98 r99 =>
                            asI .i64 a98 fun n100 =>
                            headK r99 fun a101 r102 =>
                            asS a101 fun x103 =>
                            (space_Space_Take [.s x103] m90).bind fun r104 =>
                            extrK 0 r104.1 fun t105 =>
                            asI .i64 t105 fun n106 =>
                            extrK 1 r104.1 fun t107 =>
                            asI .i64 t107 fun n108 =>
                            (overdubkeep_Within [.s (.int .i64 n100), .s (.int .i64 (IntKind.wrap .i64 (n97 - 1)))] r104.2).bind fun r109 =>
                            asI .i64 r109.1 fun n110 =>
                            bif (n108 == 3) then
                            ((space_Space_Share [.s x103, .s (.int .i64 (IntKind.wrap .i64 (1 + n110)))] r109.2).bind fun r111 =>
                              asB r111.1 fun b112 =>
                              bif b112 then
                              ((space_Space_Drop [.s x103, .s (.int .i64 (IntKind.wrap .i64 (1 + n110)))] r111.2).bind fun r113 =>
                                asB r113.1 fun b114 =>
                                bif b114 then
                                ((space_Space_Waiting [.s x103] r113.2).bind fun r115 =>
                                  asS r115.1 fun x116 =>
                                  (lenS (.s x116)).bind fun l117 =>
                                  bif (((l117 : Nat) : Int) == 0) then
                                  ((overdublaw13_wakes [] r115.2).bind fun r118 =>
                                    asB r118.1 fun b119 =>
                                    some (.s (.bool b119), r118.2))
                                  else
                                  (some (.s (.bool false), r115.2)))
                                else
                                (some (.s (.bool false), r113.2)))
                              else
                              (some (.s (.bool false), r111.2)))
                            else
                            (some (.s (.bool false), r109.2))) else (none))))
                    (fun vs120 m121 =>
                      headK vs120 fun a125 r126 =>
                      asB a125 fun b127 =>
                      some (.s (.bool b127), m121))
                    (fun d124 vs122 m123 =>
                      none)))
                (fun vs128 m129 =>
                  headK vs128 fun a133 r134 =>
                  asB a133 fun b135 =>
                  some (.s (.bool b135), m129))
                (fun d132 vs130 m131 =>
                  none)) else (none)))) else (none))))
  (fun vs136 m137 =>
    headK vs136 fun a141 r142 =>
    asB a141 fun b143 =>
    some (.s (.bool b143), m137))
  (fun d140 vs138 m139 =>
    none) := by rw [← G4_8, ← G4_9, ← G4_12, ← G4_10, ← G4_16, ← G4_17, ← G4_11, ← G4_18, ← G4_15]; kernel_rfl

/-! ### overdub/overdubkeep.Same[int] -/
noncomputable def G19 : FuncId → FunA := fun _ _ _ => none
def A19 : Ann := .two (.leaf) (.two (.two (.leaf) (.two (.two (.leaf) (.leaf)) (.leaf))) (.two (.two (.leaf) (.join [] [] [] (.loop [(5, .i .i64)] [0, 1] [0] (.two (.two (.leaf) (.two (.leaf) (.leaf))) (.two (.join [(0, .s), (1, .s), (5, .i .i64)] [] [] (.two (.ord [0, 1, 2, 3, 4, 5, 6, 7, 8]) (.two (.two (.leaf) (.leaf)) (.leaf))) .leaf) (.leaf)))) .leaf)) (.two (.leaf) (.leaf))))
def R19 : Slots := [(4, .b)]
noncomputable def overdubkeep_Same_int : FunA := denF Try.prog G19 Try.f19 A19 R19
noncomputable def overdubkeep_Same_int_L1_B (os vs : List AV) (μ : AMem) : Option Res := joinK [(5, .i .i64)] vs (envO [0, 1] os) fun e => den Try.prog G19 Try.f19.ntmps (cL (cL (cR (cL (cR (cR (bodyOf Try.f19))))))) (aL (aL (aR (aL (aR (aR A19)))))) { ret := R19, exits := [(0, [])] } Res e μ fun ex e μ => some (ex, valsOf (Lv.at { ret := R19, exits := [(0, [])] } [(5, .i .i64)] ex) e, μ)
noncomputable def overdubkeep_Same_int_L1 (os vs : List AV) (μ : AMem) : Option Res := loopA (overdubkeep_Same_int_L1_B os) vs μ
theorem overdubkeep_Same_int_L1_B_eq (s0 : SV) (s1 : SV) (s5 : Int) (μ : AMem) : overdubkeep_Same_int_L1_B [.s s0, .s s1] [.s (.int .i64 s5)] μ =
  (lenS (.s s0)).bind fun l11 =>
  bif decide (s5 < ((l11 : Nat) : Int)) then
  (indS 1 (.s s0) s5 fun p12 =>
    loadAt μ p12 fun v13 =>
    asI .i64 v13 fun n14 =>
    indS 1 (.s s1) s5 fun p15 =>
    loadAt μ p15 fun v16 =>
    asI .i64 v16 fun n17 =>
    bif (n14 != n17) then
    (some (.ret, [.s (.bool false)], μ))
    else
    (some (.normal, [.s (.int .i64 (IntKind.wrap .i64 (s5 + 1)))], μ)))
  else
  (some (.exit 0, [], μ)) := by kernel_rfl
theorem overdubkeep_Same_int_L1_eq (os vs : List AV) (μ : AMem) : overdubkeep_Same_int_L1 os vs μ = (overdubkeep_Same_int_L1_B os vs μ).bind fun r => match r.1 with | .normal => overdubkeep_Same_int_L1 os r.2.1 r.2.2 | _ => some r := loopA_eq _ _ _
theorem overdubkeep_Same_int_eq (p0 : SV) (p1 : SV) (μ : AMem) : overdubkeep_Same_int [.s p0, .s p1] μ =
  (lenS (.s p0)).bind fun l1 =>
  (lenS (.s p1)).bind fun l2 =>
  bif (((l1 : Nat) : Int) != ((l2 : Nat) : Int)) then
  (some (.s (.bool false), μ))
  else
  (seqJ (overdubkeep_Same_int_L1 [.s p0, .s p1] [.s (.int .i64 0)] μ)
    (fun _ _ => none)
    (fun vs3 m4 =>
      headK vs3 fun a8 r9 =>
      asB a8 fun b10 =>
      some (.s (.bool b10), m4))
    (fun d7 vs5 m6 =>
      bif Nat.beq 0 d7 then (some (.s (.bool true), m6)) else (none))) := by kernel_rfl

/-! ### overdub/overdublaw13.SpaceShares -/
noncomputable def G5 : FuncId → FunA := fun g => bif Nat.beq g 8 then overdubkeep_Within else bif Nat.beq g 9 then space_New else bif Nat.beq g 12 then space_Space_Take else bif Nat.beq g 18 then space_Space_Share else bif Nat.beq g 17 then space_Space_Waiting else bif Nat.beq g 13 then space_Space_Of else bif Nat.beq g 10 then space_Space_Drop else bif Nat.beq g 19 then overdubkeep_Same_int else bif Nat.beq g 14 then space_Space_Used else bif Nat.beq g 16 then space_Space_Free else bif Nat.beq g 11 then space_Space_Commit else bif Nat.beq g 15 then overdublaw13_wakes else fun _ _ => none
theorem G5_8 : G5 8 = overdubkeep_Within := by kernel_rfl
theorem G5_9 : G5 9 = space_New := by kernel_rfl
theorem G5_12 : G5 12 = space_Space_Take := by kernel_rfl
theorem G5_18 : G5 18 = space_Space_Share := by kernel_rfl
theorem G5_17 : G5 17 = space_Space_Waiting := by kernel_rfl
theorem G5_13 : G5 13 = space_Space_Of := by kernel_rfl
theorem G5_10 : G5 10 = space_Space_Drop := by kernel_rfl
theorem G5_19 : G5 19 = overdubkeep_Same_int := by kernel_rfl
theorem G5_14 : G5 14 = space_Space_Used := by kernel_rfl
theorem G5_16 : G5 16 = space_Space_Free := by kernel_rfl
theorem G5_11 : G5 11 = space_Space_Commit := by kernel_rfl
theorem G5_15 : G5 15 = overdublaw13_wakes := by kernel_rfl
def A5 : Ann := .two (.leaf) (.two (.leaf) (.two (.leaf) (.two (.join [(20, .b)] [0, 3] [] (.leaf) (.two (.two (.leaf) (.leaf)) (.leaf))) (.two (.leaf) (.two (.join [(31, .b)] [0, 3, 5] [] (.leaf) (.two (.two (.leaf) (.leaf)) (.leaf))) (.two (.two (.leaf) (.join [(0, .i .i64), (3, .s), (5, .i .i64)] [] [] (.loop [(7, .i .i64)] [0, 3, 5] [0] (.two (.two (.leaf) (.two (.leaf) (.leaf))) (.two (.join [(0, .i .i64), (3, .s), (5, .i .i64), (7, .i .i64)] [] [] (.two (.leaf) (.two (.two (.leaf) (.leaf)) (.leaf))) .leaf) (.leaf)))) .leaf)) (.two (.two (.leaf) (.join [(3, .s), (5, .i .i64)] [] [] (.loop [(8, .i .i64)] [0, 3, 5] [2] (.two (.two (.leaf) (.two (.leaf) (.leaf))) (.two (.join [(0, .i .i64), (3, .s), (5, .i .i64), (8, .i .i64)] [] [] (.join [(65, .b)] [0, 3, 5, 8] [] (.leaf) (.two (.two (.leaf) (.leaf)) (.leaf))) .leaf) (.leaf)))) .leaf)) (.two (.leaf) (.leaf)))))))))
def R5 : Slots := [(2, .b)]
noncomputable def overdublaw13_SpaceShares : FunA := denF Try.prog G5 Try.f5 A5 R5
noncomputable def overdublaw13_SpaceShares_L2_B (os vs : List AV) (μ : AMem) : Option Res := joinK [(8, .i .i64)] vs (envO [0, 3, 5] os) fun e => den Try.prog G5 Try.f5.ntmps (cL (cL (cR (cL (cR (cR (cR (cR (cR (cR (cR (bodyOf Try.f5)))))))))))) (aL (aL (aR (aL (aR (aR (aR (aR (aR (aR (aR A5))))))))))) { ret := R5, exits := [(2, [(3, .s), (5, .i .i64)])] } Res e μ fun ex e μ => some (ex, valsOf (Lv.at { ret := R5, exits := [(2, [(3, .s), (5, .i .i64)])] } [(8, .i .i64)] ex) e, μ)
noncomputable def overdublaw13_SpaceShares_L2 (os vs : List AV) (μ : AMem) : Option Res := loopA (overdublaw13_SpaceShares_L2_B os) vs μ
noncomputable def overdublaw13_SpaceShares_L1_B (os vs : List AV) (μ : AMem) : Option Res := joinK [(7, .i .i64)] vs (envO [0, 3, 5] os) fun e => den Try.prog G5 Try.f5.ntmps (cL (cL (cR (cL (cR (cR (cR (cR (cR (cR (bodyOf Try.f5))))))))))) (aL (aL (aR (aL (aR (aR (aR (aR (aR (aR A5)))))))))) { ret := R5, exits := [(0, [(0, .i .i64), (3, .s), (5, .i .i64)])] } Res e μ fun ex e μ => some (ex, valsOf (Lv.at { ret := R5, exits := [(0, [(0, .i .i64), (3, .s), (5, .i .i64)])] } [(7, .i .i64)] ex) e, μ)
noncomputable def overdublaw13_SpaceShares_L1 (os vs : List AV) (μ : AMem) : Option Res := loopA (overdublaw13_SpaceShares_L1_B os) vs μ
theorem overdublaw13_SpaceShares_L2_B_eq (s0 : Int) (s3 : SV) (s5 : Int) (s8 : Int) (μ : AMem) : overdublaw13_SpaceShares_L2_B [.s (.int .i64 s0), .s s3, .s (.int .i64 s5)] [.s (.int .i64 s8)] μ =
  bif decide (s8 ≤ s0) then
  (seqJ
    ((space_Space_Waiting [.s s3] μ).bind fun r93 =>
      asS r93.1 fun x94 =>
      (lenS (.s x94)).bind fun l95 =>
      bif !(((l95 : Nat) : Int) != 0) then
      ((space_Space_Of [.s s3, .s (.int .i64 s5)] r93.2).bind fun r96 =>
        asI .i64 r96.1 fun n97 =>
        bif !(n97 != (IntKind.wrap .i64 ((IntKind.wrap .i64 (s0 + 1)) - s8))) then
        ((space_Space_Drop [.s s3, .s (.int .i64 s5)] r96.2).bind fun r98 =>
          asB r98.1 fun b99 =>
          some (.normal, [.s (.bool (!b99))], r98.2))
        else
        (some (.normal, [.s (.bool true)], r96.2)))
      else
      (some (.normal, [.s (.bool true)], r93.2)))
    (fun vs100 m101 =>
      headK vs100 fun a102 r103 =>
      asB a102 fun b104 =>
      bif b104 then
      (some (.ret, [.s (.bool false)], m101))
      else
      (some (.normal, [.s (.int .i64 (IntKind.wrap .i64 (s8 + 1)))], m101)))
    (fun vs105 m106 =>
      headK vs105 fun a110 r111 =>
      asB a110 fun b112 =>
      some (.ret, [.s (.bool b112)], m106))
    (fun d109 vs107 m108 =>
      none))
  else
  (some (.exit 2, [.s s3, .s (.int .i64 s5)], μ)) := by rw [← G5_17, ← G5_13, ← G5_10]; kernel_rfl
theorem overdublaw13_SpaceShares_L2_eq (os vs : List AV) (μ : AMem) : overdublaw13_SpaceShares_L2 os vs μ = (overdublaw13_SpaceShares_L2_B os vs μ).bind fun r => match r.1 with | .normal => overdublaw13_SpaceShares_L2 os r.2.1 r.2.2 | _ => some r := loopA_eq _ _ _
theorem overdublaw13_SpaceShares_L1_B_eq (s0 : Int) (s3 : SV) (s5 : Int) (s7 : Int) (μ : AMem) : overdublaw13_SpaceShares_L1_B [.s (.int .i64 s0), .s s3, .s (.int .i64 s5)] [.s (.int .i64 s7)] μ =
  bif decide (s7 < s0) then
  ((space_Space_Share [.s s3, .s (.int .i64 s5)] μ).bind fun r91 =>
    asB r91.1 fun b92 =>
    bif (!b92) then
    (some (.ret, [.s (.bool false)], r91.2))
    else
    (some (.normal, [.s (.int .i64 (IntKind.wrap .i64 (s7 + 1)))], r91.2)))
  else
  (some (.exit 0, [.s (.int .i64 s0), .s s3, .s (.int .i64 s5)], μ)) := by rw [← G5_18]; kernel_rfl
theorem overdublaw13_SpaceShares_L1_eq (os vs : List AV) (μ : AMem) : overdublaw13_SpaceShares_L1 os vs μ = (overdublaw13_SpaceShares_L1_B os vs μ).bind fun r => match r.1 with | .normal => overdublaw13_SpaceShares_L1 os r.2.1 r.2.2 | _ => some r := loopA_eq _ _ _
theorem overdublaw13_SpaceShares_eq (p0 : Int) (μ : AMem) : overdublaw13_SpaceShares [.s (.int .i64 p0)] μ =
  (overdubkeep_Within [.s (.int .i64 p0), .s (.int .i64 9)] μ).bind fun r1 =>
  asI .i64 r1.1 fun n2 =>
  (space_New [.s (.int .i64 5), .s (.int .i64 2)] r1.2).bind fun r3 =>
  extrK 0 r3.1 fun t4 =>
  asS t4 fun x5 =>
  extrK 1 r3.1 fun t6 =>
  asI .i64 t6 fun n7 =>
  seqJ
  (bif !(n7 != 0) then
    ((isNil (.s x5)).bind fun b8 =>
      some (.normal, [.s (.bool b8)], r3.2))
    else
    (some (.normal, [.s (.bool true)], r3.2)))
  (fun vs9 m10 =>
    headK vs9 fun a11 r12 =>
    asB a11 fun b13 =>
    bif b13 then
    (some (.s (.bool false), m10))
    else
    ((space_Space_Take [.s x5] m10).bind fun r14 =>
      extrK 0 r14.1 fun t15 =>
      asI .i64 t15 fun n16 =>
      extrK 1 r14.1 fun t17 =>
      asI .i64 t17 fun n18 =>
      seqJ
      (bif !(n18 != 0) then
        (some (.normal, [.s (.bool (n16 != 2))], r14.2))
        else
        (some (.normal, [.s (.bool true)], r14.2)))
      (fun vs19 m20 =>
        headK vs19 fun a21 r22 =>
        asB a21 fun b23 =>
        bif b23 then
        (some (.s (.bool false), m20))
        else
        (seqJ (overdublaw13_SpaceShares_L1 [.s (.int .i64 n2), .s x5, .s (.int .i64 n16)] [.s (.int .i64 0)] m20)
          (fun _ _ => none)
          (fun vs24 m25 =>
            headK vs24 fun a29 r30 =>
            asB a29 fun b31 =>
            some (.s (.bool b31), m25))
          (fun d28 vs26 m27 =>
            bif Nat.beq 0 d28 then (headK vs26 fun a32 r33 =>
              asI .i64 a32 fun n34 =>
              headK r33 fun a35 r36 =>
              asS a35 fun x37 =>
              headK r36 fun a38 r39 =>
              asI .i64 a38 fun n40 =>
              seqJ (overdublaw13_SpaceShares_L2 [.s (.int .i64 n34), .s x37, .s (.int .i64 n40)] [.s (.int .i64 0)] m27)
              (fun _ _ => none)
              (fun vs41 m42 =>
                headK vs41 fun a46 r47 =>
                asB a46 fun b48 =>
                some (.s (.bool b48), m42))
              (fun d45 vs43 m44 =>
                bif Nat.beq 2 d45 then (headK vs43 fun a49 r50 =>
                  asS a49 fun x51 =>
                  headK r50 fun a52 r53 =>
                  asI .i64 a52 fun n54 =>
                  (space_Space_Waiting [.s x51] (m44.bump 46)).bind fun r55 =>
                  asS r55.1 fun x56 =>
                  (overdubkeep_Same_int [.s x56, .s (.slice (m44.next + 2) 0 0 1)] (r55.2.set (m44.next + 2) (rowObj [.int .i64 2] 1 3 (some 1)))).bind fun r57 =>
                  asB r57.1 fun b58 =>
                  bif b58 then
                  ((space_Space_Drop [.s x51, .s (.int .i64 n54)] r57.2).bind fun r59 =>
                    asB r59.1 fun b60 =>
                    bif (!b60) then
                    ((space_Space_Share [.s x51, .s (.int .i64 n54)] r59.2).bind fun r61 =>
                      asB r61.1 fun b62 =>
                      bif (!b62) then
                      ((space_Space_Used [.s x51, .s (.int .i64 n54)] r61.2).bind fun r63 =>
                        asB r63.1 fun b64 =>
                        bif b64 then
                        ((space_Space_Free [.s x51] r63.2).bind fun r65 =>
                          asI .i64 r65.1 fun n66 =>
                          bif (n66 == 2) then
                          ((space_Space_Commit [.s x51] r65.2).bind fun r67 =>
                            asI .i64 r67.1 fun n68 =>
                            bif (n68 == 1) then
                            ((space_Space_Used [.s x51, .s (.int .i64 n54)] r67.2).bind fun r69 =>
                              asB r69.1 fun b70 =>
                              bif (!b70) then
                              ((space_Space_Free [.s x51] r69.2).bind fun r71 =>
                                asI .i64 r71.1 fun n72 =>
                                bif (n72 == 3) then
                                ((overdublaw13_wakes [] r71.2).bind fun r73 =>
                                  asB r73.1 fun b74 =>
                                  some (.s (.bool b74), r73.2))
                                else
                                (some (.s (.bool false), r71.2)))
                              else
                              (some (.s (.bool false), r69.2)))
                            else
                            (some (.s (.bool false), r67.2)))
                          else
                          (some (.s (.bool false), r65.2)))
                        else
                        (some (.s (.bool false), r63.2)))
                      else
                      (some (.s (.bool false), r61.2)))
                    else
                    (some (.s (.bool false), r59.2)))
                  else
                  (some (.s (.bool false), r57.2))) else (none))) else (none))))
      (fun vs75 m76 =>
        headK vs75 fun a80 r81 =>
        asB a80 fun b82 =>
        some (.s (.bool b82), m76))
      (fun d79 vs77 m78 =>
        none)))
  (fun vs83 m84 =>
    headK vs83 fun a88 r89 =>
    asB a88 fun b90 =>
    some (.s (.bool b90), m84))
  (fun d87 vs85 m86 =>
    none) := by rw [← G5_8, ← G5_9, ← G5_12, ← G5_18, ← G5_17, ← G5_10, ← G5_19, ← G5_14, ← G5_16, ← G5_11, ← G5_15]; kernel_rfl

/-! ### overdub/overdubkeep.Copy[int] -/
noncomputable def G21 : FuncId → FunA := fun _ _ _ => none
def A21 : Ann := .two (.leaf) (.two (.leaf) (.leaf))
def R21 : Slots := [(2, .s)]
noncomputable def overdubkeep_Copy_int : FunA := denF Try.prog G21 Try.f21 A21 R21
theorem overdubkeep_Copy_int_eq (p0 : SV) (μ : AMem) : overdubkeep_Copy_int [.s p0] μ =
  appendA 3 1 8 (μ.next + 1) (μ.bump 3) (.s .nilSlice) (.s p0) fun x1 m2 =>
  asS x1 fun x3 =>
  some (.s x3, m2) := by kernel_rfl

/-! ### (*overdub/space.Space).Keep -/
noncomputable def G20 : FuncId → FunA := fun g => bif Nat.beq g 33 then bitmap_Map_Len else bif Nat.beq g 26 then space_fresh else bif Nat.beq g 30 then refs_Table_Add else bif Nat.beq g 28 then bitmap_Map_Set else fun _ _ => none
theorem G20_33 : G20 33 = bitmap_Map_Len := by kernel_rfl
theorem G20_26 : G20 26 = space_fresh := by kernel_rfl
theorem G20_30 : G20 30 = refs_Table_Add := by kernel_rfl
theorem G20_28 : G20 28 = bitmap_Map_Set := by kernel_rfl
def A20 : Ann := .two (.leaf) (.two (.two (.leaf) (.join [(0, .s), (1, .s)] [] [] (.loop [(11, .i .i64)] [0, 1, 9, 10] [0] (.two (.leaf) (.two (.two (.leaf) (.leaf)) (.two (.join [(0, .s), (1, .s), (9, .s), (10, .i .i64), (11, .i .i64)] [] [] (.two (.leaf) (.join [(29, .b)] [0, 1, 9, 10, 11] [] (.leaf) (.two (.two (.leaf) (.leaf)) (.leaf)))) .leaf) (.leaf))))) .leaf)) (.two (.ord [0, 1, 2, 3, 4, 5, 7, 8, 9, 10, 6, 11, 12, 13, 14, 15, 16, 17, 18, 19, 20]) (.two (.leaf) (.two (.two (.leaf) (.join [(0, .s)] [] [] (.loop [(58, .i .i64)] [0, 56, 57] [2] (.two (.leaf) (.two (.two (.leaf) (.leaf)) (.two (.join [(0, .s), (56, .s), (57, .i .i64), (58, .i .i64)] [] [] (.two (.leaf) (.leaf)) .leaf) (.leaf))))) .leaf)) (.two (.leaf) (.two (.leaf) (.leaf)))))))
def R20 : Slots := [(4, .b)]
noncomputable def space_Space_Keep : FunA := denF Try.prog G20 Try.f20 A20 R20
noncomputable def space_Space_Keep_L2_B (os vs : List AV) (μ : AMem) : Option Res := joinK [(58, .i .i64)] vs (envO [0, 56, 57] os) fun e => den Try.prog G20 Try.f20.ntmps (cL (cL (cR (cL (cR (cR (cR (cR (bodyOf Try.f20))))))))) (aL (aL (aR (aL (aR (aR (aR (aR A20)))))))) { ret := R20, exits := [(2, [(0, .s)])] } Res e μ fun ex e μ => some (ex, valsOf (Lv.at { ret := R20, exits := [(2, [(0, .s)])] } [(58, .i .i64)] ex) e, μ)
noncomputable def space_Space_Keep_L2 (os vs : List AV) (μ : AMem) : Option Res := loopA (space_Space_Keep_L2_B os) vs μ
noncomputable def space_Space_Keep_L1_B (os vs : List AV) (μ : AMem) : Option Res := joinK [(11, .i .i64)] vs (envO [0, 1, 9, 10] os) fun e => den Try.prog G20 Try.f20.ntmps (cL (cL (cR (cL (cR (bodyOf Try.f20)))))) (aL (aL (aR (aL (aR A20))))) { ret := R20, exits := [(0, [(0, .s), (1, .s)])] } Res e μ fun ex e μ => some (ex, valsOf (Lv.at { ret := R20, exits := [(0, [(0, .s), (1, .s)])] } [(11, .i .i64)] ex) e, μ)
noncomputable def space_Space_Keep_L1 (os vs : List AV) (μ : AMem) : Option Res := loopA (space_Space_Keep_L1_B os) vs μ
theorem space_Space_Keep_L2_B_eq (s0 : SV) (s56 : SV) (s57 : Int) (s58 : Int) (μ : AMem) : space_Space_Keep_L2_B [.s s0, .s s56, .s (.int .i64 s57)] [.s (.int .i64 s58)] μ =
  bif decide (s58 < s57) then
  (indS 1 (.s s56) s58 fun p73 =>
    loadAt μ p73 fun v74 =>
    asI .i64 v74 fun n75 =>
    nonNil (.s s0)
    (ptrAdd 1 (.s s0) fun p76 =>
      loadAt μ p76 fun v77 =>
      asS v77 fun x78 =>
      (bitmap_Map_Set [.s x78, .s (.int .i64 n75), .s (.bool true)] μ).bind fun r79 =>
      asB r79.1 fun b80 =>
      some (.normal, [.s (.int .i64 (IntKind.wrap .i64 (s58 + 1)))], r79.2)))
  else
  (some (.exit 2, [.s s0], μ)) := by rw [← G20_28]; kernel_rfl
theorem space_Space_Keep_L2_eq (os vs : List AV) (μ : AMem) : space_Space_Keep_L2 os vs μ = (space_Space_Keep_L2_B os vs μ).bind fun r => match r.1 with | .normal => space_Space_Keep_L2 os r.2.1 r.2.2 | _ => some r := loopA_eq _ _ _
theorem space_Space_Keep_L1_B_eq (s0 t0 u0 : Nat) (s1 : SV) (s9 : SV) (s10 : Int) (s11 : Int) (μ : AMem) : space_Space_Keep_L1_B [.s (.ptr s0 t0 u0), .s s1, .s s9, .s (.int .i64 s10)] [.s (.int .i64 s11)] μ =
  bif decide (s11 < s10) then
  (indS 1 (.s s9) s11 fun p52 =>
    loadAt μ p52 fun v53 =>
    asI .i64 v53 fun n54 =>
    seqJ
    ((μ.cell s0 t0 (u0 + 0)).bind fun x55 =>
      asI .i64 (.s x55) fun n56 =>
      bif !(decide (n54 < n56)) then
      ((μ.cell s0 t0 (u0 + 1)).bind fun x57 =>
        (bitmap_Map_Len [.s x57] μ).bind fun r58 =>
        asI .i64 r58.1 fun n59 =>
        some (.normal, [.s (.bool (decide (n54 ≥ n59)))], r58.2))
      else
      (some (.normal, [.s (.bool true)], μ)))
    (fun vs60 m61 =>
      headK vs60 fun a62 r63 =>
      asB a62 fun b64 =>
      bif b64 then
      (some (.ret, [.s (.bool false)], m61))
      else
      (some (.normal, [.s (.int .i64 (IntKind.wrap .i64 (s11 + 1)))], m61)))
    (fun vs65 m66 =>
      headK vs65 fun a70 r71 =>
      asB a70 fun b72 =>
      some (.ret, [.s (.bool b72)], m66))
    (fun d69 vs67 m68 =>
      none))
  else
  (some (.exit 0, [.s (.ptr s0 t0 u0), .s s1], μ)) := by rw [← G20_33]; kernel_rfl
theorem space_Space_Keep_L1_eq (os vs : List AV) (μ : AMem) : space_Space_Keep_L1 os vs μ = (space_Space_Keep_L1_B os vs μ).bind fun r => match r.1 with | .normal => space_Space_Keep_L1 os r.2.1 r.2.2 | _ => some r := loopA_eq _ _ _
theorem space_Space_Keep_eq (p0 q0 o0 : Nat) (p1 : SV) (μ : AMem) : space_Space_Keep [.s (.ptr p0 q0 o0), .s p1] μ =
  (lenS (.s p1)).bind fun l1 =>
  seqJ (space_Space_Keep_L1 [.s (.ptr p0 q0 o0), .s p1, .s p1, .s (.int .i64 ((l1 : Nat) : Int))] [.s (.int .i64 0)] μ)
  (fun _ _ => none)
  (fun vs2 m3 =>
    headK vs2 fun a7 r8 =>
    asB a7 fun b9 =>
    some (.s (.bool b9), m3))
  (fun d6 vs4 m5 =>
    bif Nat.beq 0 d6 then (headK vs4 fun a10 r11 =>
      asS a10 fun x12 =>
      headK r11 fun a13 r14 =>
      asS a13 fun x15 =>
      nonNil (.s x12)
      (ptrAdd 1 (.s x12) fun p16 =>
        loadAt m5 p16 fun v17 =>
        asS v17 fun x18 =>
        nonNil (.s x12)
        (ptrAdd 0 (.s x12) fun p19 =>
          loadAt m5 p19 fun v20 =>
          asI .i64 v20 fun n21 =>
          (bitmap_Map_Len [.s x18] m5).bind fun r22 =>
          asI .i64 r22.1 fun n23 =>
          checkA ((loadAt r22.2 p19 some) = some (.s (.int .i64 n21)))
          ((space_fresh [.s (.int .i64 n23), .s (.int .i64 n21)] r22.2).bind fun r24 =>
            extrK 0 r24.1 fun t25 =>
            asS t25 fun x26 =>
            extrK 1 r24.1 fun t27 =>
            asS t27 fun x28 =>
            nonNil (.s x12)
            (ptrAdd 1 (.s x12) fun p29 =>
              storeAt 1 r24.2 p29 (.s x26) fun m30 =>
              nonNil (.s x12)
              (ptrAdd 2 (.s x12) fun p31 =>
                storeAt 1 m30 p31 (.s x28) fun m32 =>
                nonNil (.s x12)
                (ptrAdd 2 (.s x12) fun p33 =>
                  loadAt m32 p33 fun v34 =>
                  asS v34 fun x35 =>
                  (refs_Table_Add [.s x35, .s x15] m32).bind fun r36 =>
                  asB r36.1 fun b37 =>
                  (lenS (.s x15)).bind fun l38 =>
                  seqJ (space_Space_Keep_L2 [.s x12, .s x15, .s (.int .i64 ((l38 : Nat) : Int))] [.s (.int .i64 0)] r36.2)
                  (fun _ _ => none)
                  (fun vs39 m40 =>
                    headK vs39 fun a44 r45 =>
                    asB a44 fun b46 =>
                    some (.s (.bool b46), m40))
                  (fun d43 vs41 m42 =>
                    bif Nat.beq 2 d43 then (headK vs41 fun a47 r48 =>
                      asS a47 fun x49 =>
                      nonNil (.s x49)
                      (ptrAdd 3 (.s x49) fun p50 =>
                        storeAt 1 m42 p50 (.s .nilSlice) fun m51 =>
                        some (.s (.bool true), m51))) else (none))))))))) else (none)) := by rw [← G20_33, ← G20_26, ← G20_30]; kernel_rfl

/-! ### overdub/overdublaw13.SpaceKeeps -/
noncomputable def G6 : FuncId → FunA := fun g => bif Nat.beq g 9 then space_New else bif Nat.beq g 8 then overdubkeep_Within else bif Nat.beq g 12 then space_Space_Take else bif Nat.beq g 16 then space_Space_Free else bif Nat.beq g 21 then overdubkeep_Copy_int else bif Nat.beq g 20 then space_Space_Keep else bif Nat.beq g 13 then space_Space_Of else bif Nat.beq g 14 then space_Space_Used else bif Nat.beq g 17 then space_Space_Waiting else bif Nat.beq g 15 then overdublaw13_wakes else fun _ _ => none
theorem G6_9 : G6 9 = space_New := by kernel_rfl
theorem G6_8 : G6 8 = overdubkeep_Within := by kernel_rfl
theorem G6_12 : G6 12 = space_Space_Take := by kernel_rfl
theorem G6_16 : G6 16 = space_Space_Free := by kernel_rfl
theorem G6_21 : G6 21 = overdubkeep_Copy_int := by kernel_rfl
theorem G6_20 : G6 20 = space_Space_Keep := by kernel_rfl
theorem G6_13 : G6 13 = space_Space_Of := by kernel_rfl
theorem G6_14 : G6 14 = space_Space_Used := by kernel_rfl
theorem G6_17 : G6 17 = space_Space_Waiting := by kernel_rfl
theorem G6_15 : G6 15 = overdublaw13_wakes := by kernel_rfl
def A6 : Ann := .two (.leaf) (.two (.leaf) (.two (.join [(26, .b)] [0, 1, 2, 7] [] (.leaf) (.two (.two (.leaf) (.leaf)) (.leaf))) (.two (.two (.leaf) (.join [(0, .s), (2, .i .i64), (7, .s)] [] [] (.loop [(9, .i .i64)] [0, 1, 2, 7] [0] (.two (.two (.leaf) (.two (.leaf) (.leaf))) (.two (.join [(0, .s), (1, .i .i64), (2, .i .i64), (7, .s), (9, .i .i64)] [] [] (.leaf) .leaf) (.leaf)))) .leaf)) (.two (.leaf) (.two (.leaf) (.two (.leaf) (.two (.two (.leaf) (.join [(2, .i .i64), (7, .s), (10, .s), (11, .i .i64), (12, .s)] [] [] (.loop [(10, .s), (11, .i .i64), (13, .i .i64)] [0, 2, 7, 12] [2] (.two (.join [(42, .b)] [0, 2, 7, 10, 11, 12, 13] [] (.leaf) (.two (.leaf) (.leaf))) (.two (.join [(0, .s), (2, .i .i64), (7, .s), (10, .s), (11, .i .i64), (12, .s), (13, .i .i64)] [] [] (.two (.leaf) (.two (.leaf) (.join [(11, .i .i64)] [0, 2, 7, 10, 12, 13, 14] [] (.two (.leaf) (.two (.leaf) (.leaf))) (.leaf)))) .leaf) (.leaf)))) .leaf)) (.join [(2, .i .i64)] [7, 10, 11, 12] [] (.join [(71, .b)] [2, 7, 10, 11, 12] [] (.leaf) (.two (.leaf) (.leaf))) (.two (.leaf) (.two (.join [(92, .b)] [7, 11, 12] [] (.leaf) (.two (.two (.leaf) (.leaf)) (.leaf))) (.two (.two (.leaf) (.join [(7, .s), (11, .i .i64)] [] [] (.loop [(93, .i .i64)] [7, 11, 12] [4] (.two (.leaf) (.two (.two (.leaf) (.leaf)) (.two (.join [(7, .s), (11, .i .i64), (12, .s), (93, .i .i64)] [] [] (.two (.leaf) (.join [(116, .b)] [7, 11, 12, 93] [] (.ord [0, 1, 3, 4, 5, 2, 6, 7, 8, 9, 10, 11, 12, 13, 14, 15, 16, 17, 18, 19, 20]) (.two (.two (.leaf) (.leaf)) (.leaf)))) .leaf) (.leaf))))) .leaf)) (.two (.leaf) (.leaf)))))))))))))
def R6 : Slots := [(6, .b)]
noncomputable def overdublaw13_SpaceKeeps : FunA := denF Try.prog G6 Try.f6 A6 R6
noncomputable def overdublaw13_SpaceKeeps_L3_B (os vs : List AV) (μ : AMem) : Option Res := joinK [(93, .i .i64)] vs (envO [7, 11, 12] os) fun e => den Try.prog G6 Try.f6.ntmps (cL (cL (cR (cL (cR (cR (cR (cR (cR (cR (cR (cR (cR (cR (cR (bodyOf Try.f6)))))))))))))))) (aL (aL (aR (aL (aR (aR (aR (aR (aR (aR (aR (aR (aR (aR (aR A6))))))))))))))) { ret := R6, exits := [(4, [(7, .s), (11, .i .i64)])] } Res e μ fun ex e μ => some (ex, valsOf (Lv.at { ret := R6, exits := [(4, [(7, .s), (11, .i .i64)])] } [(93, .i .i64)] ex) e, μ)
noncomputable def overdublaw13_SpaceKeeps_L3 (os vs : List AV) (μ : AMem) : Option Res := loopA (overdublaw13_SpaceKeeps_L3_B os) vs μ
noncomputable def overdublaw13_SpaceKeeps_L2_B (os vs : List AV) (μ : AMem) : Option Res := joinK [(10, .s), (11, .i .i64), (13, .i .i64)] vs (envO [0, 2, 7, 12] os) fun e => den Try.prog G6 Try.f6.ntmps (cL (cL (cR (cL (cR (cR (cR (cR (cR (cR (cR (bodyOf Try.f6)))))))))))) (aL (aL (aR (aL (aR (aR (aR (aR (aR (aR (aR A6))))))))))) { ret := R6, exits := [(2, [(2, .i .i64), (7, .s), (10, .s), (11, .i .i64), (12, .s)])] } Res e μ fun ex e μ => some (ex, valsOf (Lv.at { ret := R6, exits := [(2, [(2, .i .i64), (7, .s), (10, .s), (11, .i .i64), (12, .s)])] } [(10, .s), (11, .i .i64), (13, .i .i64)] ex) e, μ)
noncomputable def overdublaw13_SpaceKeeps_L2 (os vs : List AV) (μ : AMem) : Option Res := loopA (overdublaw13_SpaceKeeps_L2_B os) vs μ
noncomputable def overdublaw13_SpaceKeeps_L1_B (os vs : List AV) (μ : AMem) : Option Res := joinK [(9, .i .i64)] vs (envO [0, 1, 2, 7] os) fun e => den Try.prog G6 Try.f6.ntmps (cL (cL (cR (cL (cR (cR (cR (bodyOf Try.f6)))))))) (aL (aL (aR (aL (aR (aR (aR A6))))))) { ret := R6, exits := [(0, [(0, .s), (2, .i .i64), (7, .s)])] } Res e μ fun ex e μ => some (ex, valsOf (Lv.at { ret := R6, exits := [(0, [(0, .s), (2, .i .i64), (7, .s)])] } [(9, .i .i64)] ex) e, μ)
noncomputable def overdublaw13_SpaceKeeps_L1 (os vs : List AV) (μ : AMem) : Option Res := loopA (overdublaw13_SpaceKeeps_L1_B os) vs μ
theorem overdublaw13_SpaceKeeps_L3_B_eq (s7 : SV) (s11 : Int) (s12 : SV) (s93 : Int) (μ : AMem) : overdublaw13_SpaceKeeps_L3_B [.s s7, .s (.int .i64 s11), .s s12] [.s (.int .i64 s93)] μ =
  bif decide (s93 < 12) then
  (seqJ
    (indP 12 1 (.s s12) s93 fun p176 =>
      loadAt μ p176 fun v177 =>
      asI .i64 v177 fun n178 =>
      (space_Space_Of [.s s7, .s (.int .i64 s93)] μ).bind fun r179 =>
      asI .i64 r179.1 fun n180 =>
      checkA ((loadAt r179.2 p176 some) = some (.s (.int .i64 n178)))
      (bif !(n180 != n178) then
        ((space_Space_Used [.s s7, .s (.int .i64 s93)] r179.2).bind fun r181 =>
          asB r181.1 fun b182 =>
          bif !(decide (s93 < 3)) then
          (indP 12 1 (.s s12) s93 fun p183 =>
            loadAt r181.2 p183 fun v184 =>
            asI .i64 v184 fun n185 =>
            some (.normal, [.s (.bool (!(b182 == (decide (n185 > 0)))))], r181.2))
          else
          (some (.normal, [.s (.bool (!(b182 == true)))], r181.2)))
        else
        (some (.normal, [.s (.bool true)], r179.2))))
    (fun vs186 m187 =>
      headK vs186 fun a188 r189 =>
      asB a188 fun b190 =>
      bif b190 then
      (some (.ret, [.s (.bool false)], m187))
      else
      (some (.normal, [.s (.int .i64 (IntKind.wrap .i64 (s93 + 1)))], m187)))
    (fun vs191 m192 =>
      headK vs191 fun a196 r197 =>
      asB a196 fun b198 =>
      some (.ret, [.s (.bool b198)], m192))
    (fun d195 vs193 m194 =>
      none))
  else
  (some (.exit 4, [.s s7, .s (.int .i64 s11)], μ)) := by rw [← G6_13, ← G6_14]; kernel_rfl
theorem overdublaw13_SpaceKeeps_L3_eq (os vs : List AV) (μ : AMem) : overdublaw13_SpaceKeeps_L3 os vs μ = (overdublaw13_SpaceKeeps_L3_B os vs μ).bind fun r => match r.1 with | .normal => overdublaw13_SpaceKeeps_L3 os r.2.1 r.2.2 | _ => some r := loopA_eq _ _ _
theorem overdublaw13_SpaceKeeps_L2_B_eq (s0 : SV) (s2 : Int) (s7 : SV) (s12 t12 u12 : Nat) (s10 : SV) (s11 : Int) (s13 : Int) (μ : AMem) : overdublaw13_SpaceKeeps_L2_B [.s s0, .s (.int .i64 s2), .s s7, .s (.ptr s12 t12 u12)] [.s s10, .s (.int .i64 s11), .s (.int .i64 s13)] μ =
  seqJ
  ((lenS (.s s0)).bind fun l136 =>
    bif decide (s13 < ((l136 : Nat) : Int)) then
    (some (.normal, [.s (.bool (decide (s13 < 14)))], μ))
    else
    (some (.normal, [.s (.bool false)], μ)))
  (fun vs137 m138 =>
    headK vs137 fun a139 r140 =>
    asB a139 fun b141 =>
    bif b141 then
    (indS 1 (.s s0) s13 fun p142 =>
      loadAt m138 p142 fun v143 =>
      asI .i64 v143 fun n144 =>
      (overdubkeep_Within [.s (.int .i64 n144), .s (.int .i64 9)] m138).bind fun r145 =>
      asI .i64 r145.1 fun n146 =>
      appendA 3 1 8 (r145.2.next + 3) ((r145.2.bump 5).set (r145.2.next + 2) (rowObj [.int .i64 (IntKind.wrap .i64 (3 + n146))] 1 3 (some 1))) (.s s10) (.s (.slice (r145.2.next + 2) 0 0 1)) fun x147 m148 =>
      asS x147 fun x149 =>
      seqJ
      (if 0 ≤ (IntKind.wrap .i64 (3 + n146)) ∧ (IntKind.wrap .i64 (3 + n146)) < (12 : Nat) then
        ((m148.cell s12 t12 (u12 + Int.toNat (IntKind.wrap .i64 (3 + n146)) * 1)).bind fun x150 =>
          asI .i64 (.s x150) fun n151 =>
          bif (n151 == 0) then
          (some (.normal, [.s (.int .i64 (IntKind.wrap .i64 (s11 + 1)))], m148))
          else
          (some (.normal, [.s (.int .i64 s11)], m148))) else none)
      (fun vs152 m153 =>
        headK vs152 fun a154 r155 =>
        asI .i64 a154 fun n156 =>
        if 0 ≤ (IntKind.wrap .i64 (3 + n146)) ∧ (IntKind.wrap .i64 (3 + n146)) < (12 : Nat) then
        ((m153.cell s12 t12 (u12 + Int.toNat (IntKind.wrap .i64 (3 + n146)) * 1)).bind fun x157 =>
          asI .i64 (.s x157) fun n158 =>
          if 0 ≤ (IntKind.wrap .i64 (3 + n146)) ∧ (IntKind.wrap .i64 (3 + n146)) < (12 : Nat) then
          ((m153.store s12 t12 (u12 + Int.toNat (IntKind.wrap .i64 (3 + n146)) * 1) [.int .i64 (IntKind.wrap .i64 (n158 + 1))]).bind fun m159 =>
            some (.normal, [.s x149, .s (.int .i64 n156), .s (.int .i64 (IntKind.wrap .i64 (s13 + 1)))], m159)) else none) else none)
      (fun vs160 m161 =>
        headK vs160 fun a165 r166 =>
        asB a165 fun b167 =>
        some (.ret, [.s (.bool b167)], m161))
      (fun d164 vs162 m163 =>
        none))
    else
    (some (.exit 2, [.s (.int .i64 s2), .s s7, .s s10, .s (.int .i64 s11), .s (.ptr s12 t12 u12)], m138)))
  (fun vs168 m169 =>
    headK vs168 fun a173 r174 =>
    asB a173 fun b175 =>
    some (.ret, [.s (.bool b175)], m169))
  (fun d172 vs170 m171 =>
    none) := by rw [← G6_8]; kernel_rfl
theorem overdublaw13_SpaceKeeps_L2_eq (os vs : List AV) (μ : AMem) : overdublaw13_SpaceKeeps_L2 os vs μ = (overdublaw13_SpaceKeeps_L2_B os vs μ).bind fun r => match r.1 with | .normal => overdublaw13_SpaceKeeps_L2 os r.2.1 r.2.2 | _ => some r := loopA_eq _ _ _
theorem overdublaw13_SpaceKeeps_L1_B_eq (s0 : SV) (s1 : Int) (s2 : Int) (s7 : SV) (s9 : Int) (μ : AMem) : overdublaw13_SpaceKeeps_L1_B [.s s0, .s (.int .i64 s1), .s (.int .i64 s2), .s s7] [.s (.int .i64 s9)] μ =
  (overdubkeep_Within [.s (.int .i64 s1), .s (.int .i64 9)] μ).bind fun r133 =>
  asI .i64 r133.1 fun n134 =>
  bif decide (s9 < n134) then
  ((space_Space_Take [.s s7] r133.2).bind fun r135 =>
    some (.normal, [.s (.int .i64 (IntKind.wrap .i64 (s9 + 1)))], r135.2))
  else
  (some (.exit 0, [.s s0, .s (.int .i64 s2), .s s7], r133.2)) := by rw [← G6_8, ← G6_12]; kernel_rfl
theorem overdublaw13_SpaceKeeps_L1_eq (os vs : List AV) (μ : AMem) : overdublaw13_SpaceKeeps_L1 os vs μ = (overdublaw13_SpaceKeeps_L1_B os vs μ).bind fun r => match r.1 with | .normal => overdublaw13_SpaceKeeps_L1 os r.2.1 r.2.2 | _ => some r := loopA_eq _ _ _
theorem overdublaw13_SpaceKeeps_eq (p0 : SV) (p1 : Int) (p2 : Int) (μ : AMem) : overdublaw13_SpaceKeeps [.s p0, .s (.int .i64 p1), .s (.int .i64 p2)] μ =
  (space_New [.s (.int .i64 12), .s (.int .i64 3)] μ).bind fun r1 =>
  extrK 0 r1.1 fun t2 =>
  asS t2 fun x3 =>
  extrK 1 r1.1 fun t4 =>
  asI .i64 t4 fun n5 =>
  seqJ
  (bif !(n5 != 0) then
    ((isNil (.s x3)).bind fun b6 =>
      some (.normal, [.s (.bool b6)], r1.2))
    else
    (some (.normal, [.s (.bool true)], r1.2)))
  (fun vs7 m8 =>
    headK vs7 fun a9 r10 =>
    asB a9 fun b11 =>
    bif b11 then
    (some (.s (.bool false), m8))
    else
    (seqJ (overdublaw13_SpaceKeeps_L1 [.s p0, .s (.int .i64 p1), .s (.int .i64 p2), .s x3] [.s (.int .i64 0)] m8)
      (fun _ _ => none)
      (fun vs12 m13 =>
        headK vs12 fun a17 r18 =>
        asB a17 fun b19 =>
        some (.s (.bool b19), m13))
      (fun d16 vs14 m15 =>
        bif Nat.beq 0 d16 then (headK vs14 fun a20 r21 =>
          asS a20 fun x22 =>
          headK r21 fun a23 r24 =>
          asI .i64 a23 fun n25 =>
          headK r24 fun a26 r27 =>
          asS a26 fun x28 =>
          seqJ (overdublaw13_SpaceKeeps_L2 [.s x22, .s (.int .i64 n25), .s x28, .s (.ptr (m15.next + 0) 0 0)] [.s .nilSlice, .s (.int .i64 0), .s (.int .i64 0)] ((m15.bump 1).set (m15.next + 0) (rowObj [.int .i64 0, .int .i64 0, .int .i64 0, .int .i64 0, .int .i64 0, .int .i64 0, .int .i64 0, .int .i64 0, .int .i64 0, .int .i64 0, .int .i64 0, .int .i64 0] 12 39 (some 1))))
          (fun _ _ => none)
          (fun vs29 m30 =>
            headK vs29 fun a34 r35 =>
            asB a34 fun b36 =>
            some (.s (.bool b36), m30))
          (fun d33 vs31 m32 =>
            bif Nat.beq 2 d33 then (headK vs31 fun a37 r38 =>
              asI .i64 a37 fun n39 =>
              headK r38 fun a40 r41 =>
              asS a40 fun x42 =>
              headK r41 fun a43 r44 =>
              asS a43 fun x45 =>
              headK r44 fun a46 r47 =>
              asI .i64 a46 fun n48 =>
              headK r47 fun a49 r50 =>
              asS a49 fun x51 =>
              seqJ
              (seqJ
                (bif decide (n39 ≥ 3) then
                  (some (.normal, [.s (.bool (decide (n39 < 12)))], m32))
                  else
                  (some (.normal, [.s (.bool false)], m32)))
                (fun vs52 m53 =>
                  headK vs52 fun a54 r55 =>
                  asB a54 fun b56 =>
                  bif b56 then
                  (some (.normal, [.s (.int .i64 2)], m53))
                  else
                  (some (.normal, [.s (.int .i64 n39)], m53)))
                (fun vs57 m58 =>
                  headK vs57 fun a62 r63 =>
                  asB a62 fun b64 =>
                  some (.ret, [.s (.bool b64)], m58))
                (fun d61 vs59 m60 =>
                  none))
              (fun vs65 m66 =>
                headK vs65 fun a67 r68 =>
                asI .i64 a67 fun n69 =>
                (space_Space_Free [.s x42] m66).bind fun r70 =>
                asI .i64 r70.1 fun n71 =>
                seqJ
                ((overdubkeep_Copy_int [.s x45] (r70.2.bump 19)).bind fun r72 =>
                  asS r72.1 fun x73 =>
                  appendA 3 1 8 (r70.2.next + 5) (r72.2.set (r70.2.next + 4) (rowObj [.int .i64 n69] 1 3 (some 1))) (.s x73) (.s (.slice (r70.2.next + 4) 0 0 1)) fun x74 m75 =>
                  asS x74 fun x76 =>
                  (space_Space_Keep [.s x42, .s x76] m75).bind fun r77 =>
                  asB r77.1 fun b78 =>
                  bif !b78 then
                  ((space_Space_Free [.s x42] r77.2).bind fun r79 =>
                    asI .i64 r79.1 fun n80 =>
                    bif !(n80 != n71) then
                    ((space_Space_Keep [.s x42, .s x45] r79.2).bind fun r81 =>
                      asB r81.1 fun b82 =>
                      some (.normal, [.s (.bool (!b82))], r81.2))
                    else
                    (some (.normal, [.s (.bool true)], r79.2)))
                  else
                  (some (.normal, [.s (.bool true)], r77.2)))
                (fun vs83 m84 =>
                  headK vs83 fun a85 r86 =>
                  asB a85 fun b87 =>
                  bif b87 then
                  (some (.s (.bool false), m84))
                  else
                  (seqJ (overdublaw13_SpaceKeeps_L3 [.s x42, .s (.int .i64 n48), .s x51] [.s (.int .i64 0)] m84)
                    (fun _ _ => none)
                    (fun vs88 m89 =>
                      headK vs88 fun a93 r94 =>
                      asB a93 fun b95 =>
                      some (.s (.bool b95), m89))
                    (fun d92 vs90 m91 =>
                      bif Nat.beq 4 d92 then (headK vs90 fun a96 r97 =>
                        asS a96 fun x98 =>
                        headK r97 fun a99 r100 =>
                        asI .i64 a99 fun n101 =>
                        (space_Space_Free [.s x98] m91).bind fun r102 =>
                        asI .i64 r102.1 fun n103 =>
                        bif (n103 == (IntKind.wrap .i64 (9 - n101))) then
                        ((space_Space_Waiting [.s x98] r102.2).bind fun r104 =>
                          asS r104.1 fun x105 =>
                          (lenS (.s x105)).bind fun l106 =>
                          bif (((l106 : Nat) : Int) == 0) then
                          ((overdublaw13_wakes [] r104.2).bind fun r107 =>
                            asB r107.1 fun b108 =>
                            some (.s (.bool b108), r107.2))
                          else
                          (some (.s (.bool false), r104.2)))
                        else
                        (some (.s (.bool false), r102.2))) else (none))))
                (fun vs109 m110 =>
                  headK vs109 fun a114 r115 =>
                  asB a114 fun b116 =>
                  some (.s (.bool b116), m110))
                (fun d113 vs111 m112 =>
                  none))
              (fun vs117 m118 =>
                headK vs117 fun a122 r123 =>
                asB a122 fun b124 =>
                some (.s (.bool b124), m118))
              (fun d121 vs119 m120 =>
                none)) else (none))) else (none))))
  (fun vs125 m126 =>
    headK vs125 fun a130 r131 =>
    asB a130 fun b132 =>
    some (.s (.bool b132), m126))
  (fun d129 vs127 m128 =>
    none) := by rw [← G6_9, ← G6_16, ← G6_21, ← G6_20, ← G6_17, ← G6_15]; kernel_rfl

/-! ### overdub/overdubref10.NewSpace -/
noncomputable def G22 : FuncId → FunA := fun _ _ _ => none
def A22 : Ann := .two (.leaf) (.two (.join [(20, .b)] [0, 1] [] (.leaf) (.two (.two (.leaf) (.leaf)) (.leaf))) (.two (.ord [0, 1, 2, 3, 4, 5, 6, 7, 8, 9]) (.leaf)))
def R22 : Slots := [(4, .s), (5, .b)]
noncomputable def overdubref10_NewSpace : FunA := denF Try.prog G22 Try.f22 A22 R22
theorem overdubref10_NewSpace_eq (p0 : Int) (p1 : Int) (μ : AMem) : overdubref10_NewSpace [.s (.int .i64 p0), .s (.int .i64 p1)] μ =
  seqJ
  (bif !(decide (p0 < 1)) then
    (bif !(decide (p0 > 4096)) then
      (bif !(decide (p1 < 0)) then
        (some (.normal, [.s (.bool (decide (p1 > p0)))], μ))
        else
        (some (.normal, [.s (.bool true)], μ)))
      else
      (some (.normal, [.s (.bool true)], μ)))
    else
    (some (.normal, [.s (.bool true)], μ)))
  (fun vs1 m2 =>
    headK vs1 fun a3 r4 =>
    asB a3 fun b5 =>
    bif b5 then
    (some (.tuple [.s .nilPtr, .s (.bool false)], m2))
    else
    (if 0 ≤ p0 ∧ p0 ≤ p0 ∧ p0 ≤ 9223372036854775807 ∧ (8 : Nat) * p0 ≤ 140737488355328 then
      (checkA ((m2.bump 10).obj (m2.next + 3) = none)
        (if 0 ≤ p0 ∧ p0 ≤ p0 ∧ p0 ≤ 9223372036854775807 ∧ (1 : Nat) * p0 ≤ 140737488355328 then
          (checkA (((m2.bump 10).set (m2.next + 3) (rowObj (zerosA [.int .i64 0] (Int.toNat p0)) 1 3 (some (Int.toNat p0)))).obj (m2.next + 5) = none)
            (checkA ((((m2.bump 10).set (m2.next + 3) (rowObj (zerosA [.int .i64 0] (Int.toNat p0)) 1 3 (some (Int.toNat p0)))).set (m2.next + 5) (rowObj (zerosA [.bool false] (Int.toNat p0)) 1 4 (some (Int.toNat p0)))).obj (m2.next + 7) = none)
              (some (.tuple [.s (.ptr (m2.next + 7) 0 0), .s (.bool true)], ((((m2.bump 10).set (m2.next + 3) (rowObj (zerosA [.int .i64 0] (Int.toNat p0)) 1 3 (some (Int.toNat p0)))).set (m2.next + 5) (rowObj (zerosA [.bool false] (Int.toNat p0)) 1 4 (some (Int.toNat p0)))).set (m2.next + 7) (rowObj [.int .i64 p0, .int .i64 p1, .slice (m2.next + 3) 0 0 (Int.toNat p0), .slice (m2.next + 5) 0 0 (Int.toNat p0)] 4 62 (some 1))))))) else none)) else none))
  (fun vs6 m7 =>
    headK vs6 fun a11 r12 =>
    asS a11 fun x13 =>
    headK r12 fun a14 r15 =>
    asB a14 fun b16 =>
    some (.tuple [.s x13, .s (.bool b16)], m7))
  (fun d10 vs8 m9 =>
    none) := by kernel_rfl

/-! ### (*overdub/overdubref10.Space).Of -/
noncomputable def G44 : FuncId → FunA := fun _ _ _ => none
def A44 : Ann := .two (.leaf) (.two (.join [(14, .b)] [0, 1] [] (.leaf) (.two (.two (.leaf) (.leaf)) (.leaf))) (.two (.leaf) (.leaf)))
def R44 : Slots := [(4, .i .i64)]
noncomputable def overdubref10_Space_Of : FunA := denF Try.prog G44 Try.f44 A44 R44
theorem overdubref10_Space_Of_eq (p0 q0 o0 : Nat) (p1 : Int) (μ : AMem) : overdubref10_Space_Of [.s (.ptr p0 q0 o0), .s (.int .i64 p1)] μ =
  seqJ
  (bif !(decide (p1 < 0)) then
    ((μ.cell p0 q0 (o0 + 0)).bind fun x1 =>
      asI .i64 (.s x1) fun n2 =>
      some (.normal, [.s (.bool (decide (p1 ≥ n2)))], μ))
    else
    (some (.normal, [.s (.bool true)], μ)))
  (fun vs3 m4 =>
    headK vs3 fun a5 r6 =>
    asB a5 fun b7 =>
    bif b7 then
    (some (.s (.int .i64 0), m4))
    else
    ((m4.cell p0 q0 (o0 + 2)).bind fun x8 =>
      indS 1 (.s x8) p1 fun p9 =>
      loadAt m4 p9 fun v10 =>
      asI .i64 v10 fun n11 =>
      some (.s (.int .i64 n11), m4)))
  (fun vs12 m13 =>
    headK vs12 fun a17 r18 =>
    asI .i64 a17 fun n19 =>
    some (.s (.int .i64 n19), m13))
  (fun d16 vs14 m15 =>
    none) := by kernel_rfl

/-! ### (*overdub/overdubref10.Space).Drop -/
noncomputable def G35 : FuncId → FunA := fun g => bif Nat.beq g 44 then overdubref10_Space_Of else fun _ _ => none
theorem G35_44 : G35 44 = overdubref10_Space_Of := by kernel_rfl
def A35 : Ann := .two (.leaf) (.two (.two (.leaf) (.two (.two (.leaf) (.leaf)) (.leaf))) (.two (.leaf) (.two (.ord [0, 1, 2, 3, 4, 5, 6, 7, 8, 9, 10, 11, 12, 13, 14]) (.two (.leaf) (.leaf)))))
def R35 : Slots := [(4, .b)]
noncomputable def overdubref10_Space_Drop : FunA := denF Try.prog G35 Try.f35 A35 R35
theorem overdubref10_Space_Drop_eq (p0 q0 o0 : Nat) (p1 : Int) (μ : AMem) : overdubref10_Space_Drop [.s (.ptr p0 q0 o0), .s (.int .i64 p1)] μ =
  (overdubref10_Space_Of [.s (.ptr p0 q0 o0), .s (.int .i64 p1)] μ).bind fun r1 =>
  asI .i64 r1.1 fun n2 =>
  bif (n2 == 0) then
  (some (.s (.bool false), r1.2))
  else
  ((r1.2.cell p0 q0 (o0 + 2)).bind fun x3 =>
    indS 1 (.s x3) p1 fun p4 =>
    loadAt r1.2 p4 fun v5 =>
    asI .i64 v5 fun n6 =>
    indS 1 (.s x3) p1 fun p7 =>
    storeAt 1 r1.2 p7 (.s (.int .i64 (IntKind.wrap .i64 (n6 - 1)))) fun m8 =>
    (m8.cell p0 q0 (o0 + 3)).bind fun x9 =>
    (m8.cell p0 q0 (o0 + 2)).bind fun x10 =>
    indS 1 (.s x10) p1 fun p11 =>
    loadAt m8 p11 fun v12 =>
    asI .i64 v12 fun n13 =>
    indS 1 (.s x9) p1 fun p14 =>
    storeAt 1 m8 p14 (.s (.bool (n13 == 0))) fun m15 =>
    some (.s (.bool true), m15)) := by rw [← G35_44]; kernel_rfl

/-! ### (*overdub/overdubref10.Space).Share -/
noncomputable def G36 : FuncId → FunA := fun g => bif Nat.beq g 44 then overdubref10_Space_Of else fun _ _ => none
theorem G36_44 : G36 44 = overdubref10_Space_Of := by kernel_rfl
def A36 : Ann := .two (.leaf) (.two (.two (.leaf) (.two (.two (.leaf) (.leaf)) (.leaf))) (.two (.leaf) (.two (.leaf) (.leaf))))
def R36 : Slots := [(4, .b)]
noncomputable def overdubref10_Space_Share : FunA := denF Try.prog G36 Try.f36 A36 R36
theorem overdubref10_Space_Share_eq (p0 q0 o0 : Nat) (p1 : Int) (μ : AMem) : overdubref10_Space_Share [.s (.ptr p0 q0 o0), .s (.int .i64 p1)] μ =
  (overdubref10_Space_Of [.s (.ptr p0 q0 o0), .s (.int .i64 p1)] μ).bind fun r1 =>
  asI .i64 r1.1 fun n2 =>
  bif (n2 == 0) then
  (some (.s (.bool false), r1.2))
  else
  ((r1.2.cell p0 q0 (o0 + 2)).bind fun x3 =>
    indS 1 (.s x3) p1 fun p4 =>
    loadAt r1.2 p4 fun v5 =>
    asI .i64 v5 fun n6 =>
    indS 1 (.s x3) p1 fun p7 =>
    storeAt 1 r1.2 p7 (.s (.int .i64 (IntKind.wrap .i64 (n6 + 1)))) fun m8 =>
    some (.s (.bool true), m8)) := by rw [← G36_44]; kernel_rfl

/-! ### (*overdub/overdubref10.Space).Waiting -/
noncomputable def G42 : FuncId → FunA := fun _ _ _ => none
def A42 : Ann := .two (.leaf) (.two (.leaf) (.two (.two (.leaf) (.join [(3, .s)] [] [] (.loop [(3, .s), (10, .i .i64)] [0, 9] [0] (.two (.leaf) (.two (.two (.leaf) (.leaf)) (.join [(3, .s)] [0, 9, 10] [] (.join [(0, .s), (3, .s), (9, .i .i64), (10, .i .i64)] [] [] (.two (.leaf) (.two (.leaf) (.two (.leaf) (.leaf)))) .leaf) (.leaf))))) .leaf)) (.two (.leaf) (.leaf))))
def R42 : Slots := [(2, .s)]
noncomputable def overdubref10_Space_Waiting : FunA := denF Try.prog G42 Try.f42 A42 R42
noncomputable def overdubref10_Space_Waiting_L1_B (os vs : List AV) (μ : AMem) : Option Res := joinK [(3, .s), (10, .i .i64)] vs (envO [0, 9] os) fun e => den Try.prog G42 Try.f42.ntmps (cL (cL (cR (cL (cR (cR (bodyOf Try.f42))))))) (aL (aL (aR (aL (aR (aR A42)))))) { ret := R42, exits := [(0, [(3, .s)])] } Res e μ fun ex e μ => some (ex, valsOf (Lv.at { ret := R42, exits := [(0, [(3, .s)])] } [(3, .s), (10, .i .i64)] ex) e, μ)
noncomputable def overdubref10_Space_Waiting_L1 (os vs : List AV) (μ : AMem) : Option Res := loopA (overdubref10_Space_Waiting_L1_B os) vs μ
theorem overdubref10_Space_Waiting_L1_B_eq (s0 t0 u0 : Nat) (s9 : Int) (s3 : SV) (s10 : Int) (μ : AMem) : overdubref10_Space_Waiting_L1_B [.s (.ptr s0 t0 u0), .s (.int .i64 s9)] [.s s3, .s (.int .i64 s10)] μ =
  bif decide (s10 < s9) then
  (seqJ
    ((μ.cell s0 t0 (u0 + 3)).bind fun x14 =>
      indS 1 (.s x14) s10 fun p15 =>
      loadAt μ p15 fun v16 =>
      asB v16 fun b17 =>
      bif b17 then
      (appendA 3 1 8 (μ.next + 3) ((μ.bump 5).set (μ.next + 2) (rowObj [.int .i64 s10] 1 3 (some 1))) (.s s3) (.s (.slice (μ.next + 2) 0 0 1)) fun x18 m19 =>
        asS x18 fun x20 =>
        some (.normal, [.s x20], m19))
      else
      (some (.normal, [.s s3], μ)))
    (fun vs21 m22 =>
      headK vs21 fun a23 r24 =>
      asS a23 fun x25 =>
      some (.normal, [.s x25, .s (.int .i64 (IntKind.wrap .i64 (s10 + 1)))], m22))
    (fun vs26 m27 =>
      headK vs26 fun a31 r32 =>
      asS a31 fun x33 =>
      some (.ret, [.s x33], m27))
    (fun d30 vs28 m29 =>
      none))
  else
  (some (.exit 0, [.s s3], μ)) := by kernel_rfl
theorem overdubref10_Space_Waiting_L1_eq (os vs : List AV) (μ : AMem) : overdubref10_Space_Waiting_L1 os vs μ = (overdubref10_Space_Waiting_L1_B os vs μ).bind fun r => match r.1 with | .normal => overdubref10_Space_Waiting_L1 os r.2.1 r.2.2 | _ => some r := loopA_eq _ _ _
theorem overdubref10_Space_Waiting_eq (p0 q0 o0 : Nat) (μ : AMem) : overdubref10_Space_Waiting [.s (.ptr p0 q0 o0)] μ =
  (μ.cell p0 q0 (o0 + 3)).bind fun x1 =>
  (lenS (.s x1)).bind fun l2 =>
  seqJ (overdubref10_Space_Waiting_L1 [.s (.ptr p0 q0 o0), .s (.int .i64 ((l2 : Nat) : Int))] [.s .nilSlice, .s (.int .i64 0)] μ)
  (fun _ _ => none)
  (fun vs3 m4 =>
    headK vs3 fun a8 r9 =>
    asS a8 fun x10 =>
    some (.s x10, m4))
  (fun d7 vs5 m6 =>
    bif Nat.beq 0 d7 then (headK vs5 fun a11 r12 =>
      asS a11 fun x13 =>
      some (.s x13, m6)) else (none)) := by kernel_rfl

/-! ### (*overdub/overdubref10.Space).Commit -/
noncomputable def G37 : FuncId → FunA := fun g => bif Nat.beq g 42 then overdubref10_Space_Waiting else fun _ _ => none
theorem G37_42 : G37 42 = overdubref10_Space_Waiting := by kernel_rfl
def A37 : Ann := .two (.leaf) (.two (.leaf) (.two (.leaf) (.two (.leaf) (.leaf))))
def R37 : Slots := [(2, .i .i64)]
noncomputable def overdubref10_Space_Commit : FunA := denF Try.prog G37 Try.f37 A37 R37
theorem overdubref10_Space_Commit_eq (p0 q0 o0 : Nat) (μ : AMem) : overdubref10_Space_Commit [.s (.ptr p0 q0 o0)] μ =
  (overdubref10_Space_Waiting [.s (.ptr p0 q0 o0)] μ).bind fun r1 =>
  asS r1.1 fun x2 =>
  (lenS (.s x2)).bind fun l3 =>
  ((r1.2.bump 9).cell p0 q0 (o0 + 0)).bind fun x4 =>
  asI .i64 (.s x4) fun n5 =>
  if 0 ≤ n5 ∧ n5 ≤ n5 ∧ n5 ≤ 9223372036854775807 ∧ (1 : Nat) * n5 ≤ 140737488355328 then
  ((((r1.2.bump 9).set (r1.2.next + 5) (rowObj (zerosA [.bool false] (Int.toNat n5)) 1 4 (some (Int.toNat n5)))).store p0 q0 (o0 + 3) [.slice (r1.2.next + 5) 0 0 (Int.toNat n5)]).bind fun m6 =>
    some (.s (.int .i64 ((l3 : Nat) : Int)), m6)) else none := by rw [← G37_42]; kernel_rfl

/-! ### overdub/overdubkeep.Cut[int] -/
noncomputable def G38 : FuncId → FunA := fun _ _ _ => none
def A38 : Ann := .two (.leaf) (.two (.leaf) (.leaf))
def R38 : Slots := [(4, .s)]
noncomputable def overdubkeep_Cut_int : FunA := denF Try.prog G38 Try.f38 A38 R38
theorem overdubkeep_Cut_int_eq (p0 : SV) (p1 : Int) (μ : AMem) : overdubkeep_Cut_int [.s p0, .s (.int .i64 p1)] μ =
  (lenS (.s p0)).bind fun l1 =>
  cutS 1 (.s p0) 0 (if p1 < ((l1 : Nat) : Int) then p1 else ((l1 : Nat) : Int)) fun x2 =>
  some (x2, μ) := by kernel_rfl

/-! ### (*overdub/overdubref10.Space).Keep -/
noncomputable def G39 : FuncId → FunA := fun _ _ _ => none
def A39 : Ann := .two (.leaf) (.two (.two (.leaf) (.join [(0, .s), (1, .s)] [] [] (.loop [(9, .i .i64)] [0, 1, 8] [0] (.two (.leaf) (.two (.two (.leaf) (.leaf)) (.two (.join [(0, .s), (1, .s), (8, .i .i64), (9, .i .i64)] [] [] (.two (.leaf) (.join [(31, .b)] [0, 1, 8, 9] [] (.ord [0, 1, 2, 3, 4, 5, 6, 7, 8, 9, 10, 11, 12, 13, 14, 15, 16, 17, 18, 19]) (.two (.two (.leaf) (.leaf)) (.leaf)))) .leaf) (.leaf))))) .leaf)) (.two (.ord [0, 1, 2, 3, 4, 5, 7, 8, 9, 10, 6, 12, 13, 14, 11, 15, 16, 17]) (.two (.two (.leaf) (.join [] [] [] (.loop [(51, .i .i64)] [0, 1, 50] [2] (.two (.leaf) (.two (.two (.leaf) (.leaf)) (.two (.join [(0, .s), (1, .s), (50, .i .i64), (51, .i .i64)] [] [] (.two (.leaf) (.ord [0, 1, 2, 3, 4, 5, 6, 7, 8, 9, 10, 11, 12])) .leaf) (.leaf))))) .leaf)) (.two (.leaf) (.leaf)))))
def R39 : Slots := [(4, .b)]
noncomputable def overdubref10_Space_Keep : FunA := denF Try.prog G39 Try.f39 A39 R39
noncomputable def overdubref10_Space_Keep_L2_B (os vs : List AV) (μ : AMem) : Option Res := joinK [(51, .i .i64)] vs (envO [0, 1, 50] os) fun e => den Try.prog G39 Try.f39.ntmps (cL (cL (cR (cL (cR (cR (cR (bodyOf Try.f39)))))))) (aL (aL (aR (aL (aR (aR (aR A39))))))) { ret := R39, exits := [(2, [])] } Res e μ fun ex e μ => some (ex, valsOf (Lv.at { ret := R39, exits := [(2, [])] } [(51, .i .i64)] ex) e, μ)
noncomputable def overdubref10_Space_Keep_L2 (os vs : List AV) (μ : AMem) : Option Res := loopA (overdubref10_Space_Keep_L2_B os) vs μ
noncomputable def overdubref10_Space_Keep_L1_B (os vs : List AV) (μ : AMem) : Option Res := joinK [(9, .i .i64)] vs (envO [0, 1, 8] os) fun e => den Try.prog G39 Try.f39.ntmps (cL (cL (cR (cL (cR (bodyOf Try.f39)))))) (aL (aL (aR (aL (aR A39))))) { ret := R39, exits := [(0, [(0, .s), (1, .s)])] } Res e μ fun ex e μ => some (ex, valsOf (Lv.at { ret := R39, exits := [(0, [(0, .s), (1, .s)])] } [(9, .i .i64)] ex) e, μ)
noncomputable def overdubref10_Space_Keep_L1 (os vs : List AV) (μ : AMem) : Option Res := loopA (overdubref10_Space_Keep_L1_B os) vs μ
theorem overdubref10_Space_Keep_L2_B_eq (s0 : SV) (s1 : SV) (s50 : Int) (s51 : Int) (μ : AMem) : overdubref10_Space_Keep_L2_B [.s s0, .s s1, .s (.int .i64 s50)] [.s (.int .i64 s51)] μ =
  bif decide (s51 < s50) then
  (nonNil (.s s0)
    (ptrAdd 2 (.s s0) fun p58 =>
      loadAt μ p58 fun v59 =>
      asS v59 fun x60 =>
      indS 1 (.s s1) s51 fun p61 =>
      loadAt μ p61 fun v62 =>
      asI .i64 v62 fun n63 =>
      indS 1 (.s x60) n63 fun p64 =>
      loadAt μ p64 fun v65 =>
      asI .i64 v65 fun n66 =>
      indS 1 (.s x60) n63 fun p67 =>
      storeAt 1 μ p67 (.s (.int .i64 (IntKind.wrap .i64 (n66 + 1)))) fun m68 =>
      some (.normal, [.s (.int .i64 (IntKind.wrap .i64 (s51 + 1)))], m68)))
  else
  (some (.exit 2, [], μ)) := by kernel_rfl
theorem overdubref10_Space_Keep_L2_eq (os vs : List AV) (μ : AMem) : overdubref10_Space_Keep_L2 os vs μ = (overdubref10_Space_Keep_L2_B os vs μ).bind fun r => match r.1 with | .normal => overdubref10_Space_Keep_L2 os r.2.1 r.2.2 | _ => some r := loopA_eq _ _ _
theorem overdubref10_Space_Keep_L1_B_eq (s0 t0 u0 : Nat) (s1 : SV) (s8 : Int) (s9 : Int) (μ : AMem) : overdubref10_Space_Keep_L1_B [.s (.ptr s0 t0 u0), .s s1, .s (.int .i64 s8)] [.s (.int .i64 s9)] μ =
  bif decide (s9 < s8) then
  (seqJ
    (indS 1 (.s s1) s9 fun p35 =>
      loadAt μ p35 fun v36 =>
      asI .i64 v36 fun n37 =>
      (μ.cell s0 t0 (u0 + 1)).bind fun x38 =>
      asI .i64 (.s x38) fun n39 =>
      bif !(decide (n37 < n39)) then
      (indS 1 (.s s1) s9 fun p40 =>
        loadAt μ p40 fun v41 =>
        asI .i64 v41 fun n42 =>
        (μ.cell s0 t0 (u0 + 0)).bind fun x43 =>
        asI .i64 (.s x43) fun n44 =>
        some (.normal, [.s (.bool (decide (n42 ≥ n44)))], μ))
      else
      (some (.normal, [.s (.bool true)], μ)))
    (fun vs45 m46 =>
      headK vs45 fun a47 r48 =>
      asB a47 fun b49 =>
      bif b49 then
      (some (.ret, [.s (.bool false)], m46))
      else
      (some (.normal, [.s (.int .i64 (IntKind.wrap .i64 (s9 + 1)))], m46)))
    (fun vs50 m51 =>
      headK vs50 fun a55 r56 =>
      asB a55 fun b57 =>
      some (.ret, [.s (.bool b57)], m51))
    (fun d54 vs52 m53 =>
      none))
  else
  (some (.exit 0, [.s (.ptr s0 t0 u0), .s s1], μ)) := by kernel_rfl
theorem overdubref10_Space_Keep_L1_eq (os vs : List AV) (μ : AMem) : overdubref10_Space_Keep_L1 os vs μ = (overdubref10_Space_Keep_L1_B os vs μ).bind fun r => match r.1 with | .normal => overdubref10_Space_Keep_L1 os r.2.1 r.2.2 | _ => some r := loopA_eq _ _ _
theorem overdubref10_Space_Keep_eq (p0 q0 o0 : Nat) (p1 : SV) (μ : AMem) : overdubref10_Space_Keep [.s (.ptr p0 q0 o0), .s p1] μ =
  (lenS (.s p1)).bind fun l1 =>
  seqJ (overdubref10_Space_Keep_L1 [.s (.ptr p0 q0 o0), .s p1, .s (.int .i64 ((l1 : Nat) : Int))] [.s (.int .i64 0)] μ)
  (fun _ _ => none)
  (fun vs2 m3 =>
    headK vs2 fun a7 r8 =>
    asB a7 fun b9 =>
    some (.s (.bool b9), m3))
  (fun d6 vs4 m5 =>
    bif Nat.beq 0 d6 then (headK vs4 fun a10 r11 =>
      asS a10 fun x12 =>
      headK r11 fun a13 r14 =>
      asS a13 fun x15 =>
      nonNil (.s x12)
      (ptrAdd 0 (.s x12) fun p16 =>
        loadAt (m5.bump 18) p16 fun v17 =>
        asI .i64 v17 fun n18 =>
        nonNil (.s x12)
        (ptrAdd 0 (.s x12) fun p19 =>
          loadAt (m5.bump 18) p19 fun v20 =>
          asI .i64 v20 fun n21 =>
          if 0 ≤ n18 ∧ n18 ≤ n18 ∧ n18 ≤ 9223372036854775807 ∧ (8 : Nat) * n18 ≤ 140737488355328 then
          (checkA ((m5.bump 18).obj (m5.next + 6) = none)
            (nonNil (.s x12)
              (ptrAdd 2 (.s x12) fun p22 =>
                storeAt 1 ((m5.bump 18).set (m5.next + 6) (rowObj (zerosA [.int .i64 0] (Int.toNat n18)) 1 3 (some (Int.toNat n18)))) p22 (.s (.slice (m5.next + 6) 0 0 (Int.toNat n18))) fun m23 =>
                if 0 ≤ n21 ∧ n21 ≤ n21 ∧ n21 ≤ 9223372036854775807 ∧ (1 : Nat) * n21 ≤ 140737488355328 then
                (checkA (m23.obj (m5.next + 11) = none)
                  (nonNil (.s x12)
                    (ptrAdd 3 (.s x12) fun p24 =>
                      storeAt 1 (m23.set (m5.next + 11) (rowObj (zerosA [.bool false] (Int.toNat n21)) 1 4 (some (Int.toNat n21)))) p24 (.s (.slice (m5.next + 11) 0 0 (Int.toNat n21))) fun m25 =>
                      (lenS (.s x15)).bind fun l26 =>
                      seqJ (overdubref10_Space_Keep_L2 [.s x12, .s x15, .s (.int .i64 ((l26 : Nat) : Int))] [.s (.int .i64 0)] m25)
                      (fun _ _ => none)
                      (fun vs27 m28 =>
                        headK vs27 fun a32 r33 =>
                        asB a32 fun b34 =>
                        some (.s (.bool b34), m28))
                      (fun d31 vs29 m30 =>
                        bif Nat.beq 2 d31 then (some (.s (.bool true), m30)) else (none))))) else none))) else none))) else (none)) := by kernel_rfl

/-! ### (*overdub/overdubref10.Space).Used -/
noncomputable def G43 : FuncId → FunA := fun _ _ _ => none
def A43 : Ann := .two (.leaf) (.two (.leaf) (.leaf))
def R43 : Slots := [(4, .b)]
noncomputable def overdubref10_Space_Used : FunA := denF Try.prog G43 Try.f43 A43 R43
theorem overdubref10_Space_Used_eq (p0 q0 o0 : Nat) (p1 : Int) (μ : AMem) : overdubref10_Space_Used [.s (.ptr p0 q0 o0), .s (.int .i64 p1)] μ =
  bif !(decide (p1 < 0)) then
  ((μ.cell p0 q0 (o0 + 0)).bind fun x1 =>
    asI .i64 (.s x1) fun n2 =>
    bif !(decide (p1 ≥ n2)) then
    ((μ.cell p0 q0 (o0 + 1)).bind fun x3 =>
      asI .i64 (.s x3) fun n4 =>
      bif !(decide (p1 < n4)) then
      ((μ.cell p0 q0 (o0 + 2)).bind fun x5 =>
        indS 1 (.s x5) p1 fun p6 =>
        loadAt μ p6 fun v7 =>
        asI .i64 v7 fun n8 =>
        bif !(decide (n8 > 0)) then
        ((μ.cell p0 q0 (o0 + 3)).bind fun x9 =>
          indS 1 (.s x9) p1 fun p10 =>
          loadAt μ p10 fun v11 =>
          asB v11 fun b12 =>
          some (.s (.bool b12), μ))
        else
        (some (.s (.bool true), μ)))
      else
      (some (.s (.bool true), μ)))
    else
    (some (.s (.bool true), μ)))
  else
  (some (.s (.bool true), μ)) := by kernel_rfl

/-! ### (*overdub/overdubref10.Space).Take -/
noncomputable def G40 : FuncId → FunA := fun g => bif Nat.beq g 43 then overdubref10_Space_Used else fun _ _ => none
theorem G40_43 : G40 43 = overdubref10_Space_Used := by kernel_rfl
def A40 : Ann := .two (.leaf) (.two (.two (.leaf) (.join [] [] [] (.loop [(4, .i .i64)] [0] [0] (.two (.two (.leaf) (.two (.leaf) (.leaf))) (.two (.join [(0, .s), (4, .i .i64)] [] [] (.two (.leaf) (.two (.two (.leaf) (.two (.leaf) (.leaf))) (.leaf))) .leaf) (.leaf)))) .leaf)) (.two (.leaf) (.leaf)))
def R40 : Slots := [(2, .i .i64), (3, .i .i64)]
noncomputable def overdubref10_Space_Take : FunA := denF Try.prog G40 Try.f40 A40 R40
noncomputable def overdubref10_Space_Take_L1_B (os vs : List AV) (μ : AMem) : Option Res := joinK [(4, .i .i64)] vs (envO [0] os) fun e => den Try.prog G40 Try.f40.ntmps (cL (cL (cR (cL (cR (bodyOf Try.f40)))))) (aL (aL (aR (aL (aR A40))))) { ret := R40, exits := [(0, [])] } Res e μ fun ex e μ => some (ex, valsOf (Lv.at { ret := R40, exits := [(0, [])] } [(4, .i .i64)] ex) e, μ)
noncomputable def overdubref10_Space_Take_L1 (os vs : List AV) (μ : AMem) : Option Res := loopA (overdubref10_Space_Take_L1_B os) vs μ
theorem overdubref10_Space_Take_L1_B_eq (s0 t0 u0 : Nat) (s4 : Int) (μ : AMem) : overdubref10_Space_Take_L1_B [.s (.ptr s0 t0 u0)] [.s (.int .i64 s4)] μ =
  (μ.cell s0 t0 (u0 + 0)).bind fun x12 =>
  asI .i64 (.s x12) fun n13 =>
  bif decide (s4 < n13) then
  ((overdubref10_Space_Used [.s (.ptr s0 t0 u0), .s (.int .i64 s4)] μ).bind fun r14 =>
    asB r14.1 fun b15 =>
    bif (!b15) then
    ((r14.2.cell s0 t0 (u0 + 2)).bind fun x16 =>
      indS 1 (.s x16) s4 fun p17 =>
      storeAt 1 r14.2 p17 (.s (.int .i64 1)) fun m18 =>
      some (.ret, [.s (.int .i64 s4), .s (.int .i64 0)], m18))
    else
    (some (.normal, [.s (.int .i64 (IntKind.wrap .i64 (s4 + 1)))], r14.2)))
  else
  (some (.exit 0, [], μ)) := by rw [← G40_43]; kernel_rfl
theorem overdubref10_Space_Take_L1_eq (os vs : List AV) (μ : AMem) : overdubref10_Space_Take_L1 os vs μ = (overdubref10_Space_Take_L1_B os vs μ).bind fun r => match r.1 with | .normal => overdubref10_Space_Take_L1 os r.2.1 r.2.2 | _ => some r := loopA_eq _ _ _
theorem overdubref10_Space_Take_eq (p0 q0 o0 : Nat) (μ : AMem) : overdubref10_Space_Take [.s (.ptr p0 q0 o0)] μ =
  seqJ (overdubref10_Space_Take_L1 [.s (.ptr p0 q0 o0)] [.s (.int .i64 0)] μ)
  (fun _ _ => none)
  (fun vs1 m2 =>
    headK vs1 fun a6 r7 =>
    asI .i64 a6 fun n8 =>
    headK r7 fun a9 r10 =>
    asI .i64 a9 fun n11 =>
    some (.tuple [.s (.int .i64 n8), .s (.int .i64 n11)], m2))
  (fun d5 vs3 m4 =>
    bif Nat.beq 0 d5 then (some (.tuple [.s (.int .i64 0), .s (.int .i64 3)], m4)) else (none)) := by kernel_rfl

/-! ### (*overdub/overdubref10.Space).Free -/
noncomputable def G41 : FuncId → FunA := fun g => bif Nat.beq g 43 then overdubref10_Space_Used else fun _ _ => none
theorem G41_43 : G41 43 = overdubref10_Space_Used := by kernel_rfl
def A41 : Ann := .two (.leaf) (.two (.leaf) (.two (.two (.leaf) (.join [(3, .i .i64)] [] [] (.loop [(3, .i .i64), (4, .i .i64)] [0] [0] (.two (.two (.leaf) (.two (.leaf) (.leaf))) (.join [(3, .i .i64)] [0, 4] [] (.join [(0, .s), (3, .i .i64), (4, .i .i64)] [] [] (.two (.leaf) (.two (.leaf) (.leaf))) .leaf) (.leaf)))) .leaf)) (.two (.leaf) (.leaf))))
def R41 : Slots := [(2, .i .i64)]
noncomputable def overdubref10_Space_Free : FunA := denF Try.prog G41 Try.f41 A41 R41
noncomputable def overdubref10_Space_Free_L1_B (os vs : List AV) (μ : AMem) : Option Res := joinK [(3, .i .i64), (4, .i .i64)] vs (envO [0] os) fun e => den Try.prog G41 Try.f41.ntmps (cL (cL (cR (cL (cR (cR (bodyOf Try.f41))))))) (aL (aL (aR (aL (aR (aR A41)))))) { ret := R41, exits := [(0, [(3, .i .i64)])] } Res e μ fun ex e μ => some (ex, valsOf (Lv.at { ret := R41, exits := [(0, [(3, .i .i64)])] } [(3, .i .i64), (4, .i .i64)] ex) e, μ)
noncomputable def overdubref10_Space_Free_L1 (os vs : List AV) (μ : AMem) : Option Res := loopA (overdubref10_Space_Free_L1_B os) vs μ
theorem overdubref10_Space_Free_L1_B_eq (s0 t0 u0 : Nat) (s3 : Int) (s4 : Int) (μ : AMem) : overdubref10_Space_Free_L1_B [.s (.ptr s0 t0 u0)] [.s (.int .i64 s3), .s (.int .i64 s4)] μ =
  (μ.cell s0 t0 (u0 + 0)).bind fun x12 =>
  asI .i64 (.s x12) fun n13 =>
  bif decide (s4 < n13) then
  (seqJ
    ((overdubref10_Space_Used [.s (.ptr s0 t0 u0), .s (.int .i64 s4)] μ).bind fun r14 =>
      asB r14.1 fun b15 =>
      bif (!b15) then
      (some (.normal, [.s (.int .i64 (IntKind.wrap .i64 (s3 + 1)))], r14.2))
      else
      (some (.normal, [.s (.int .i64 s3)], r14.2)))
    (fun vs16 m17 =>
      headK vs16 fun a18 r19 =>
      asI .i64 a18 fun n20 =>
      some (.normal, [.s (.int .i64 n20), .s (.int .i64 (IntKind.wrap .i64 (s4 + 1)))], m17))
    (fun vs21 m22 =>
      headK vs21 fun a26 r27 =>
      asI .i64 a26 fun n28 =>
      some (.ret, [.s (.int .i64 n28)], m22))
    (fun d25 vs23 m24 =>
      none))
  else
  (some (.exit 0, [.s (.int .i64 s3)], μ)) := by rw [← G41_43]; kernel_rfl
theorem overdubref10_Space_Free_L1_eq (os vs : List AV) (μ : AMem) : overdubref10_Space_Free_L1 os vs μ = (overdubref10_Space_Free_L1_B os vs μ).bind fun r => match r.1 with | .normal => overdubref10_Space_Free_L1 os r.2.1 r.2.2 | _ => some r := loopA_eq _ _ _
theorem overdubref10_Space_Free_eq (p0 q0 o0 : Nat) (μ : AMem) : overdubref10_Space_Free [.s (.ptr p0 q0 o0)] μ =
  seqJ (overdubref10_Space_Free_L1 [.s (.ptr p0 q0 o0)] [.s (.int .i64 0), .s (.int .i64 0)] μ)
  (fun _ _ => none)
  (fun vs1 m2 =>
    headK vs1 fun a6 r7 =>
    asI .i64 a6 fun n8 =>
    some (.s (.int .i64 n8), m2))
  (fun d5 vs3 m4 =>
    bif Nat.beq 0 d5 then (headK vs3 fun a9 r10 =>
      asI .i64 a9 fun n11 =>
      some (.s (.int .i64 n11), m4)) else (none)) := by kernel_rfl

/-! ### overdub/overdublaw13.play -/
noncomputable def G23 : FuncId → FunA := fun g => bif Nat.beq g 8 then overdubkeep_Within else bif Nat.beq g 10 then space_Space_Drop else bif Nat.beq g 35 then overdubref10_Space_Drop else bif Nat.beq g 18 then space_Space_Share else bif Nat.beq g 36 then overdubref10_Space_Share else bif Nat.beq g 11 then space_Space_Commit else bif Nat.beq g 37 then overdubref10_Space_Commit else bif Nat.beq g 38 then overdubkeep_Cut_int else bif Nat.beq g 20 then space_Space_Keep else bif Nat.beq g 39 then overdubref10_Space_Keep else bif Nat.beq g 12 then space_Space_Take else bif Nat.beq g 40 then overdubref10_Space_Take else bif Nat.beq g 16 then space_Space_Free else bif Nat.beq g 41 then overdubref10_Space_Free else bif Nat.beq g 17 then space_Space_Waiting else bif Nat.beq g 42 then overdubref10_Space_Waiting else bif Nat.beq g 19 then overdubkeep_Same_int else bif Nat.beq g 14 then space_Space_Used else bif Nat.beq g 43 then overdubref10_Space_Used else bif Nat.beq g 13 then space_Space_Of else bif Nat.beq g 44 then overdubref10_Space_Of else fun _ _ => none
theorem G23_8 : G23 8 = overdubkeep_Within := by kernel_rfl
theorem G23_10 : G23 10 = space_Space_Drop := by kernel_rfl
theorem G23_35 : G23 35 = overdubref10_Space_Drop := by kernel_rfl
theorem G23_18 : G23 18 = space_Space_Share := by kernel_rfl
theorem G23_36 : G23 36 = overdubref10_Space_Share := by kernel_rfl
theorem G23_11 : G23 11 = space_Space_Commit := by kernel_rfl
theorem G23_37 : G23 37 = overdubref10_Space_Commit := by kernel_rfl
theorem G23_38 : G23 38 = overdubkeep_Cut_int := by kernel_rfl
theorem G23_20 : G23 20 = space_Space_Keep := by kernel_rfl
theorem G23_39 : G23 39 = overdubref10_Space_Keep := by kernel_rfl
theorem G23_12 : G23 12 = space_Space_Take := by kernel_rfl
theorem G23_40 : G23 40 = overdubref10_Space_Take := by kernel_rfl
theorem G23_16 : G23 16 = space_Space_Free := by kernel_rfl
theorem G23_41 : G23 41 = overdubref10_Space_Free := by kernel_rfl
theorem G23_17 : G23 17 = space_Space_Waiting := by kernel_rfl
theorem G23_42 : G23 42 = overdubref10_Space_Waiting := by kernel_rfl
theorem G23_19 : G23 19 = overdubkeep_Same_int := by kernel_rfl
theorem G23_14 : G23 14 = space_Space_Used := by kernel_rfl
theorem G23_43 : G23 43 = overdubref10_Space_Used := by kernel_rfl
theorem G23_13 : G23 13 = space_Space_Of := by kernel_rfl
theorem G23_44 : G23 44 = overdubref10_Space_Of := by kernel_rfl
def A23 : Ann := .two (.leaf) (.two (.two (.leaf) (.join [] [] [] (.loop [(7, .i .i64)] [0, 1, 2] [0] (.two (.join [(23, .b)] [0, 1, 2, 7] [] (.leaf) (.two (.leaf) (.leaf))) (.two (.join [(0, .s), (1, .s), (2, .s), (7, .i .i64)] [] [] (.two (.leaf) (.two (.leaf) (.join [(9, .b)] [0, 1, 2, 7] [] (.two (.leaf) (.join [(0, .s), (1, .s), (2, .s), (7, .i .i64), (9, .b)] [] [] (.join [(51, .b)] [0, 1, 2, 7, 8, 32] [] (.two (.leaf) (.two (.leaf) (.leaf))) (.two (.ord [0, 1, 2, 4, 5, 6, 3, 7, 8, 9]) (.two (.leaf) (.two (.ord [0, 1, 2, 4, 5, 6, 3, 7, 8, 9]) (.two (.leaf) (.two (.leaf) (.two (.leaf) (.two (.two (.leaf) (.leaf)) (.two (.leaf) (.two (.leaf) (.leaf))))))))))) .leaf)) (.two (.join [(109, .b)] [0, 1, 2, 7] [] (.leaf) (.two (.two (.leaf) (.leaf)) (.leaf))) (.two (.leaf) (.join [(0, .s), (1, .s), (2, .s), (7, .i .i64)] [] [] (.loop [(15, .i .i64)] [0, 1, 2, 7] [3] (.two (.two (.leaf) (.two (.leaf) (.leaf))) (.two (.join [(0, .s), (1, .s), (2, .s), (7, .i .i64), (15, .i .i64)] [] [] (.join [(133, .b)] [0, 1, 2, 7, 15] [] (.leaf) (.two (.two (.leaf) (.leaf)) (.leaf))) .leaf) (.leaf)))) .leaf)))))) .leaf) (.leaf)))) .leaf)) (.two (.leaf) (.leaf)))
def R23 : Slots := [(6, .b)]
noncomputable def overdublaw13_play : FunA := denF Try.prog G23 Try.f23 A23 R23
noncomputable def overdublaw13_play_L2_B (os vs : List AV) (μ : AMem) : Option Res := joinK [(15, .i .i64)] vs (envO [0, 1, 2, 7] os) fun e => den Try.prog G23 Try.f23.ntmps (cL (cL (cR (cR (cR (cR (cR (cL (cL (cR (cL (cL (cR (cL (cR (bodyOf Try.f23)))))))))))))))) (aL (aL (aR (aR (aR (aR (aR (aL (aL (aR (aL (aL (aR (aL (aR A23))))))))))))))) { ret := R23, exits := [(3, [(0, .s), (1, .s), (2, .s), (7, .i .i64)]), (1, [(0, .s), (1, .s), (2, .s), (7, .i .i64)]), (0, [])] } Res e μ fun ex e μ => some (ex, valsOf (Lv.at { ret := R23, exits := [(3, [(0, .s), (1, .s), (2, .s), (7, .i .i64)]), (1, [(0, .s), (1, .s), (2, .s), (7, .i .i64)]), (0, [])] } [(15, .i .i64)] ex) e, μ)
noncomputable def overdublaw13_play_L2 (os vs : List AV) (μ : AMem) : Option Res := loopA (overdublaw13_play_L2_B os) vs μ
noncomputable def overdublaw13_play_L1_B (os vs : List AV) (μ : AMem) : Option Res := joinK [(7, .i .i64)] vs (envO [0, 1, 2] os) fun e => den Try.prog G23 Try.f23.ntmps (cL (cL (cR (cL (cR (bodyOf Try.f23)))))) (aL (aL (aR (aL (aR A23))))) { ret := R23, exits := [(0, [])] } Res e μ fun ex e μ => some (ex, valsOf (Lv.at { ret := R23, exits := [(0, [])] } [(7, .i .i64)] ex) e, μ)
noncomputable def overdublaw13_play_L1 (os vs : List AV) (μ : AMem) : Option Res := loopA (overdublaw13_play_L1_B os) vs μ
theorem overdublaw13_play_L2_B_eq (s0 t0 u0 : Nat) (s1 t1 u1 : Nat) (s2 : SV) (s7 : Int) (s15 : Int) (μ : AMem) : overdublaw13_play_L2_B [.s (.ptr s0 t0 u0), .s (.ptr s1 t1 u1), .s s2, .s (.int .i64 s7)] [.s (.int .i64 s15)] μ =
  (μ.cell s1 t1 (u1 + 0)).bind fun x136 =>
  asI .i64 (.s x136) fun n137 =>
  bif decide (s15 ≤ n137) then
  (seqJ
    ((space_Space_Used [.s (.ptr s0 t0 u0), .s (.int .i64 s15)] μ).bind fun r138 =>
      asB r138.1 fun b139 =>
      (overdubref10_Space_Used [.s (.ptr s1 t1 u1), .s (.int .i64 s15)] r138.2).bind fun r140 =>
      asB r140.1 fun b141 =>
      bif !(!(b139 == b141)) then
      ((space_Space_Of [.s (.ptr s0 t0 u0), .s (.int .i64 s15)] r140.2).bind fun r142 =>
        asI .i64 r142.1 fun n143 =>
        (overdubref10_Space_Of [.s (.ptr s1 t1 u1), .s (.int .i64 s15)] r142.2).bind fun r144 =>
        asI .i64 r144.1 fun n145 =>
        some (.normal, [.s (.bool (n143 != n145))], r144.2))
      else
      (some (.normal, [.s (.bool true)], r140.2)))
    (fun vs146 m147 =>
      headK vs146 fun a148 r149 =>
      asB a148 fun b150 =>
      bif b150 then
      (some (.ret, [.s (.bool false)], m147))
      else
      (some (.normal, [.s (.int .i64 (IntKind.wrap .i64 (s15 + 1)))], m147)))
    (fun vs151 m152 =>
      headK vs151 fun a156 r157 =>
      asB a156 fun b158 =>
      some (.ret, [.s (.bool b158)], m152))
    (fun d155 vs153 m154 =>
      none))
  else
  (some (.exit 3, [.s (.ptr s0 t0 u0), .s (.ptr s1 t1 u1), .s s2, .s (.int .i64 s7)], μ)) := by rw [← G23_14, ← G23_43, ← G23_13, ← G23_44]; kernel_rfl
theorem overdublaw13_play_L2_eq (os vs : List AV) (μ : AMem) : overdublaw13_play_L2 os vs μ = (overdublaw13_play_L2_B os vs μ).bind fun r => match r.1 with | .normal => overdublaw13_play_L2 os r.2.1 r.2.2 | _ => some r := loopA_eq _ _ _
theorem overdublaw13_play_L1_B_eq (s0 t0 u0 : Nat) (s1 t1 u1 : Nat) (s2 : SV) (s7 : Int) (μ : AMem) : overdublaw13_play_L1_B [.s (.ptr s0 t0 u0), .s (.ptr s1 t1 u1), .s s2] [.s (.int .i64 s7)] μ =
  seqJ
  ((lenS (.s s2)).bind fun l9 =>
    bif decide (s7 < ((l9 : Nat) : Int)) then
    (some (.normal, [.s (.bool (decide (s7 < 40)))], μ))
    else
    (some (.normal, [.s (.bool false)], μ)))
  (fun vs10 m11 =>
    headK vs10 fun a12 r13 =>
    asB a12 fun b14 =>
    bif b14 then
    (indS 3 (.s s2) s7 fun p15 =>
      loadsAt (m11.bump 6) 3 p15 fun v16 =>
      storeAt 3 ((m11.bump 6).set (m11.next + 4) (rowObj [.int .i64 0, .int .i64 0, .nilSlice] 3 64 (some 1))) (.s (.ptr (m11.next + 4) 0 0)) v16 fun m17 =>
      seqJ
      ((m17.cell (m11.next + 4) 0 (0 + 0)).bind fun x18 =>
        asI .i64 (.s x18) fun n19 =>
        (overdubkeep_Within [.s (.int .i64 n19), .s (.int .i64 9)] m17).bind fun r20 =>
        asI .i64 r20.1 fun n21 =>
        seqJ
        (bif (n21 == 4) then
          (some (.normal, [.s (.bool (n21 == 4))], r20.2))
          else
          (some (.normal, [.s (.bool (n21 == 5))], r20.2)))
        (fun vs22 m23 =>
          headK vs22 fun a24 r25 =>
          asB a24 fun b26 =>
          bif b26 then
          ((m23.cell (m11.next + 4) 0 (0 + 1)).bind fun x27 =>
            asI .i64 (.s x27) fun n28 =>
            (m23.cell (m11.next + 4) 0 (0 + 1)).bind fun x29 =>
            asI .i64 (.s x29) fun n30 =>
            (space_Space_Drop [.s (.ptr s0 t0 u0), .s (.int .i64 n28)] m23).bind fun r31 =>
            asB r31.1 fun b32 =>
            checkA (((r31.2.cell (m11.next + 4) 0 (0 + 1)).bind fun x => some (AV.s x)) = some (.s (.int .i64 n30)))
            ((overdubref10_Space_Drop [.s (.ptr s1 t1 u1), .s (.int .i64 n30)] r31.2).bind fun r33 =>
              asB r33.1 fun b34 =>
              some (.normal, [.s (.bool (b32 == b34))], r33.2)))
          else
          (bif (n21 == 6) then
            ((m23.cell (m11.next + 4) 0 (0 + 1)).bind fun x35 =>
              asI .i64 (.s x35) fun n36 =>
              (m23.cell (m11.next + 4) 0 (0 + 1)).bind fun x37 =>
              asI .i64 (.s x37) fun n38 =>
              (space_Space_Share [.s (.ptr s0 t0 u0), .s (.int .i64 n36)] m23).bind fun r39 =>
              asB r39.1 fun b40 =>
              checkA (((r39.2.cell (m11.next + 4) 0 (0 + 1)).bind fun x => some (AV.s x)) = some (.s (.int .i64 n38)))
              ((overdubref10_Space_Share [.s (.ptr s1 t1 u1), .s (.int .i64 n38)] r39.2).bind fun r41 =>
                asB r41.1 fun b42 =>
                some (.normal, [.s (.bool (b40 == b42))], r41.2)))
            else
            (bif (n21 == 7) then
              ((space_Space_Commit [.s (.ptr s0 t0 u0)] m23).bind fun r43 =>
                asI .i64 r43.1 fun n44 =>
                (overdubref10_Space_Commit [.s (.ptr s1 t1 u1)] r43.2).bind fun r45 =>
                asI .i64 r45.1 fun n46 =>
                some (.normal, [.s (.bool (n44 == n46))], r45.2))
              else
              (bif (n21 == 8) then
                ((m23.cell (m11.next + 4) 0 (0 + 2)).bind fun x47 =>
                  (overdubkeep_Cut_int [.s x47, .s (.int .i64 8)] m23).bind fun r48 =>
                  asS r48.1 fun x49 =>
                  (space_Space_Keep [.s (.ptr s0 t0 u0), .s x49] r48.2).bind fun r50 =>
                  asB r50.1 fun b51 =>
                  (overdubref10_Space_Keep [.s (.ptr s1 t1 u1), .s x49] r50.2).bind fun r52 =>
                  asB r52.1 fun b53 =>
                  some (.normal, [.s (.bool (b51 == b53))], r52.2))
                else
                ((space_Space_Take [.s (.ptr s0 t0 u0)] m23).bind fun r54 =>
                  extrK 0 r54.1 fun t55 =>
                  asI .i64 t55 fun n56 =>
                  extrK 1 r54.1 fun t57 =>
                  asI .i64 t57 fun n58 =>
                  (overdubref10_Space_Take [.s (.ptr s1 t1 u1)] r54.2).bind fun r59 =>
                  extrK 0 r59.1 fun t60 =>
                  asI .i64 t60 fun n61 =>
                  extrK 1 r59.1 fun t62 =>
                  asI .i64 t62 fun n63 =>
                  bif (n56 == n61) then
                  (some (.normal, [.s (.bool (n58 == n63))], r59.2))
                  else
                  (some (.normal, [.s (.bool false)], r59.2)))))))
        (fun vs64 m65 =>
          headK vs64 fun a69 r70 =>
          asB a69 fun b71 =>
          some (.ret, [.s (.bool b71)], m65))
        (fun d68 vs66 m67 =>
          none))
      (fun vs72 m73 =>
        headK vs72 fun a74 r75 =>
        asB a74 fun b76 =>
        seqJ
        (bif !(!b76) then
          ((space_Space_Free [.s (.ptr s0 t0 u0)] m73).bind fun r77 =>
            asI .i64 r77.1 fun n78 =>
            (overdubref10_Space_Free [.s (.ptr s1 t1 u1)] r77.2).bind fun r79 =>
            asI .i64 r79.1 fun n80 =>
            bif !(n78 != n80) then
            ((space_Space_Waiting [.s (.ptr s0 t0 u0)] r79.2).bind fun r81 =>
              asS r81.1 fun x82 =>
              (overdubref10_Space_Waiting [.s (.ptr s1 t1 u1)] r81.2).bind fun r83 =>
              asS r83.1 fun x84 =>
              (overdubkeep_Same_int [.s x82, .s x84] r83.2).bind fun r85 =>
              asB r85.1 fun b86 =>
              some (.normal, [.s (.bool (!b86))], r85.2))
            else
            (some (.normal, [.s (.bool true)], r79.2)))
          else
          (some (.normal, [.s (.bool true)], m73)))
        (fun vs87 m88 =>
          headK vs87 fun a89 r90 =>
          asB a89 fun b91 =>
          bif b91 then
          (some (.ret, [.s (.bool false)], m88))
          else
          (seqJ (overdublaw13_play_L2 [.s (.ptr s0 t0 u0), .s (.ptr s1 t1 u1), .s s2, .s (.int .i64 s7)] [.s (.int .i64 (-1))] m88)
            (fun _ _ => none)
            (fun vs92 m93 =>
              headK vs92 fun a97 r98 =>
              asB a97 fun b99 =>
              some (.ret, [.s (.bool b99)], m93))
            (fun d96 vs94 m95 =>
              bif Nat.beq 3 d96 then (headK vs94 fun a100 r101 =>
                asS a100 fun x102 =>
                headK r101 fun a103 r104 =>
                asS a103 fun x105 =>
                headK r104 fun a106 r107 =>
                asS a106 fun x108 =>
                headK r107 fun a109 r110 =>
                asI .i64 a109 fun n111 =>
                some (.normal, [.s (.int .i64 (IntKind.wrap .i64 (n111 + 1)))], m95)) else (none))))
        (fun vs112 m113 =>
          headK vs112 fun a117 r118 =>
          asB a117 fun b119 =>
          some (.ret, [.s (.bool b119)], m113))
        (fun d116 vs114 m115 =>
          none))
      (fun vs120 m121 =>
        headK vs120 fun a125 r126 =>
        asB a125 fun b127 =>
        some (.ret, [.s (.bool b127)], m121))
      (fun d124 vs122 m123 =>
        none))
    else
    (some (.exit 0, [], m11)))
  (fun vs128 m129 =>
    headK vs128 fun a133 r134 =>
    asB a133 fun b135 =>
    some (.ret, [.s (.bool b135)], m129))
  (fun d132 vs130 m131 =>
    none) := by rw [← G23_8, ← G23_10, ← G23_35, ← G23_18, ← G23_36, ← G23_11, ← G23_37, ← G23_38, ← G23_20, ← G23_39, ← G23_12, ← G23_40, ← G23_16, ← G23_41, ← G23_17, ← G23_42, ← G23_19]; kernel_rfl
theorem overdublaw13_play_L1_eq (os vs : List AV) (μ : AMem) : overdublaw13_play_L1 os vs μ = (overdublaw13_play_L1_B os vs μ).bind fun r => match r.1 with | .normal => overdublaw13_play_L1 os r.2.1 r.2.2 | _ => some r := loopA_eq _ _ _
theorem overdublaw13_play_eq (p0 q0 o0 : Nat) (p1 q1 o1 : Nat) (p2 : SV) (μ : AMem) : overdublaw13_play [.s (.ptr p0 q0 o0), .s (.ptr p1 q1 o1), .s p2] μ =
  seqJ (overdublaw13_play_L1 [.s (.ptr p0 q0 o0), .s (.ptr p1 q1 o1), .s p2] [.s (.int .i64 0)] μ)
  (fun _ _ => none)
  (fun vs1 m2 =>
    headK vs1 fun a6 r7 =>
    asB a6 fun b8 =>
    some (.s (.bool b8), m2))
  (fun d5 vs3 m4 =>
    bif Nat.beq 0 d5 then (some (.s (.bool true), m4)) else (none)) := by kernel_rfl

/-! ### (*overdub/bitmap.Map).Clone -/
noncomputable def G45 : FuncId → FunA := fun _ _ _ => none
def A45 : Ann := .two (.leaf) (.two (.leaf) (.two (.two (.leaf) (.join [(3, .s)] [] [] (.loop [(17, .i .i64)] [3, 15, 16] [0] (.two (.leaf) (.two (.two (.leaf) (.leaf)) (.two (.join [(3, .s), (15, .s), (16, .i .i64), (17, .i .i64)] [] [] (.two (.leaf) (.ord [0, 1, 2, 3, 4, 5, 6, 7, 8, 9, 10, 11])) .leaf) (.leaf))))) .leaf)) (.two (.leaf) (.leaf))))
def R45 : Slots := [(2, .s)]
noncomputable def bitmap_Map_Clone : FunA := denF Try.prog G45 Try.f45 A45 R45
noncomputable def bitmap_Map_Clone_L1_B (os vs : List AV) (μ : AMem) : Option Res := joinK [(17, .i .i64)] vs (envO [3, 15, 16] os) fun e => den Try.prog G45 Try.f45.ntmps (cL (cL (cR (cL (cR (cR (bodyOf Try.f45))))))) (aL (aL (aR (aL (aR (aR A45)))))) { ret := R45, exits := [(0, [(3, .s)])] } Res e μ fun ex e μ => some (ex, valsOf (Lv.at { ret := R45, exits := [(0, [(3, .s)])] } [(17, .i .i64)] ex) e, μ)
noncomputable def bitmap_Map_Clone_L1 (os vs : List AV) (μ : AMem) : Option Res := loopA (bitmap_Map_Clone_L1_B os) vs μ
theorem bitmap_Map_Clone_L1_B_eq (s3 t3 u3 : Nat) (s15 : SV) (s16 : Int) (s17 : Int) (μ : AMem) : bitmap_Map_Clone_L1_B [.s (.ptr s3 t3 u3), .s s15, .s (.int .i64 s16)] [.s (.int .i64 s17)] μ =
  bif decide (s17 < s16) then
  (indS 1 (.s s15) s17 fun p16 =>
    loadAt μ p16 fun v17 =>
    asS v17 fun x18 =>
    ((μ.bump 12).cell s3 t3 (u3 + 1)).bind fun x19 =>
    appendA 78 1 8 (μ.next + 6) (μ.bump 12) (.s .nilSlice) (.s x18) fun x20 m21 =>
    asS x20 fun x22 =>
    checkA (((m21.cell s3 t3 (u3 + 1)).bind fun x => some (AV.s x)) = some (.s x19))
    (checkA (m21.obj (μ.next + 7) = none)
      (appendA 79 1 24 (μ.next + 8) (m21.set (μ.next + 7) (rowObj [x22] 1 79 (some 1))) (.s x19) (.s (.slice (μ.next + 7) 0 0 1)) fun x23 m24 =>
        asS x23 fun x25 =>
        (m24.store s3 t3 (u3 + 1) [x25]).bind fun m26 =>
        some (.normal, [.s (.int .i64 (IntKind.wrap .i64 (s17 + 1)))], m26))))
  else
  (some (.exit 0, [.s (.ptr s3 t3 u3)], μ)) := by kernel_rfl
theorem bitmap_Map_Clone_L1_eq (os vs : List AV) (μ : AMem) : bitmap_Map_Clone_L1 os vs μ = (bitmap_Map_Clone_L1_B os vs μ).bind fun r => match r.1 with | .normal => bitmap_Map_Clone_L1 os r.2.1 r.2.2 | _ => some r := loopA_eq _ _ _
theorem bitmap_Map_Clone_eq (p0 q0 o0 : Nat) (μ : AMem) : bitmap_Map_Clone [.s (.ptr p0 q0 o0)] μ =
  ((μ.bump 7).cell p0 q0 (o0 + 0)).bind fun x1 =>
  asI .i64 (.s x1) fun n2 =>
  (((μ.bump 7).set (μ.next + 5) (rowObj [.int .i64 n2, .nilSlice] 2 77 (some 1))).cell p0 q0 (o0 + 1)).bind fun x3 =>
  (lenS (.s x3)).bind fun l4 =>
  seqJ (bitmap_Map_Clone_L1 [.s (.ptr (μ.next + 5) 0 0), .s x3, .s (.int .i64 ((l4 : Nat) : Int))] [.s (.int .i64 0)] ((μ.bump 7).set (μ.next + 5) (rowObj [.int .i64 n2, .nilSlice] 2 77 (some 1))))
  (fun _ _ => none)
  (fun vs5 m6 =>
    headK vs5 fun a10 r11 =>
    asS a10 fun x12 =>
    some (.s x12, m6))
  (fun d9 vs7 m8 =>
    bif Nat.beq 0 d9 then (headK vs7 fun a13 r14 =>
      asS a13 fun x15 =>
      some (.s x15, m8)) else (none)) := by kernel_rfl

/-! ### (*overdub/refs.Table).Clone -/
noncomputable def G46 : FuncId → FunA := fun _ _ _ => none
def A46 : Ann := .two (.leaf) (.two (.leaf) (.leaf))
def R46 : Slots := [(2, .s)]
noncomputable def refs_Table_Clone : FunA := denF Try.prog G46 Try.f46 A46 R46
theorem refs_Table_Clone_eq (p0 q0 o0 : Nat) (μ : AMem) : refs_Table_Clone [.s (.ptr p0 q0 o0)] μ =
  ((μ.bump 8).cell p0 q0 (o0 + 0)).bind fun x1 =>
  appendA 3 1 8 (μ.next + 4) (μ.bump 8) (.s .nilSlice) (.s x1) fun x2 m3 =>
  asS x2 fun x4 =>
  some (.s (.ptr (μ.next + 6) 0 0), (m3.set (μ.next + 6) (rowObj [x4] 1 74 (some 1)))) := by kernel_rfl

/-! ### (*overdub/space.Space).Clone -/
noncomputable def G24 : FuncId → FunA := fun g => bif Nat.beq g 45 then bitmap_Map_Clone else bif Nat.beq g 46 then refs_Table_Clone else bif Nat.beq g 17 then space_Space_Waiting else fun _ _ => none
theorem G24_45 : G24 45 = bitmap_Map_Clone := by kernel_rfl
theorem G24_46 : G24 46 = refs_Table_Clone := by kernel_rfl
theorem G24_17 : G24 17 = space_Space_Waiting := by kernel_rfl
def A24 : Ann := .two (.leaf) (.two (.ord [0, 1, 2, 3, 4, 5, 6, 7, 9, 10, 11, 12, 8, 13, 14, 15, 16, 17, 18]) (.leaf))
def R24 : Slots := [(2, .s)]
noncomputable def space_Space_Clone : FunA := denF Try.prog G24 Try.f24 A24 R24
theorem space_Space_Clone_eq (p0 q0 o0 : Nat) (μ : AMem) : space_Space_Clone [.s (.ptr p0 q0 o0)] μ =
  ((μ.bump 19).cell p0 q0 (o0 + 0)).bind fun x1 =>
  asI .i64 (.s x1) fun n2 =>
  ((μ.bump 19).cell p0 q0 (o0 + 1)).bind fun x3 =>
  ((μ.bump 19).cell p0 q0 (o0 + 2)).bind fun x4 =>
  (bitmap_Map_Clone [.s x3] (μ.bump 19)).bind fun r5 =>
  asS r5.1 fun x6 =>
  checkA (((r5.2.cell p0 q0 (o0 + 2)).bind fun x => some (AV.s x)) = some (.s x4))
  (checkA (((r5.2.cell p0 q0 (o0 + 0)).bind fun x => some (AV.s x)) = some (.s (.int .i64 n2)))
    ((refs_Table_Clone [.s x4] r5.2).bind fun r7 =>
      asS r7.1 fun x8 =>
      checkA (((r7.2.cell p0 q0 (o0 + 0)).bind fun x => some (AV.s x)) = some (.s (.int .i64 n2)))
      ((space_Space_Waiting [.s (.ptr p0 q0 o0)] r7.2).bind fun r9 =>
        asS r9.1 fun x10 =>
        checkA (((r9.2.cell p0 q0 (o0 + 0)).bind fun x => some (AV.s x)) = some (.s (.int .i64 n2)))
        (checkA (r9.2.obj (μ.next + 17) = none)
          (some (.s (.ptr (μ.next + 17) 0 0), (r9.2.set (μ.next + 17) (rowObj [.int .i64 n2, x6, x8, x10] 4 54 (some 1))))))))) := by rw [← G24_45, ← G24_46, ← G24_17]; kernel_rfl

/-! ### (*overdub/overdubref10.Space).Copy -/
noncomputable def G25 : FuncId → FunA := fun _ _ _ => none
def A25 : Ann := .two (.leaf) (.two (.ord [0, 1, 2, 3, 4, 5, 6, 7, 8, 9, 10, 11, 13, 14, 15, 16, 12, 17, 18, 19, 20]) (.leaf))
def R25 : Slots := [(2, .s)]
noncomputable def overdubref10_Space_Copy : FunA := denF Try.prog G25 Try.f25 A25 R25
theorem overdubref10_Space_Copy_eq (p0 q0 o0 : Nat) (μ : AMem) : overdubref10_Space_Copy [.s (.ptr p0 q0 o0)] μ =
  ((μ.bump 21).cell p0 q0 (o0 + 0)).bind fun x1 =>
  asI .i64 (.s x1) fun n2 =>
  ((μ.bump 21).cell p0 q0 (o0 + 1)).bind fun x3 =>
  asI .i64 (.s x3) fun n4 =>
  ((μ.bump 21).cell p0 q0 (o0 + 2)).bind fun x5 =>
  ((μ.bump 21).cell p0 q0 (o0 + 3)).bind fun x6 =>
  appendA 3 1 8 (μ.next + 12) (μ.bump 21) (.s .nilSlice) (.s x5) fun x7 m8 =>
  asS x7 fun x9 =>
  checkA (((m8.cell p0 q0 (o0 + 3)).bind fun x => some (AV.s x)) = some (.s x6))
  (checkA (((m8.cell p0 q0 (o0 + 1)).bind fun x => some (AV.s x)) = some (.s (.int .i64 n4)))
    (checkA (((m8.cell p0 q0 (o0 + 0)).bind fun x => some (AV.s x)) = some (.s (.int .i64 n2)))
      (appendA 4 1 1 (μ.next + 17) m8 (.s .nilSlice) (.s x6) fun x10 m11 =>
        asS x10 fun x12 =>
        checkA (((m11.cell p0 q0 (o0 + 1)).bind fun x => some (AV.s x)) = some (.s (.int .i64 n4)))
        (checkA (((m11.cell p0 q0 (o0 + 0)).bind fun x => some (AV.s x)) = some (.s (.int .i64 n2)))
          (checkA (m11.obj (μ.next + 19) = none)
            (some (.s (.ptr (μ.next + 19) 0 0), (m11.set (μ.next + 19) (rowObj [.int .i64 n2, .int .i64 n4, x9, x12] 4 62 (some 1)))))))))) := by kernel_rfl

/-! ### overdub/overdublaw13.SpacePlays -/
noncomputable def G7 : FuncId → FunA := fun g => bif Nat.beq g 8 then overdubkeep_Within else bif Nat.beq g 9 then space_New else bif Nat.beq g 22 then overdubref10_NewSpace else bif Nat.beq g 15 then overdublaw13_wakes else bif Nat.beq g 23 then overdublaw13_play else bif Nat.beq g 24 then space_Space_Clone else bif Nat.beq g 25 then overdubref10_Space_Copy else fun _ _ => none
theorem G7_8 : G7 8 = overdubkeep_Within := by kernel_rfl
theorem G7_9 : G7 9 = space_New := by kernel_rfl
theorem G7_22 : G7 22 = overdubref10_NewSpace := by kernel_rfl
theorem G7_15 : G7 15 = overdublaw13_wakes := by kernel_rfl
theorem G7_23 : G7 23 = overdublaw13_play := by kernel_rfl
theorem G7_24 : G7 24 = space_Space_Clone := by kernel_rfl
theorem G7_25 : G7 25 = overdubref10_Space_Copy := by kernel_rfl
def A7 : Ann := .two (.leaf) (.join [(0, .i .i64)] [1, 2, 3] [] (.join [(20, .b)] [0, 1, 2, 3] [] (.leaf) (.two (.leaf) (.leaf))) (.join [(1, .i .i64)] [0, 2, 3] [] (.join [(29, .b)] [0, 1, 2, 3] [] (.leaf) (.two (.leaf) (.leaf))) (.two (.leaf) (.two (.leaf) (.two (.two (.leaf) (.two (.two (.leaf) (.leaf)) (.leaf))) (.two (.join [(67, .b)] [2, 3, 9, 11] [] (.leaf) (.two (.two (.leaf) (.leaf)) (.leaf))) (.two (.leaf) (.two (.leaf) (.leaf)))))))))
def R7 : Slots := [(8, .b)]
noncomputable def overdublaw13_SpacePlays : FunA := denF Try.prog G7 Try.f7 A7 R7
theorem overdublaw13_SpacePlays_eq (p0 : Int) (p1 : Int) (p2 : SV) (p3 : SV) (μ : AMem) : overdublaw13_SpacePlays [.s (.int .i64 p0), .s (.int .i64 p1), .s p2, .s p3] μ =
  seqJ
  (seqJ
    (bif decide (p0 > 20) then
      (some (.normal, [.s (.bool (decide (p0 ≤ 4096)))], μ))
      else
      (some (.normal, [.s (.bool false)], μ)))
    (fun vs1 m2 =>
      headK vs1 fun a3 r4 =>
      asB a3 fun b5 =>
      bif b5 then
      ((overdubkeep_Within [.s (.int .i64 p0), .s (.int .i64 20)] m2).bind fun r6 =>
        asI .i64 r6.1 fun n7 =>
        some (.normal, [.s (.int .i64 n7)], r6.2))
      else
      (some (.normal, [.s (.int .i64 p0)], m2)))
    (fun vs8 m9 =>
      headK vs8 fun a13 r14 =>
      asB a13 fun b15 =>
      some (.ret, [.s (.bool b15)], m9))
    (fun d12 vs10 m11 =>
      none))
  (fun vs16 m17 =>
    headK vs16 fun a18 r19 =>
    asI .i64 a18 fun n20 =>
    seqJ
    (seqJ
      (bif decide (p1 > 5) then
        (some (.normal, [.s (.bool (decide (p1 ≤ n20)))], m17))
        else
        (some (.normal, [.s (.bool false)], m17)))
      (fun vs21 m22 =>
        headK vs21 fun a23 r24 =>
        asB a23 fun b25 =>
        bif b25 then
        ((overdubkeep_Within [.s (.int .i64 p1), .s (.int .i64 5)] m22).bind fun r26 =>
          asI .i64 r26.1 fun n27 =>
          some (.normal, [.s (.int .i64 n27)], r26.2))
        else
        (some (.normal, [.s (.int .i64 p1)], m22)))
      (fun vs28 m29 =>
        headK vs28 fun a33 r34 =>
        asB a33 fun b35 =>
        some (.ret, [.s (.bool b35)], m29))
      (fun d32 vs30 m31 =>
        none))
    (fun vs36 m37 =>
      headK vs36 fun a38 r39 =>
      asI .i64 a38 fun n40 =>
      (space_New [.s (.int .i64 n20), .s (.int .i64 n40)] m37).bind fun r41 =>
      extrK 0 r41.1 fun t42 =>
      asS t42 fun x43 =>
      extrK 1 r41.1 fun t44 =>
      asI .i64 t44 fun n45 =>
      (overdubref10_NewSpace [.s (.int .i64 n20), .s (.int .i64 n40)] r41.2).bind fun r46 =>
      extrK 0 r46.1 fun t47 =>
      asS t47 fun x48 =>
      extrK 1 r46.1 fun t49 =>
      asB t49 fun b50 =>
      bif (!b50) then
      (bif (n45 == 1) then
        ((isNil (.s x43)).bind fun b51 =>
          bif b51 then
          ((overdublaw13_wakes [] r46.2).bind fun r52 =>
            asB r52.1 fun b53 =>
            some (.s (.bool b53), r52.2))
          else
          (some (.s (.bool false), r46.2)))
        else
        (some (.s (.bool false), r46.2)))
      else
      (seqJ
        (bif !(n45 != 0) then
          ((isNil (.s x43)).bind fun b54 =>
            bif !b54 then
            ((overdublaw13_play [.s x43, .s x48, .s p2] r46.2).bind fun r55 =>
              asB r55.1 fun b56 =>
              some (.normal, [.s (.bool (!b56))], r55.2))
            else
            (some (.normal, [.s (.bool true)], r46.2)))
          else
          (some (.normal, [.s (.bool true)], r46.2)))
        (fun vs57 m58 =>
          headK vs57 fun a59 r60 =>
          asB a59 fun b61 =>
          bif b61 then
          (some (.s (.bool false), m58))
          else
          ((space_Space_Clone [.s x43] m58).bind fun r62 =>
            asS r62.1 fun x63 =>
            (overdubref10_Space_Copy [.s x48] r62.2).bind fun r64 =>
            asS r64.1 fun x65 =>
            (isNil (.s x63)).bind fun b66 =>
            bif (!b66) then
            ((overdublaw13_play [.s x63, .s x65, .s p3] r64.2).bind fun r67 =>
              asB r67.1 fun b68 =>
              bif b68 then
              ((overdublaw13_play [.s x43, .s x48, .s p2] r67.2).bind fun r69 =>
                asB r69.1 fun b70 =>
                bif b70 then
                ((overdublaw13_wakes [] r69.2).bind fun r71 =>
                  asB r71.1 fun b72 =>
                  some (.s (.bool b72), r71.2))
                else
                (some (.s (.bool false), r69.2)))
              else
              (some (.s (.bool false), r67.2)))
            else
            (some (.s (.bool false), r64.2))))
        (fun vs73 m74 =>
          headK vs73 fun a78 r79 =>
          asB a78 fun b80 =>
          some (.s (.bool b80), m74))
        (fun d77 vs75 m76 =>
          none)))
    (fun vs81 m82 =>
      headK vs81 fun a86 r87 =>
      asB a86 fun b88 =>
      some (.s (.bool b88), m82))
    (fun d85 vs83 m84 =>
      none))
  (fun vs89 m90 =>
    headK vs89 fun a94 r95 =>
    asB a94 fun b96 =>
    some (.s (.bool b96), m90))
  (fun d93 vs91 m92 =>
    none) := by rw [← G7_8, ← G7_9, ← G7_22, ← G7_15, ← G7_23, ← G7_24, ← G7_25]; kernel_rfl

end Go.Proofs.Ytkikncdhmifkaaa
